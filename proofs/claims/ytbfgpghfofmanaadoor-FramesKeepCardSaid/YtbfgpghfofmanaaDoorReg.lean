/-
  A region that draws its order, in which loads stand beside effects: what is loaded may be taken first where nobody writes it, but for the last operations, which wait for all others. No program stands here.
-/
import Derived.OrdersHeld
import Derived.Deep.MidRow
import Derived.Test.YtbfgpghfofmanaaDoorMem
namespace Go.Proofs.YtbfgpghfofmanaaDoor
open Go

section
variable {P : Program} {ops : Array Oper} {Q : Exit → Act → World → Prop} {md : Region.Mode} {S : World → Prop} {k : Nat}

/-- Whatever order is picked, and S holds behind each operation whose number is below k. -/
def wpAnyC (P : Program) (md : Region.Mode) (ops : Array Oper) (Q : Exit → Act → World → Prop) (k : Nat) (S : World → Prop) : Nat → Array Bool → Act → World → Prop
  | 0, listed, a, w => Region.ready md ops listed = [] ∧ Q .normal a w
  | fuel + 1, listed, a, w =>
    (Region.ready md ops listed = [] → Q .normal a w) ∧
    ∀ i ∈ Region.ready md ops listed, wpOp P ops Q i (fun a' w' => (i < k → S w') ∧ wpAnyC P md ops Q k S fuel (listed.setIfInBounds i true) a' w') a w

theorem wpAny_of_C : ∀ (fuel : Nat) (listed : Array Bool) (a : Act) (w : World), wpAnyC P md ops Q k S fuel listed a w → wpAny P md ops Q fuel listed a w
  | 0, _, _, _, h => h
  | fuel + 1, _, _, _, h => ⟨h.1, fun i hi => wpOp_mono (fun a' w' h' => wpAny_of_C fuel _ a' w' h'.2) (h.2 i hi)⟩

/-- All operations from k on that have not come up wait for i. -/
def tailWaits (md : Region.Mode) (ops : Array Oper) (listed : Array Bool) (k i : Nat) : Bool :=
  (List.range ops.size).all fun j => decide (j < k) || listed.getD j true || (((ops[j]?).map fun o => o.after.any fun e => Region.binds md e && e.on == i).getD true)

theorem tailWaits_spec {listed : Array Bool} {i : Nat} (h : tailWaits md ops listed k i = true) {j : Nat} (hj : j ∈ Region.ready md ops listed) (hi : listed.getD i false = false) : j < k := by
  obtain ⟨hjun, oj, hoj, hall⟩ := mem_ready.1 hj
  have hlt : j < ops.size := by
    rcases Nat.lt_or_ge j ops.size with h1 | h1
    · exact h1
    · rw [Array.getElem?_eq_none h1] at hoj; cases hoj
  have hx := List.all_eq_true.1 h j (by simpa using hlt)
  simp only [hoj, Option.map_some, Option.getD_some, Bool.or_eq_true, decide_eq_true_eq] at hx
  rcases hx with (h1 | h1) | h1
  · exact h1
  · rw [hjun] at h1; cases h1
  · rw [Array.any_eq_true'] at h1
    obtain ⟨e, he, hb⟩ := h1
    simp only [Bool.and_eq_true, beq_iff_eq] at hb
    have h2 := hall e he hb.1
    rw [hb.2, hi] at h2
    cases h2

theorem getD_self (l : Array Bool) (m : Nat) : (l.setIfInBounds m true).getD m true = true := by
  rcases Nat.lt_or_ge m l.size with h | h
  · simp [h]
  · simp [h]

theorem wpAnyC_first {i : Nat} {oi : Oper} {v : Value} (hi : ops[i]? = some oi) (hsel : ∀ (j : Nat) (o : Oper) cs b, ops[j]? = some o → o.op ≠ .select cs b)
    (hQ : ∀ c a w, Q (.panic c) (a.put oi.dst v) w → Q (.panic c) a w) (hik : i < k) :
    ∀ (fuel : Nat) (listed : Array Bool) (a : Act) (w : World),
      (∀ j oj, ops[j]? = some oj → j ≠ i → listed.getD j true = false → (∀ e ∈ oj.after, Region.binds md e = true → e.on ≠ i) → oi.apart ops oj = true) →
      (∀ l : Array Bool, l.getD i false = false → (∀ j, listed.getD j true = true → l.getD j true = true) → ∀ j ∈ Region.ready md ops l, j < k) →
      i ∈ Region.ready md ops listed → YieldsIf P ops S oi v a → S w →
      wpAnyC P md ops Q k S fuel (listed.setIfInBounds i true) (a.put oi.dst v) w → wpAnyC P md ops Q k S (fuel + 1) listed a w := by
  have hun : ∀ {l : Array Bool}, i ∈ Region.ready md ops l → l.getD i false = false := by
    intro l hr
    have h0 := (mem_ready.1 hr).1
    rcases Nat.lt_or_ge i l.size with h' | h'
    · simp [h'] at h0 ⊢; exact h0
    · simp [Array.getElem?_eq_none h'] at h0
  intro fuel
  induction fuel with
  | zero =>
    intro listed a w _ _ hr hy hS H
    refine ⟨fun h => (by rw [h] at hr; cases hr), fun j hj => ?_⟩
    by_cases hji : j = i
    · subst hji; exact hy.wpOp hi hS ⟨fun _ => hS, H⟩
    · have := ready_mono hj hji
      rw [H.1] at this
      cases this
  | succ fuel ih =>
    intro listed a w hfree htail hr hy hS H
    refine ⟨fun h => (by rw [h] at hr; cases hr), fun j hj => ?_⟩
    by_cases hji : j = i
    · subst hji; exact hy.wpOp hi hS ⟨fun _ => hS, H⟩
    · have h1 := H.2 j (ready_mono hj hji)
      have hjk := htail listed (hun hr) (fun _ h => h) j hj
      obtain ⟨hjun, oj, hoj, hall⟩ := mem_ready.1 hj
      have hnot : ∀ e ∈ oj.after, Region.binds md e = true → e.on ≠ i := fun e he hb heq => by
        have h2 := hall e he hb
        rw [heq, hun hr] at h2
        cases h2
      have h2 := wpOp_putIf hoj (hfree j oj hoj hji hjun hnot) (fun cs b => hsel i oi cs b hi) (fun cs b => hsel j oj cs b hoj) hQ hy h1
      refine wpOp_mono (fun a' w' h' => ?_) h2
      obtain ⟨hy', hSS, h3⟩ := h'
      refine ⟨hSS, ih (listed.setIfInBounds j true) a' w' ?_ ?_ (ready_mono hr (fun e => hji e.symm)) hy' (hSS hjk) ?_⟩
      · intro m om hm hmi hml hne
        refine hfree m om hm hmi ?_ hne
        by_cases hmj : m = j
        · subst hmj; rw [getD_self] at hml; cases hml
        · rwa [getD_set_ne true (Ne.symm hmj)] at hml
      · intro l hl hmore
        refine htail l hl (fun m hm => hmore m ?_)
        by_cases hmj : m = j
        · subst hmj; exact getD_self _ _
        · rwa [getD_set_ne true (Ne.symm hmj)]
      · rw [Array.setIfInBounds_comm _ _ (fun e => hji e.symm)] at h3
        exact h3

theorem wpAnyC_take (i : Nat) {oi : Oper} {v : Value} {fuel : Nat} {listed : Array Bool} {a : Act} {w : World} (hi : ops[i]? = some oi)
    (hs : (Region.noSelect ops && (decide (i < k) && (Region.free md ops listed i && (tailWaits md ops listed k i && (Region.ready md ops listed).contains i)))) = true)
    (hQ : ∀ c a w, Q (.panic c) (a.put oi.dst v) w → Q (.panic c) a w) (hw : Region.wanted oi (yielded ops a.tmps) = true)
    (hy : ∀ w, S w → (execOp a.eval oi).run P w = .ok (.value v) w) (hS : S w)
    (h : wpAnyC P md ops Q k S fuel (listed.setIfInBounds i true) (a.put oi.dst v) w) : wpAnyC P md ops Q k S (fuel + 1) listed a w := by
  simp only [Bool.and_eq_true, decide_eq_true_eq] at hs
  obtain ⟨h1, h2, h3, h4, h5⟩ := hs
  refine wpAnyC_first hi (Region.noSelect_spec h1) hQ h2 fuel listed a w (Region.free_spec hi h3) ?_ (by simpa using h5) (.inl ⟨hw, hy⟩) hS h
  intro l hl hm j hj
  refine tailWaits_spec (listed := l) (i := i) ?_ hj hl
  unfold tailWaits at h4 ⊢
  refine List.all_eq_true.2 fun x hx => ?_
  have hx2 := List.all_eq_true.1 h4 x hx
  simp only [Bool.or_eq_true, decide_eq_true_eq] at hx2 ⊢
  rcases hx2 with (h6 | h6) | h6
  · exact .inl (.inl h6)
  · exact .inl (.inr (hm x h6))
  · exact .inr h6

theorem wpAnyC_skip (i : Nat) {oi : Oper} {fuel : Nat} {listed : Array Bool} {a : Act} {w : World} (hi : ops[i]? = some oi)
    (hs : (Region.noSelect ops && (decide (i < k) && (Region.free md ops listed i && (tailWaits md ops listed k i && (Region.ready md ops listed).contains i)))) = true)
    (hQ : ∀ c a w, Q (.panic c) (a.put oi.dst undef) w → Q (.panic c) a w) (hw : Region.wanted oi (yielded ops a.tmps) = false) (hS : S w)
    (h : wpAnyC P md ops Q k S fuel (listed.setIfInBounds i true) (a.put oi.dst undef) w) : wpAnyC P md ops Q k S (fuel + 1) listed a w := by
  simp only [Bool.and_eq_true, decide_eq_true_eq] at hs
  obtain ⟨h1, h2, h3, h4, h5⟩ := hs
  refine wpAnyC_first hi (Region.noSelect_spec h1) hQ h2 fuel listed a w (Region.free_spec hi h3) ?_ (by simpa using h5) (.inr ⟨hw, rfl⟩) hS h
  intro l hl hm j hj
  refine tailWaits_spec (listed := l) (i := i) ?_ hj hl
  unfold tailWaits at h4 ⊢
  refine List.all_eq_true.2 fun x hx => ?_
  have hx2 := List.all_eq_true.1 h4 x hx
  simp only [Bool.or_eq_true, decide_eq_true_eq] at hx2 ⊢
  rcases hx2 with (h6 | h6) | h6
  · exact .inl (.inl h6)
  · exact .inl (.inr (hm x h6))
  · exact .inr h6

theorem wpAnyC_one {i : Nat} {o : Oper} {fuel : Nat} {listed : Array Bool} {a : Act} {w : World} (hr : Region.ready md ops listed = [i]) (hi : ops[i]? = some o)
    (h : ∀ K : Act → World → Prop, (∀ a' w', (i < k → S w') → wpAnyC P md ops Q k S fuel (listed.setIfInBounds i true) a' w' → K a' w') →
      if Region.wanted o (yielded ops a.tmps) then o.wp P a w K Q else K (a.put o.dst undef) w) : wpAnyC P md ops Q k S (fuel + 1) listed a w := by
  refine ⟨fun h0 => absurd (hr ▸ h0) (by simp), ?_⟩
  rw [hr]
  intro j hj
  obtain rfl : j = i := by simpa using hj
  have h2 := h (fun a' w' => (j < k → S w') ∧ wpAnyC P md ops Q k S fuel (listed.setIfInBounds j true) a' w') (fun a' w' h3 h4 => ⟨h3, h4⟩)
  unfold wpOp
  simp only [hi]
  split
  · rename_i hw; rw [if_pos hw] at h2; exact .inl h2
  · rename_i hw; rw [if_neg hw] at h2; exact h2

theorem wpAnyC_done {listed : Array Bool} {a : Act} {w : World} (hr : Region.ready md ops listed = []) (h : Q .normal a w) :
    ∀ fuel, wpAnyC P md ops Q k S fuel listed a w
  | 0 => ⟨hr, h⟩
  | _ + 1 => ⟨fun _ => h, by rw [hr]; simp⟩

theorem wp_region_C (k : Nat) (S : World → Prop) {id : Nat} {a : Act} {w : World} (hm : P.follows .mixedOrders = true)
    (h : wpAnyC P .any ops Q k S ops.size (Array.replicate ops.size false) a w.drew) : (Code.region id ops true).wp P Q a w :=
  wp_region_any hm (wpAny_of_C _ _ _ _ h)

/-- A load of many cells, as an operation's run. -/
theorem exec_load_mid {ρ : Operand → Value} {o : Oper} {w : World} (ty : TypeId) (x : Operand) (ho : o.op = .load ty x) (b off : Nat) (hx : ρ x = .pointer (some ⟨b, off, none⟩)) (cs : List Value) (d : TypeDesc) (hc : w.rangeAt b off cs)
    (hu : P.underlying ty = some d) (hd : d.isRow = true) (hi : (P.info? ty).map (·.size) = some cs.length) : (execOp ρ o).run P w = .ok (.value (.agg cs.toArray)) w := by
  unfold execOp
  simp only [ho, hx, Sem.run_bind, run_loadAt_mid w b off ty cs d hc hu hd hi, Result.andThen_ok, Sem.run_pure]
end
end Go.Proofs.YtbfgpghfofmanaaDoor
