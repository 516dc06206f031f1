/-
  FramesKeep: for every input the law returns true, and its argument reads as it did. (No condition of its own; the row's listed variable reads as laid.)
-/
import Derived.Test.YtbfgpghfofmanaaDoorRows
import Derived.Test.YtbfgpghfofmanaaDoorCards
import Derived.Test.YtbfgpghfofmanaaDoorTie
import Derived.Test.YtbfgpghfofmanaaDoorFramesP
import Derived.ProofKit
import Derived.Deep.Slices
import Derived.Deep.Strs
import Derived.ChangeSame
import Derived.ChangeVars
import Derived.JoinedOf
import Derived.RowKit
import Derived.RowKitTokens
import Derived.LaidLaws
import Derived.LaidHandle
import Derived.Stop.Joined
import Derived.SevenTiedAt
namespace Go.Proofs.YtbfgpghfofmanaaDoor
open Go.ChangeShapes Go.WideShapes Go.ChangeAt Go.RowKit Go.Deep

theorem Tryd.own : ownKnob Tryd.prog.godebug = none := by kernel_rfl
theorem Tryd.laidOut : laidOutB Tryd.prog = true := by kernel_rfl
theorem Tryd.et : Tryd.prog.globalNamed "errors.errorType" = some 0 := by kernel_rfl
theorem Tryd.rt : (Tryd.prog.cutTypes.find? (·.1 == "internal/reflectlite.rtype")).map (·.2) = some 132 := by kernel_rfl
theorem Tryd.oneRow : ((List.range Tryd.prog.types.size).filter fun t => Tryd.prog.rowNamed t [101, 114, 114, 111, 114]) = [100] := by kernel_rfl

theorem cellsStep : Tryd.prog.cellsOf 37 = 6 := by kernel_rfl
theorem cellsInt : Tryd.prog.cellsOf 3 = 1 := by kernel_rfl
theorem cellsU8 : Tryd.prog.cellsOf 5 = 1 := by kernel_rfl
theorem cellsBytes : Tryd.prog.cellsOf 35 = 1 := by kernel_rfl

theorem add_at (b o n : Nat) : (⟨b, o, none⟩ : Addr).add n = ⟨b, o + n, none⟩ := by
  unfold Addr.add
  by_cases h : n = 0 <;> simp [h]
theorem add_zero' (a : Addr) : a.add 0 = a := by simp [Addr.add]
theorem spot_none {w : World} {a : Addr} {v : Value} (h : w.cell? a = some v) : a.spot = none := by
  unfold World.cell? at h
  split at h
  · split at h
    · cases h
    · rename_i hs; simpa using hs
  · cases h

/-- What comes in as a slice of bytes reads as a list of them. -/
theorem open_bytes {H : Type} {enc : TypeId × Value → H} {w : World} {fuel : Nat} {v : Value} {x : DataW H × List MemPlace}
    (h : DataW.trod enc Tryd.prog w 0 (fun _ => true) true fuel 35 [v] = some x) : ∃ a n c d, v = .slice a n c ∧ n ≤ maxLen ∧ d.length = n ∧ ReadsB w (.slice a n c) d := by
  rcases open_slice1 Tryd.underlying35 cellsU8 h with ⟨hcs, _⟩ | ⟨a, len', cap', m, n, V, D, Pl, hcs, _, hl, hc, hm, _, hel⟩
  · simp at hcs
    subst hcs
    exact ⟨none, 0, 0, [], rfl, by simp, rfl, none, 0, rfl, fun j hj => by simp at hj⟩
  · simp at hcs
    subst hcs
    have key : ∀ i, i < len' → ∃ y : Int, w.cell? (a.add i) = some (.int .u8 y) := by
      intro i hi
      obtain ⟨h1, h2⟩ := hel i (by rw [hm]; simp; omega)
      obtain ⟨q, e, _⟩ := DataW.trod_int Tryd.underlying5 h2
      simp at e
      exact ⟨q, by rw [h1, e]⟩
    classical
    let f : Nat → Int := fun i => if hi : i < len' then Classical.choose (key i hi) else 0
    have hf : ∀ i, i < len' → w.cell? (a.add i) = some (.int .u8 (f i)) := by
      intro i hi
      simp only [f, dif_pos hi]
      exact Classical.choose_spec (key i hi)
    refine ⟨some a, len', cap', (List.range len').map f, rfl, by omega, by simp, some a, cap', by simp, fun j hj => ⟨a, rfl, ?_⟩⟩
    have hj' : j < len' := by simpa using hj
    rw [hf j hj']
    simp [List.getD_eq_getElem?_getD, hj']

/-- What comes in as a slice of steps reads as a list of them. -/
theorem open_steps {H : Type} {enc : TypeId × Value → H} {w : World} {fuel : Nat} {a0 : Option Addr} {len cap : Nat} {x : DataW H × List MemPlace}
    (h : DataW.trod enc Tryd.prog w 0 (fun _ => true) true fuel 22 [.slice a0 len cap] = some x) : ∃ l, ReadsS w (.slice a0 len cap) l ∧ l.length ≤ maxLen ∧ ∀ y ∈ l, ∃ d, ReadsB w (.slice y.da y.dn y.dc) d := by
  rcases open_slice Tryd.underlying22 h with ⟨hcs, _⟩ | ⟨a, len', cap', m, n, D, Pl, hcs, _, hl, hc, hm, _, hel⟩
  · simp at hcs
    obtain ⟨rfl, rfl, rfl⟩ := hcs
    exact ⟨[], ⟨none, 0, rfl, fun j x hj => by simp at hj⟩, by simp, by simp⟩
  · simp at hcs
    obtain ⟨rfl, rfl, rfl⟩ := hcs
    have key : ∀ i, i < len → ∃ y : Stp, (w.cell? (a.add (i * 6)) = some (.int .i64 y.kind) ∧ w.cell? ((a.add (i * 6)).add 1) = some (.int .i64 y.frame) ∧ w.cell? ((a.add (i * 6)).add 2) = some (.int .i64 y.key) ∧ w.cell? ((a.add (i * 6)).add 3) = some (.int .i64 y.off) ∧
        w.cell? ((a.add (i * 6)).add 4) = some (.int .u8 y.v) ∧ w.cell? ((a.add (i * 6)).add 5) = some (.slice y.da y.dn y.dc)) ∧ ∃ d, ReadsB w (.slice y.da y.dn y.dc) d := by
      intro i hi
      obtain ⟨cs, hcs, htr⟩ := hel i (by rw [hm]; simp; omega)
      rw [cellsStep] at hcs
      obtain ⟨xs, n2, _, hx2, hlen, hlx, hf⟩ := DataW.trod_struct Tryd.underlying37 htr
      rw [cellsStep] at hlen
      obtain ⟨_, _, hc⟩ := World.cells?_some hcs
      have e := fun j (h : j < 6) => hf j _ (Array.getElem?_eq_getElem (by simpa using h))
      obtain ⟨c0, c1, c2, c3, c4, c5, rfl⟩ : ∃ c0 c1 c2 c3 c4 c5, cs = [c0, c1, c2, c3, c4, c5] := by
        rcases cs with _ | ⟨a0, _ | ⟨a1, _ | ⟨a2, _ | ⟨a3, _ | ⟨a4, _ | ⟨a5, _ | ⟨a6, l⟩⟩⟩⟩⟩⟩⟩ <;> first | exact ⟨_, _, _, _, _, _, rfl⟩ | (simp at hlen)
      have h0 := e 0 (by omega)
      have h1 := e 1 (by omega)
      have h2 := e 2 (by omega)
      have h3 := e 3 (by omega)
      have h4 := e 4 (by omega)
      have h5 := e 5 (by omega)
      simp only [List.getElem_toArray, List.getElem_cons_zero, List.getElem_cons_succ, cellsInt, cellsU8, cellsBytes, List.drop_zero, List.drop_succ_cons, List.take_succ_cons, List.take_zero] at h0 h1 h2 h3 h4 h5
      have sm : ∀ j (h : j < 6), ∃ y, xs[j]? = some y := fun j h => ⟨xs[j]'(by rw [hlx]; simpa using h), List.getElem?_eq_getElem _⟩
      obtain ⟨y0, e0⟩ := sm 0 (by omega)
      obtain ⟨y1, e1⟩ := sm 1 (by omega)
      obtain ⟨y2, e2⟩ := sm 2 (by omega)
      obtain ⟨y3, e3⟩ := sm 3 (by omega)
      obtain ⟨y4, e4⟩ := sm 4 (by omega)
      obtain ⟨y5, e5⟩ := sm 5 (by omega)
      rw [e0] at h0
      rw [e1] at h1
      rw [e2] at h2
      rw [e3] at h3
      rw [e4] at h4
      rw [e5] at h5
      obtain ⟨q0, k0, _⟩ := DataW.trod_int Tryd.underlying3 h0
      obtain ⟨q1, k1, _⟩ := DataW.trod_int Tryd.underlying3 h1
      obtain ⟨q2, k2, _⟩ := DataW.trod_int Tryd.underlying3 h2
      obtain ⟨q3, k3, _⟩ := DataW.trod_int Tryd.underlying3 h3
      obtain ⟨q4, k4, _⟩ := DataW.trod_int Tryd.underlying5 h4
      obtain ⟨da, dn, dc, d, k5, _, _, hd⟩ := open_bytes h5
      simp only [List.cons.injEq, and_true] at k0 k1 k2 k3 k4
      subst k0; subst k1; subst k2; subst k3; subst k4; subst k5
      exact ⟨⟨q0, q1, q2, q3, q4, da, dn, dc⟩, ⟨by simpa [add_zero'] using hc 0 (by omega), by simpa using hc 1 (by omega), by simpa using hc 2 (by omega), by simpa using hc 3 (by omega), by simpa using hc 4 (by omega), by simpa using hc 5 (by omega)⟩, d, hd⟩
    rcases Nat.eq_zero_or_pos len with h0 | h0
    · subst h0
      exact ⟨[], ⟨_, _, rfl, fun j x hj => by simp at hj⟩, by simp, by simp⟩
    · have hsp : a = ⟨a.block, a.off, none⟩ := by
        obtain ⟨y, ⟨hy, _⟩, _⟩ := key 0 h0
        rw [Nat.zero_mul, add_zero'] at hy
        have := spot_none hy
        cases a; simp_all
      classical
      let f : Nat → Stp := fun i => if hi : i < len then Classical.choose (key i hi) else ⟨0, 0, 0, 0, 0, none, 0, 0⟩
      have hf := fun i (hi : i < len) => Classical.choose_spec (key i hi)
      have ef : ∀ i (hi : i < len), Classical.choose (key i hi) = f i := fun i hi => by simp only [f, dif_pos hi]
      refine ⟨(List.range len).map f, ⟨some a, cap, by simp, fun j x hj => ⟨a.block, a.off, by rw [← hsp], ?_⟩⟩, by simp; omega, ?_⟩
      · have hjl : j < len := by
          rcases Nat.lt_or_ge j len with h | h
          · exact h
          · rw [List.getElem?_eq_none (by simpa using h)] at hj; cases hj
        rw [List.getElem?_map, List.getElem?_range hjl] at hj
        obtain rfl : f j = x := by simpa using hj
        have h3 := (hf j hjl).1
        rw [ef j hjl, hsp] at h3
        have ad : ∀ n, (⟨a.block, a.off, none⟩ : Addr).add n = ⟨a.block, a.off + n, none⟩ := fun n => add_at _ _ n
        have ad2 : ∀ o n, (⟨a.block, o, none⟩ : Addr).add n = ⟨a.block, o + n, none⟩ := fun o n => add_at _ o n
        simp only [ad, ad2] at h3
        exact h3
      · intro y hy
        rw [List.mem_map] at hy
        obtain ⟨i, hi, rfl⟩ := hy
        have hil : i < len := by simpa using hi
        have h3 := (hf i hil).2
        rw [ef i hil] at h3
        exact h3

/-- What the condition gives a walk: the variable's one cell. -/
theorem handle_of_laid {W : World} (h : laidMetH Tryd.prog Rows.framesKeepRow.laid W) : GlobE W := by
  have h' : laidMet Tryd.prog [] W ∧ handlesMet Tryd.prog Rows.framesKeepRow.laid W := h
  obtain ⟨name, u, ty, e1, e2, e3, e4, e5⟩ := h'.2 _ (List.mem_singleton.2 rfl)
  have en : name = [101, 114, 114, 111, 114] := (Option.some.inj e1).symm
  subst en
  obtain rfl := Option.some.inj (Tryd.rt.symm.trans e2)
  have hm : ty ∈ (List.range Tryd.prog.types.size).filter fun t => Tryd.prog.rowNamed t [101, 114, 114, 111, 114] := List.mem_filter.2 ⟨List.mem_range.2 e3, e4⟩
  rw [Tryd.oneRow] at hm
  obtain rfl := List.mem_singleton.1 hm
  have hh : typeHandle Tryd.prog 100 = .pointer (some ⟨1, 100, none⟩) := by kernel_rfl
  rw [hh] at e5
  unfold GlobE
  simpa using World.var?_cell Tryd.et e5 0

/-- A world that meets the condition. -/
noncomputable def laidWorld (os : Os) : World :=
  let w0 := World.holding Tryd.prog os ⟨#[], #[], []⟩
  { w0 with heap := w0.heap.modify 0 fun
      | .cells _ t frozen => .cells #[.iface 132 (.agg #[.pointer (some ⟨1, 100, none⟩)])] t frozen
      | o => o }
theorem laidWorld_met (os : Os) (args : Array Value) : laidMetH Tryd.prog Rows.framesKeepRow.laid ((laidWorld os).forCall (fun _ _ => 0) ⟨#[], args, []⟩).memory :=
  laidMetH_of_parts (laidMet_nil _ _) (by kernel_rfl)

set_option maxRecDepth 100000 in
theorem keep_lifted (os : Os) (started : os.Started) (H : Type) (enc : TypeId × Value → H) :
    ReturnsInHanded {} Tryd.checked os 3 .any (fun w args => (Rows.framesKeepSpec.pre enc Tryd.prog Tryd.f3 [] false w args ∧ laidMetH Tryd.prog Rows.framesKeepRow.laid w) ∧ sizedMet enc Tryd.prog Tryd.f3 (OpenSpec.ofChange Rows.framesKeepSpec) false w args)
      (Rows.framesKeepSpec.post enc Tryd.prog Tryd.f3 false true false false) := by
  refine returnsInHanded_of_change_and (C := Tryd.checked) (X := fun w _ => laidMetH Tryd.prog Rows.framesKeepRow.laid w) (fun _ _ _ hh h => h.of_heap hh) Tryd.own started (by kernel_rfl) Tryd.func3
    (ChangeSpec.witness_at (enc := enc) (C := Tryd.checked) (os := os) (X := fun w _ => laidMetH Tryd.prog Rows.framesKeepRow.laid w) false (laidWorld os) #[.slice none 0 0] 8 rfl (by kernel_rfl) (by kernel_rfl) (by kernel_rfl) (by kernel_rfl) (by kernel_rfl) (laidWorld_met os _)) ?_
  intro W base args ds gs before hval0 hW _ _ hL _
  have hval : ∀ (j : Nat) t v, Tryd.f3.params[j]? = some t → args[j]? = some v → Value.okWide Tryd.prog W .any base t v := hval0
  have hW' := hW
  obtain ⟨p, q, hA0, hV0, rfl, hfz, hnd⟩ := hW
  have hA : DataW.TrodAll enc Tryd.prog W 0 (fun _ => true) true Tryd.f3.params.toList args.toList ds p := hA0
  have hV : DataW.TrodVars enc Tryd.prog W (fun _ => true) [] gs q := hV0
  rw [Tryd.params3] at hA hval
  obtain ⟨v0, d0, rfl, rfl, h0⟩ := trodAll_one hA
  obtain ⟨a0, n0, c0, rfl⟩ := okWide_slice Tryd.underlying22 (hval 0 22 v0 rfl rfl)
  have hg := handle_of_laid hL
  obtain ⟨rfl, rfl⟩ : gs = [] ∧ q = [] := by
    cases gs with
    | nil => exact ⟨rfl, hV⟩
    | cons g r => exact absurd hV (by intro h; cases h)
  clear hA0 hval0
  simp only [List.append_nil] at hW'
  have hlt : ∀ x ∈ p, x.block < W.heap.size := fun x hx => by simpa using hW'.lt x hx
  obtain ⟨fu0, hf0⟩ := h0
  obtain ⟨la, ha, hla, _⟩ := open_steps (by simpa [Value.cells] using hf0)
  refine (framesKeep_walk W _ la ha hla hg).mono fun e W' ⟨he, hw⟩ => ?_
  subst he
  have bel : Below W.heap.size W W' := hw.below
  refine ⟨_, rfl, _, _, _, [], p, [], hW', ?_, ?_, rfl, bel.frame _, fun h => by cases h⟩
  · exact trodAll_mk1 (shut_bool Tryd.underlying4 true)
  · exact trodAll_mk1 (Below.trod Tryd.laidOut (by kernel_rfl) (of_decide_eq_true (by kernel_rfl)) ⟨fu0, hf0⟩ bel (fun x hx => hlt x hx))

theorem framesKeep_row : Rows.FramesKeepSaid :=
  OpenClaim.holds_of_wide 3 Tryd.f3 rfl rfl rfl rfl rfl rfl rfl ⟨rfl, rfl, rfl, rfl, rfl⟩ rfl rfl rfl rfl rfl (by kernel_rfl) Tryd.func3 (by kernel_rfl)
    (of_decide_eq_true (by kernel_rfl)) (by unfold Func.isWrapper; rw [if_neg (of_decide_eq_false (by kernel_rfl))]; exact ⟨rfl, rfl⟩)
    (fun os started H enc _ => keep_lifted os started H enc)

/-- The tied card. -/
theorem framesKeep_holds : Rows.FramesKeepCardSaid :=
  Claim7.holds_tied_plain_at .later [] [.handle] true (true, "af8f5c7e0a1bd02c30b04ba8e5aea8c4629cc16d8892c7b8b715459d9aa4eb3d") true
    framesKeep_row (fun _ h => by cases h) (by kernel_rfl) (fun _ h => by cases h) framesKeep_row_tie rfl ⟨rfl, rfl⟩ (by kernel_rfl) rfl
    (fun f fn hf hfn => by
      obtain rfl : f = 3 := Option.some.inj ((show Tryd.prog.funcNamed "silt/siltlaw17.FramesKeep" = some 3 by kernel_rfl).symm.trans hf) |>.symm
      obtain rfl : fn = Tryd.f3 := (Option.some.inj (Tryd.func3.symm.trans hfn)).symm
      exact ⟨by kernel_rfl, fun j t ht => by
        rw [Tryd.params3] at ht
        have h3 : t = 22 := by
          rcases j with _ | j
          · simpa using ht.symm
          · simp at ht
        subst h3
        exact (show Tryd.prog.wantsStandIn 22 = false by kernel_rfl)⟩)
    (by kernel_rfl)
#print axioms framesKeep_holds
end Go.Proofs.YtbfgpghfofmanaaDoor
