/-
  A struct of two parts that are arrays, an array with its first element; reads in a quiet region. No program stands here.
-/
import Derived.Test.YtbfgpghfofmanaaDoorRec
import Derived.Test.YtbfgpghfofmanaaDoorReg
import Derived.Laws.Tables
import Derived.Deep.QuietTactic
import Derived.BigQuiet
namespace Go.Proofs.YtbfgpghfofmanaaDoor
open Go.RowKit

theorem fill_fold (off : Nat) : ∀ (as : List Value) (k : Nat) (cs : List Value), off + k + as.length ≤ cs.length →
    (as.zipIdx k).foldl (fun (cs : Array Value) (p : Value × Nat) => cs.setIfInBounds (off + p.2) p.1) cs.toArray = (cs.take (off + k) ++ as ++ cs.drop (off + k + as.length)).toArray
  | [], k, cs, h => by simp
  | a :: as, k, cs, h => by
    simp only [List.length_cons] at h
    rw [List.zipIdx_cons, List.foldl_cons, List.setIfInBounds_toArray, fill_fold off as (k + 1) _ (by simp; omega)]
    congr 1
    rw [show off + (k + 1) = off + k + 1 by omega, List.length_cons, List.drop_set_of_lt (by omega), List.take_set]
    rw [show off + k + (as.length + 1) = off + k + 1 + as.length by omega]
    congr 1
    rw [List.take_succ_eq_append_getElem (by omega : off + k < cs.length), List.set_append_right _ _ (by simp; omega)]
    simp [Nat.min_eq_left (by omega : off + k ≤ cs.length)]

theorem built_two {P : Program} (t : TypeId) (n : Nat) (fields : Array Field) (z : Value) (hu : P.underlying t = some (.struct fields)) (hz : (P.info? t).map (·.zero) = some (some z))
    (hp : fields.toList.mapM (fun f => (P.info? f.type).map fun i => (f.offset, i.size)) = some [(0, n), (n, n)]) (hs : z.cells.size = n + n) (a b : List Value) (ha : a.length = n) (hb : b.length = n) (w : World) :
    (Instr.build t #[(0, .agg a.toArray), (1, .agg b.toArray)]).run P w = .ok (.agg (a ++ b).toArray) w := by
  refine run_build w t _ _ ?_
  unfold Program.built
  cases hi : P.info? t with
  | none => simp [hi] at hz
  | some it =>
    have hz' : it.zero = some z := by simpa [hi] using hz
    simp only [hu, hz', hp]
    have hc : z.cells = z.cells.toList.toArray := by simp
    have hl : z.cells.toList.length = n + n := by simpa using hs
    rw [hc]
    generalize z.cells.toList = zs at hl
    have hza : ∀ (l : List Value), l.toArray.zipIdx = l.zipIdx.toArray := fun l => by apply Array.ext_getElem?; intro i; simp
    have hfa : ∀ (l : List (Value × Nat)) (f : Array Value → Value × Nat → Array Value) (x : Array Value), l.toArray.foldl f x 0 l.length = l.foldl f x := fun l f x => by simp
    simp only [Instr.fill, Value.cells, List.size_toArray, ha, hb, hza, hfa]
    simp only [List.getElem?_toArray, List.getElem?_cons_zero, List.getElem?_cons_succ]
    have h1 := fill_fold 0 a 0 zs (by omega)
    simp only [Nat.zero_add] at h1 ⊢
    rw [h1]
    simp only [List.take_zero, List.nil_append, ha]
    have h2 := fill_fold n b 0 (a ++ zs.drop n) (by simp; omega)
    simp only [Nat.add_zero] at h2
    rw [if_neg (by simp; omega), if_neg (by simp; omega), h2, List.take_left' ha, List.drop_of_length_le (by simp; omega), List.append_nil]

/-- A read in a quiet region. -/
theorem wpQuiet_run {P : Program} {ops : Array Oper} {C : World → Prop} {Q : Act → Prop} {o : Oper} {rest : List Oper} {a : Act} (v : Value) (hw : Region.wanted o (yielded ops a.tmps) = true)
    (hy : ∀ w, C w → (execOp a.eval o).run P w = .ok (.value v) w) (h : wpQuiet P ops C Q rest (a.put o.dst v)) : wpQuiet P ops C Q (o :: rest) a := by
  unfold wpQuiet
  rw [if_pos hw]
  refine ⟨v, fun w hC => ?_, h⟩
  unfold Oper.quietAt
  rw [hy w hC]
  exact ⟨rfl, rfl⟩

theorem exec_built {P : Program} {ρ : Operand → Value} {o : Oper} {w : World} {t : TypeId} (ps : List (Nat × Operand)) (args : List (Nat × Value)) {v : Value} (ho : o.op = .build t ps.toArray)
    (ha : (ps.map fun x => (x.1, ρ x.2)) = args) (hr : (Instr.build t args.toArray).run P w = .ok v w) : (execOp ρ o).run P w = .ok (.value v) w := by
  unfold execOp
  simp only [ho, List.map_toArray, Sem.run_bind, ha]
  exact (congrArg (fun r => Result.andThen r _) hr).trans rfl

theorem wpAnyC_two {P : Program} {ops : Array Oper} {Q : Exit → Act → World → Prop} {md : Region.Mode} {S : World → Prop} {k : Nat} {i j : Nat} {o u : Oper} {fuel : Nat} {listed : Array Bool} {a : Act} {w : World} (hr : Region.ready md ops listed = [i, j]) (hi : ops[i]? = some o) (hj : ops[j]? = some u)
    (h1 : ∀ K : Act → World → Prop, (∀ a' w', (i < k → S w') → wpAnyC P md ops Q k S fuel (listed.setIfInBounds i true) a' w' → K a' w') → if Region.wanted o (yielded ops a.tmps) then o.wp P a w K Q else K (a.put o.dst undef) w)
    (h2 : ∀ K : Act → World → Prop, (∀ a' w', (j < k → S w') → wpAnyC P md ops Q k S fuel (listed.setIfInBounds j true) a' w' → K a' w') → if Region.wanted u (yielded ops a.tmps) then u.wp P a w K Q else K (a.put u.dst undef) w) : wpAnyC P md ops Q k S (fuel + 1) listed a w := by
  refine ⟨fun h0 => absurd (hr ▸ h0) (by simp), ?_⟩
  rw [hr]
  intro m hm
  have hm' : m = i ∨ m = j := by simpa using hm
  rcases hm' with rfl | rfl
  · have h3 := h1 (fun a' w' => (m < k → S w') ∧ wpAnyC P md ops Q k S fuel (listed.setIfInBounds m true) a' w') (fun a' w' h3 h4 => ⟨h3, h4⟩)
    unfold wpOp
    simp only [hi]
    split
    · rename_i hw; rw [if_pos hw] at h3; exact .inl h3
    · rename_i hw; rw [if_neg hw] at h3; exact h3
  · have h3 := h2 (fun a' w' => (m < k → S w') ∧ wpAnyC P md ops Q k S fuel (listed.setIfInBounds m true) a' w') (fun a' w' h3 h4 => ⟨h3, h4⟩)
    unfold wpOp
    simp only [hj]
    split
    · rename_i hw; rw [if_pos hw] at h3; exact .inl h3
    · rename_i hw; rw [if_neg hw] at h3; exact h3

theorem wpAnyC_store (i : Nat) {P : Program} {ops : Array Oper} {Q : Exit → Act → World → Prop} {md : Region.Mode} {S : World → Prop} {k : Nat} {o : Oper} {fuel : Nat} {listed : Array Bool} {a : Act} {w : World} (hr : Region.ready md ops listed = [i]) (hi : ops[i]? = some o)
    (hw : Region.wanted o (yielded ops a.tmps) = true) (ty : TypeId) {x y : Operand} (ho : o.op = .store ty x y) (b off : Nat) (cells : Array Value) (hx : a.eval x = .pointer (some ⟨b, off, none⟩)) (hy : a.eval y = .agg cells)
    (ht : w.there b off cells.size) (hsz : (P.info? ty).map (·.size) = some cells.size) (h1 : cells.all (·.oneCell') = true) (hS : i < k → S (w.setCells b off cells.toList))
    (h : wpAnyC P md ops Q k S fuel (listed.setIfInBounds i true) (a.put o.dst undef) (w.setCells b off cells.toList)) : wpAnyC P md ops Q k S (fuel + 1) listed a w :=
  wpAnyC_one hr hi fun K hK => by rw [if_pos hw]; exact wp_store_mid ty x y ho b off cells hx hy ht hsz h1 (hK _ _ hS h)

theorem results_cct {P : Program} {fn : Func} {p q u : Tmp} {ty ty2 : TypeId} (h : fn.results = #[.cell p ty, .cell q ty2, .tmp u]) (tmps : Array Value) (w : World) (g1 g2 : Nat) (cs1 cs2 : List Value) (d1 d2 : TypeDesc)
    (hp : tmps.getD p undef = .pointer (some ⟨g1, 0, none⟩)) (hq : tmps.getD q undef = .pointer (some ⟨g2, 0, none⟩)) (h1 : w.rangeAt g1 0 cs1) (h2 : w.rangeAt g2 0 cs2)
    (hu1 : P.underlying ty = some d1) (hd1 : d1.isRow = true) (hi1 : (P.info? ty).map (·.size) = some cs1.length) (hu2 : P.underlying ty2 = some d2) (hd2 : d2.isRow = true) (hi2 : (P.info? ty2).map (·.size) = some cs2.length) :
    (results fn tmps).run P w = .ok (.tuple #[.agg cs1.toArray, .agg cs2.toArray, tmps.getD u undef]) w := by
  have hp' : tmps[p]?.getD undef = .pointer (some ⟨g1, 0, none⟩) := by simpa using hp
  have hq' : tmps[q]?.getD undef = .pointer (some ⟨g2, 0, none⟩) := by simpa using hq
  simp [results, h, hp', hq', asAddr, run_loadVar_mid w g1 0 ty cs1 d1 h1 hu1 hd1 hi1, run_loadVar_mid w g2 0 ty2 cs2 d2 h2 hu2 hd2 hi2]
theorem results_ct {P : Program} {fn : Func} {p u : Tmp} {ty : TypeId} (h : fn.results = #[.cell p ty, .tmp u]) (tmps : Array Value) (w : World) (g1 : Nat) (cs1 : List Value) (d1 : TypeDesc)
    (hp : tmps.getD p undef = .pointer (some ⟨g1, 0, none⟩)) (h1 : w.rangeAt g1 0 cs1)
    (hu1 : P.underlying ty = some d1) (hd1 : d1.isRow = true) (hi1 : (P.info? ty).map (·.size) = some cs1.length) :
    (results fn tmps).run P w = .ok (.tuple #[.agg cs1.toArray, tmps.getD u undef]) w := by
  have hp' : tmps[p]?.getD undef = .pointer (some ⟨g1, 0, none⟩) := by simpa using hp
  simp [results, h, hp', asAddr, run_loadVar_mid w g1 0 ty cs1 d1 h1 hu1 hd1 hi1]

/-- A block turned whole. -/
theorem Blk.whole {w : World} {b : Nat} {t : TypeId} {cs : List Value} (h : Blk w b t cs.toArray) (vs : List Value) (hl : cs.length = vs.length) : Blk (w.setCells b 0 vs) b t vs.toArray := by
  have h1 := h.setCells vs 0 (by omega)
  rw [Nat.zero_add, List.drop_of_length_le (by omega)] at h1
  simpa using h1
theorem Blk.range0 {w : World} {b : Nat} {t : TypeId} {cs : List Value} (h : Blk w b t cs.toArray) : w.rangeAt b 0 cs := h.range_ fun j v hj => by rw [Nat.zero_add]; exact hj
end Go.Proofs.YtbfgpghfofmanaaDoor
