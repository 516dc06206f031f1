/-
  PinsApart: for every input the law returns true, and its arguments read as they did. (No condition.)
-/
import Derived.Test.YtfcekldlgcdgnaaRows
import Derived.Test.YtfcekldlgcdgnaaPinsF
import Derived.ProofKit
import Derived.Deep.Slices
import Derived.Deep.Strs
namespace Go.Proofs.Ytfcekldlgcdgnaa
open Go.ChangeShapes Go.WideShapes Go.ChangeAt Go.RowKit Go.Deep

theorem Try.own : ownKnob Try.prog.godebug = none := by kernel_rfl
theorem Try.laidOut : laidOutB Try.prog = true := by kernel_rfl
theorem cellsStep : Try.prog.cellsOf 29 = 3 := by kernel_rfl

theorem length3 {α : Type} {l : List α} (h : l.length = 3) : ∃ a b c, l = [a, b, c] := by
  rcases l with _ | ⟨a, _ | ⟨b, _ | ⟨c, _ | ⟨d, l⟩⟩⟩⟩
  · simp at h
  · simp at h
  · simp at h
  · exact ⟨a, b, c, rfl⟩
  · simp at h
theorem add_at (b o n : Nat) : (⟨b, o, none⟩ : Addr).add n = ⟨b, o + n, none⟩ := by
  unfold Addr.add
  by_cases h : n = 0 <;> simp [h]
theorem add_zero' (a : Addr) : a.add 0 = a := by simp [Addr.add]
theorem spot_none {w : World} {a : Addr} {v : Value} (h : w.cell? a = some v) : a.spot = none := by
  unfold World.cell? at h
  split at h
  · split at h
    · cases h
    · rename_i hs; simpa using hs
  · cases h

/-- What comes in as a slice of steps reads as a list of them. -/
theorem open_steps {H : Type} {enc : TypeId × Value → H} {w : World} {fuel : Nat} {a0 : Option Addr} {len cap : Nat} {x : DataW H × List MemPlace}
    (h : DataW.trod enc Try.prog w 0 (fun _ => true) true fuel 22 [.slice a0 len cap] = some x) : ∃ l, ReadsS w (.slice a0 len cap) l := by
  rcases open_slice Try.underlying22 h with ⟨hcs, _⟩ | ⟨a, len', cap', m, n, D, Pl, hcs, _, hl, _, hm, _, hel⟩
  · simp at hcs
    obtain ⟨rfl, rfl, rfl⟩ := hcs
    exact ⟨[], none, 0, rfl, fun j x hj => by simp at hj⟩
  · simp at hcs
    obtain ⟨rfl, rfl, rfl⟩ := hcs
    have key : ∀ i, i < len → ∃ y : Stp, w.cell? (a.add (i * 3)) = some (.bool y.drop) ∧ w.cell? ((a.add (i * 3)).add 1) = some (.int .i64 y.session) ∧ w.cell? ((a.add (i * 3)).add 2) = some (.int .i64 y.page) := by
      intro i hi
      obtain ⟨cs, hcs, htr⟩ := hel i (by rw [hm]; simp; omega)
      rw [cellsStep] at hcs
      obtain ⟨y0, y1, y2, n2, _, hlen, h0, h1, h2⟩ := trod_struct3 Try.underlying29 htr
      rw [cellsStep] at hlen
      obtain ⟨_, _, hc⟩ := World.cells?_some hcs
      obtain ⟨c0, c1, c2, rfl⟩ := length3 hlen
      obtain ⟨q0, e0, _⟩ := DataW.trod_bool Try.underlying4 h0
      obtain ⟨q1, e1, _⟩ := DataW.trod_int Try.underlying3 h1
      obtain ⟨q2, e2, _⟩ := DataW.trod_int Try.underlying3 h2
      have k0 : c0 = .bool q0 := by simpa [show Try.prog.cellsOf 4 = 1 from by kernel_rfl] using e0
      have k1 : c1 = .int .i64 q1 := by simpa [show Try.prog.cellsOf 3 = 1 from by kernel_rfl] using e1
      have k2 : c2 = .int .i64 q2 := by simpa [show Try.prog.cellsOf 3 = 1 from by kernel_rfl] using e2
      subst k0; subst k1; subst k2
      exact ⟨⟨q0, q1, q2⟩, by simpa [add_zero'] using hc 0 (by omega), by simpa using hc 1 (by omega), by simpa using hc 2 (by omega)⟩
    rcases Nat.eq_zero_or_pos len with h0 | h0
    · subst h0
      exact ⟨[], _, _, rfl, fun j x hj => by simp at hj⟩
    · have hsp : a = ⟨a.block, a.off, none⟩ := by
        obtain ⟨y, hy, _⟩ := key 0 h0
        rw [Nat.zero_mul, add_zero'] at hy
        have := spot_none hy
        cases a; simp_all
      classical
      let f : Nat → Stp := fun i => if hi : i < len then Classical.choose (key i hi) else ⟨false, 0, 0⟩
      have hf : ∀ i, i < len → w.cell? (a.add (i * 3)) = some (.bool (f i).drop) ∧ w.cell? ((a.add (i * 3)).add 1) = some (.int .i64 (f i).session) ∧ w.cell? ((a.add (i * 3)).add 2) = some (.int .i64 (f i).page) := by
        intro i hi
        simp only [f, dif_pos hi]
        exact Classical.choose_spec (key i hi)
      refine ⟨(List.range len).map f, some a, cap, by simp, fun j x hj => ⟨a.block, a.off, by rw [← hsp], ?_⟩⟩
      have hjl : j < len := by
        rcases Nat.lt_or_ge j len with h | h
        · exact h
        · rw [List.getElem?_eq_none (by simpa using h)] at hj; cases hj
      rw [List.getElem?_map, List.getElem?_range hjl] at hj
      obtain rfl : f j = x := by simpa using hj
      have h3 := hf j hjl
      rw [hsp] at h3
      have ad : ∀ n, (⟨a.block, a.off, none⟩ : Addr).add n = ⟨a.block, a.off + n, none⟩ := fun n => add_at _ _ n
      have ad2 : ∀ o n, (⟨a.block, o, none⟩ : Addr).add n = ⟨a.block, o + n, none⟩ := fun o n => add_at _ o n
      simp only [ad, ad2] at h3
      exact h3

theorem pinsApart_any (w : World) (va vb : Value) (a b : List Stp) (ha : ReadsS w va a) (hb : ReadsS w vb b) :
    Calls Try.prog 3 #[va, vb] w fun e w' => e = .returned (.bool true) ∧ Only [] w w' := by
  by_cases hl : a.length ≤ 60 ∧ b.length ≤ 60
  · exact pinsApart_walk w va vb a b ha hb hl.1 hl.2
  · obtain ⟨A, c, rfl, _⟩ := ha
    obtain ⟨B, d, rfl, _⟩ := hb
    generalize a.length = n at *
    generalize b.length = m at *
    by_cases h1 : 60 < n
    · have h1' : (60 : Int) < n := by omega
      clear hl
      go_enter Try.func3, Try.ntmps3
      go_wp2_with (go_at_call 4; refine (wakes_true _).mono ?_; rintro e w1 ⟨rfl, ho⟩)
      go_ret
      exact ⟨rfl, ho⟩
    · have h2 : (60 : Int) < m := by omega
      have h1' : ¬ (60 : Int) < n := by omega
      clear hl
      go_enter Try.func3, Try.ntmps3
      go_wp2_with (go_at_call 4; refine (wakes_true _).mono ?_; rintro e w1 ⟨rfl, ho⟩)
      go_ret
      exact ⟨rfl, ho⟩

set_option maxRecDepth 100000 in
theorem f_lifted (os : Os) (started : os.Started) (H : Type) (enc : TypeId × Value → H) :
    ReturnsInHanded {} Try.checked os 3 .any (Rows.pinsApartSpec.pre6 enc Try.prog Try.f3 Rows.pinsApartRow.domain false) (Rows.pinsApartSpec.post enc Try.prog Try.f3 false true false false) := by
  refine returnsInHanded_of_change (C := Try.checked) Try.own started (by kernel_rfl) Try.func3
    (ChangeSpec.witness6 (enc := enc) (C := Try.checked) false ⟨#[], #[.slice none 0 0, .slice none 0 0], []⟩ 8 (by kernel_rfl) (by kernel_rfl) (by kernel_rfl) (by kernel_rfl)) ?_
  intro W base args ds gs before hval0 hW hcnd _
  have hval : ∀ (j : Nat) t v, Try.f3.params[j]? = some t → args[j]? = some v → Value.okWide Try.prog W .any base t v := hval0
  have hW' := hW
  obtain ⟨p, q, hA0, hV, rfl, hfz, hnd⟩ := hW
  have hA : DataW.TrodAll enc Try.prog W 0 (fun _ => true) true Try.f3.params.toList args.toList ds p := hA0
  rw [Try.params3] at hA hval
  obtain ⟨v0, v1, d0, d1, p0, p1, rfl, rfl, rfl, h0, h1⟩ := trodAll_two hA
  obtain ⟨rfl, rfl⟩ := trodVars_none hV
  obtain ⟨a0, n0, c0, rfl⟩ := okWide_slice Try.underlying22 (hval 0 22 v0 rfl rfl)
  obtain ⟨a1, n1, c1, rfl⟩ := okWide_slice Try.underlying22 (hval 1 22 v1 rfl rfl)
  clear hA0 hval0
  simp only [List.append_nil] at hW'
  have hlt : ∀ x ∈ p0 ++ p1, x.block < W.heap.size := fun x hx => by simpa using hW'.lt x hx
  obtain ⟨fu0, hf0⟩ := h0
  obtain ⟨fu1, hf1⟩ := h1
  obtain ⟨la, ha⟩ := open_steps (by simpa [Value.cells] using hf0)
  obtain ⟨lb, hb⟩ := open_steps (by simpa [Value.cells] using hf1)
  refine (pinsApart_any W _ _ la lb ha hb).mono fun e W' ⟨he, hw⟩ => ?_
  subst he
  have bel : Below W.heap.size W W' := hw.below
  refine ⟨_, rfl, _, _, _, [], p0 ++ p1, [], hW', ?_, ?_, rfl, bel.frame _, fun h => by cases h⟩
  · exact trodAll_mk1 (shut_bool Try.underlying4 true)
  · exact trodAll_mk2 (Below.trod Try.laidOut (by kernel_rfl) (of_decide_eq_true (by kernel_rfl)) ⟨fu0, hf0⟩ bel (fun x hx => hlt x (by simp [hx]))) (Below.trod Try.laidOut (by kernel_rfl) (of_decide_eq_true (by kernel_rfl)) ⟨fu1, hf1⟩ bel (fun x hx => hlt x (by simp [hx])))

theorem pinsApart_holds : Rows.PinsApartSaid :=
  OpenClaim.holds_of_wide 3 Try.f3 rfl rfl rfl rfl rfl rfl rfl ⟨rfl, rfl, rfl, rfl, rfl⟩ rfl rfl rfl rfl rfl (by kernel_rfl) Try.func3 (by kernel_rfl)
    (of_decide_eq_true (by kernel_rfl)) (by unfold Func.isWrapper; rw [if_neg (of_decide_eq_false (by kernel_rfl))]; exact ⟨rfl, rfl⟩)
    (fun os started H enc _ => f_lifted os started H enc)

#print axioms pinsApart_holds
end Go.Proofs.Ytfcekldlgcdgnaa
