/-
  Package pins: Add and Drop at any input, as one step of a plain machine; the law's own helper 'wakes'.
-/
import Derived.Test.YtfcekldlgcdgnaaPinsC
namespace Go.Proofs.Ytfcekldlgcdgnaa
open Go.RowKit Go.Sort

/-- What Add answers, and what a session has behind it; so of Drop. -/
def addR (l : List Int) (g : Int) : Int := if g < 0 ∨ 64 ≤ g then 16 else if 16 ≤ l.length then 19 else 0
def addL (l : List Int) (g : Int) : List Int := if g < 0 ∨ 64 ≤ g then l else if 16 ≤ l.length then l else sortI (l ++ [g])
def dropR (l : List Int) (g : Int) : Int := if g ∈ l then 0 else 19
def dropL (l : List Int) (g : Int) : List Int := l.erase g
/-- Within what may be. -/
def Fine (l : List Int) : Prop := l.length ≤ 16 ∧ ∀ x ∈ l, 0 ≤ x ∧ x < 64
theorem Fine.nil : Fine [] := ⟨by simp, by simp⟩
theorem mem_sortI {l : List Int} {x : Int} : x ∈ sortI l ↔ x ∈ l := by unfold sortI; exact List.mem_mergeSort
theorem length_sortI (l : List Int) : (sortI l).length = l.length := by unfold sortI; exact List.length_mergeSort ..
theorem Fine.add {l : List Int} (h : Fine l) (g : Int) : Fine (addL l g) := by
  unfold addL
  split
  · exact h
  · rename_i h1
    split
    · exact h
    · rename_i h2
      refine ⟨by rw [length_sortI]; simp; omega, fun x hx => ?_⟩
      rw [mem_sortI] at hx
      simp at hx
      rcases hx with hx | rfl
      · exact h.2 x hx
      · omega
theorem Fine.drop {l : List Int} (h : Fine l) (g : Int) : Fine (dropL l g) :=
  ⟨Nat.le_trans List.length_erase_le h.1, fun x hx => h.2 x (List.mem_of_mem_erase hx)⟩

theorem upd_self {α : Type} (f : Nat → α) (i : Nat) : upd f i (f i) = f := by
  funext j; unfold upd; split
  · rename_i h; rw [h]
  · rfl

/-- From w to w2 the pins at p have become those of ls2; nothing else has turned. -/
def PinsNext (w w2 : World) (p q : Nat) (ss : Nat → Value) (ls2 : Nat → List Int) : Prop :=
  ∃ ss2, PinsAt w2 p q ss2 ls2 ∧ Only (fp p q ss) w w2 ∧ ∀ b ∈ fp p q ss2, b ∈ fp p q ss ∨ w.heap.size ≤ b
theorem PinsNext.same {w w2 : World} {p q : Nat} {ss : Nat → Value} {ls : Nat → List Int} (h : PinsAt w p q ss ls) (ho : Only [] w w2) : PinsNext w w2 p q ss ls :=
  ⟨ss, h.only ho (by simp), ho.mono (by simp), fun _ hb => .inl hb⟩
theorem PinsNext.step {w w2 : World} {p q : Nat} {ss : Nat → Value} {ls : Nat → List Int} {i : Nat} (hi : i < 2) {v : Value} {l : List Int}
    (h : PinsAt w2 p q (upd ss i v) (upd ls i l)) (ho : Only (q :: (ss i).ownBlock.toList) w w2) (hb : v.ownBlock = (ss i).ownBlock ∨ ∃ b, v.ownBlock = some b ∧ w.heap.size ≤ b) : PinsNext w w2 p q ss (upd ls i l) := by
  have h2 : i = 0 ∨ i = 1 := by omega
  refine ⟨_, h, ho.mono ?_, ?_⟩
  · intro b hb
    left
    rcases h2 with rfl | rfl <;> simp [fp] at hb ⊢ <;> rcases hb with hb | hb <;> simp [hb]
  · intro b hbm
    rcases h2 with rfl | rfl
    all_goals
      simp only [fp, upd, List.mem_cons, List.mem_append, Option.mem_toList] at hbm ⊢
      simp at hbm
      rcases hbm with e | e | e | e
    all_goals first
      | exact .inl (.inl e)
      | exact .inl (.inr (.inl e))
      | (exact .inl (.inr (.inr (.inl e))))
      | (exact .inl (.inr (.inr (.inr e))))
      | (rcases hb with h3 | ⟨b2, h3, h4⟩
         · rw [h3] at e
           first | exact .inl (.inr (.inr (.inl e))) | exact .inl (.inr (.inr (.inr e)))
         · rw [h3] at e; injection e with e; subst e; exact .inr h4)

theorem pins_Add_any (p q : Nat) (ss : Nat → Value) (ls : Nat → List Int) (w : World) (h : PinsAt w p q ss ls) (i : Nat) (g : Int) (hi : i < 2) :
    Calls Try.prog 7 #[.pointer (some ⟨p, 0, none⟩), .int .i64 i, .int .i64 g] w fun e w' => e = .returned (.int .i64 (addR (ls i) g)) ∧ PinsNext w w' p q ss (upd ls i (addL (ls i) g)) := by
  unfold addR addL
  by_cases hg : g < 0 ∨ 64 ≤ g
  · rw [if_pos hg, if_pos hg, upd_self]
    exact (pins_Add_err p w 16 i g 1 (by omega) (pins_add_page p q ss ls w h i g hi hg)).mono fun e w' ⟨he, ho⟩ => ⟨he, .same h ho⟩
  · rw [if_neg hg, if_neg hg]
    by_cases hl : 16 ≤ (ls i).length
    · rw [if_pos hl, if_pos hl, upd_self]
      exact (pins_Add_err p w 19 i g 1 (by omega) (pins_add_many p q ss ls w h i g hi (by omega) (by omega) hl)).mono fun e w' ⟨he, ho⟩ => ⟨he, .same h ho⟩
    · rw [if_neg hl, if_neg hl]
      exact (pins_Add_ok p q ss ls w h i g hi (by omega) (by omega) (by omega)).mono fun e w' ⟨v, he, h2, ho, hb⟩ => ⟨he, .step hi h2 ho hb⟩

theorem pins_Add_session (p q : Nat) (ss : Nat → Value) (ls : Nat → List Int) (w : World) (h : PinsAt w p q ss ls) (i g : Int) (hi : i < 0 ∨ 2 ≤ i) :
    Calls Try.prog 7 #[.pointer (some ⟨p, 0, none⟩), .int .i64 i, .int .i64 g] w fun e w' => e = .returned (.int .i64 20) ∧ PinsNext w w' p q ss ls :=
  (pins_Add_err p w 20 i g 2 (by omega) (pins_add_no p q ss ls w h i g hi)).mono fun e w' ⟨he, ho⟩ => ⟨he, .same h ho⟩

theorem pins_Drop_any (p q : Nat) (ss : Nat → Value) (ls : Nat → List Int) (w : World) (h : PinsAt w p q ss ls) (i : Nat) (g : Int) (hi : i < 2) (hl : (ls i).length ≤ 16) :
    Calls Try.prog 6 #[.pointer (some ⟨p, 0, none⟩), .int .i64 i, .int .i64 g] w fun e w' => e = .returned (.int .i64 (dropR (ls i) g)) ∧ PinsNext w w' p q ss (upd ls i (dropL (ls i) g)) := by
  unfold dropR dropL
  by_cases hg : g ∈ ls i
  · rw [if_pos hg]
    exact (pins_Drop_ok p q ss ls w h i g hi hg hl).mono fun e w' ⟨v, he, h2, ho, hb⟩ => ⟨he, .step hi h2 ho hb⟩
  · rw [if_neg hg, List.erase_of_not_mem hg, upd_self]
    exact (pins_Drop_no p q ss ls w h i g hi hg).mono fun e w' ⟨he, ho⟩ => ⟨he, .same h ho⟩

/-- From w on pins have come at p, and nothing that was there has turned. -/
def PinsNew (w w2 : World) (p q : Nat) (ls : Nat → List Int) : Prop :=
  ∃ ss, PinsAt w2 p q ss ls ∧ Only [] w w2 ∧ ∀ b ∈ fp p q ss, w.heap.size ≤ b
theorem PinsNew.next {w w1 w2 : World} {p q : Nat} {ss : Nat → Value} {ls2 : Nat → List Int} (ho : Only [] w w1) (hF : ∀ b ∈ fp p q ss, w.heap.size ≤ b) (h : PinsNext w1 w2 p q ss ls2) : PinsNew w w2 p q ls2 := by
  obtain ⟨ss2, h1, h2, h3⟩ := h
  refine ⟨ss2, h1, ho.trans h2 (fun b hb => .inr (hF b hb)), fun b hb => ?_⟩
  rcases h3 b hb with h4 | h4
  · exact hF b h4
  · have := ho.size; omega

/-- A slice of two fives. -/
theorem own55 (w : World) : OwnI (w.alloc (.cells #[.int .i64 5, .int .i64 5] 3)) (.slice (some ⟨w.heap.size, 0, none⟩) 2 2) [5, 5] :=
  OwnI.mk_ (l := [5, 5]) (cur := #[.int .i64 5, .int .i64 5]) (Blk.new w _ _) (by decide) (by decide) rfl

theorem sort5 : sortI [5] = [5] := by decide +kernel
theorem sort55 : sortI [5, 5] = [5, 5] := List.mergeSort_of_pairwise (by simp)
def l0 : Nat → List Int := fun _ => []
def l1 : Nat → List Int := upd l0 1 [5]
def l2 : Nat → List Int := upd l0 1 [5, 5]
def l3 : Nat → List Int := upd l2 0 [5]
theorem upd_upd {α : Type} (f : Nat → α) (i : Nat) (x y : α) : upd (upd f i x) i y = upd f i y := by
  funext j; unfold upd; split <;> rfl

set_option maxRecDepth 100000 in
set_option maxHeartbeats 4000000 in
theorem wakes_true (w : World) : Calls Try.prog 4 #[] w fun e w' => e = .returned (.bool true) ∧ Only [] w w' := by
  have s01 : addL (l0 1) 5 = [5] := sort5
  have s11 : addL (l1 1) 5 = [5, 5] := sort55
  have s20 : addL (l2 0) 5 = [5] := sort5
  have HH := Lib.hid (And.intro s01 (And.intro s11 s20))
  clear s01 s11 s20
  go_enter Try.func4, Try.ntmps4
  go_wp2_with fail
  refine (pins_New2 w).mono ?_
  rintro e w1 ⟨p, q, rfl, hP, ho, hp, hq⟩
  have N1 : Hid (PinsNew w w1 p q l0) := ⟨_, hP, ho, by intro b hb; simp [fp, Value.ownBlock] at hb; omega⟩
  clear hP ho hp hq
  go_wp2_with fail
  obtain ⟨ss, h1, o1, f1⟩ := N1.out
  refine (pins_Add_any p q ss l0 w1 h1 1 5 (by omega)).mono ?_
  rintro e w2 ⟨he, hN⟩
  obtain rfl : e = .returned (.int .i64 0) := he.trans (by rfl)
  have N2 : Hid (PinsNew w w2 p q l1) := by
    have h2 := PinsNew.next o1 f1 hN
    rw [HH.out.1] at h2
    exact h2
  clear hN h1 o1 f1 he N1
  go_wp2_with fail
  obtain ⟨ss, h1, o1, f1⟩ := N2.out
  refine (pins_Add_any p q ss l1 w2 h1 1 5 (by omega)).mono ?_
  rintro e w3 ⟨he, hN⟩
  obtain rfl : e = .returned (.int .i64 0) := he.trans (by rfl)
  have N3 : Hid (PinsNew w w3 p q l2) := by
    have h2 := PinsNew.next o1 f1 hN
    rw [HH.out.2.1] at h2; unfold l1 at h2; rw [upd_upd] at h2
    exact h2
  clear hN h1 o1 f1 he N2
  go_wp2_with fail
  obtain ⟨ss, h1, o1, f1⟩ := N3.out
  refine (pins_Add_any p q ss l2 w3 h1 0 5 (by omega)).mono ?_
  rintro e w4 ⟨he, hN⟩
  obtain rfl : e = .returned (.int .i64 0) := he.trans (by rfl)
  have N4 : Hid (PinsNew w w4 p q l3) := by
    have h2 := PinsNew.next o1 f1 hN
    rw [HH.out.2.2] at h2
    exact h2
  clear hN h1 o1 f1 he N3
  go_wp2_with fail
  obtain ⟨ss, h1, o1, f1⟩ := N4.out
  refine (pins_Of_ok p q ss l3 w4 h1 1 (by omega) (by decide)).mono ?_
  rintro e w5 ⟨v, rfl, hO, ho⟩
  have N5 : Hid (PinsNew w w5 p q l3) := ⟨ss, h1.only ho (by simp), o1.trans ho (by simp), f1⟩
  have HO5 : Hid (OwnI w5 v [5, 5]) := hO
  clear hO ho h1 o1 f1 N4
  go_wp2_with fail
  obtain ⟨ss, h1, o1, f1⟩ := N5.out
  refine (pins_Count_ok p q ss l3 w5 h1 5 (by intro i hi; have : i = 0 ∨ i = 1 := by omega
                                              rcases this with rfl | rfl <;> decide)).mono ?_
  rintro e w0 ⟨he, rfl⟩
  obtain rfl : e = .returned (.int .i64 3) := he.trans rfl
  clear h1 o1 f1 he
  go_wp2_with fail
  refine (ints_alike (l := [5, 5]) (m := [5, 5]) (HO5.out.only ((Only.refl [] _).alloc _) (by simp)).reads (own55 w5).reads (by decide) (by decide)).mono ?_
  rintro e w6 ⟨he, ho⟩
  obtain rfl : e = .returned (.bool true) := he.trans rfl
  have N6 : Hid (PinsNew w w6 p q l3) := by
    obtain ⟨ss, h1, o1, f1⟩ := N5.out
    have ho2 : Only [] w5 w6 := ((Only.refl [] _).alloc _).trans ho (by simp)
    exact ⟨ss, h1.only ho2 (by simp), o1.trans ho2 (by simp), f1⟩
  clear ho he N5 HO5
  go_wp2_with fail
  obtain ⟨ss, h1, o1, f1⟩ := N6.out
  refine (pins_Drop_any p q ss l3 w6 h1 0 6 (by omega) (by decide)).mono ?_
  rintro e w7 ⟨he, hN⟩
  obtain rfl : e = .returned (.int .i64 19) := he.trans (by rfl)
  have N7 : Hid (PinsNew w w7 p q l3) := by
    have h2 := PinsNew.next o1 f1 hN
    rw [show dropL (l3 0) 6 = l3 0 from rfl, upd_self] at h2
    exact h2
  clear hN h1 o1 f1 he N6
  go_wp2_with fail
  obtain ⟨ss, h1, o1, f1⟩ := N7.out
  refine (pins_Drop_any p q ss l3 w7 h1 0 5 (by omega) (by decide)).mono ?_
  rintro e w8 ⟨he, hN⟩
  obtain rfl : e = .returned (.int .i64 0) := he.trans (by rfl)
  have N8 : Hid (PinsNew w w8 p q (upd l2 0 [])) := by
    have h2 := PinsNew.next o1 f1 hN
    rw [show dropL (l3 0) 5 = [] from rfl] at h2; unfold l3 at h2; rw [upd_upd] at h2
    exact h2
  clear hN h1 o1 f1 he N7
  go_wp2_with fail
  obtain ⟨ss, h1, o1, f1⟩ := N8.out
  refine (pins_Drop_any p q ss (upd l2 0 []) w8 h1 0 5 (by omega) (by decide)).mono ?_
  rintro e w9 ⟨he, hN⟩
  obtain rfl : e = .returned (.int .i64 19) := he.trans (by rfl)
  have N9 : Hid (PinsNew w w9 p q (upd l2 0 [])) := by
    have h2 := PinsNew.next o1 f1 hN
    rw [show dropL (upd l2 0 [] 0) 5 = upd l2 0 [] 0 from rfl, upd_self] at h2
    exact h2
  clear hN h1 o1 f1 he N8
  go_wp2_with fail
  obtain ⟨ss, h1, o1, f1⟩ := N9.out
  refine (pins_Add_session p q ss (upd l2 0 []) w9 h1 2 5 (by omega)).mono ?_
  rintro e w10 ⟨he, hN⟩
  obtain rfl : e = .returned (.int .i64 20) := he.trans (by rfl)
  have N10 : Hid (PinsNew w w10 p q (upd l2 0 [])) := by
    have h2 := PinsNew.next o1 f1 hN
    skip
    exact h2
  clear hN h1 o1 f1 he N9
  go_wp2_with fail
  obtain ⟨ss, h1, o1, f1⟩ := N10.out
  refine (pins_Add_any p q ss (upd l2 0 []) w10 h1 0 64 (by omega)).mono ?_
  rintro e w11 ⟨he, hN⟩
  obtain rfl : e = .returned (.int .i64 16) := he.trans (by rfl)
  have N11 : Hid (PinsNew w w11 p q (upd l2 0 [])) := by
    have h2 := PinsNew.next o1 f1 hN
    rw [show addL (upd l2 0 [] 0) 64 = upd l2 0 [] 0 from rfl, upd_self] at h2
    exact h2
  clear hN h1 o1 f1 he N10
  go_wp2_with fail
  go_ret
  obtain ⟨ss, h1, o1, f1⟩ := N11.out
  exact ⟨rfl, o1⟩
end Go.Proofs.Ytfcekldlgcdgnaa
