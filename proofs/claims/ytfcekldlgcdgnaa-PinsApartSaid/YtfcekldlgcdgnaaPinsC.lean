/-
  Package pins: Drop of what is not there, Of, Count, New; siltkeep.Ints.
-/
import Derived.Test.YtfcekldlgcdgnaaPinsB
import Derived.Test.YtfcekldlgcdgnaaReads
import Derived.Deep.QuietTactic
import Derived.BigQuiet
namespace Go.Proofs.Ytfcekldlgcdgnaa
open Go.RowKit Go.Sort

set_option maxRecDepth 100000 in
theorem pins_Drop_no (p q : Nat) (ss : Nat → Value) (ls : Nat → List Int) (w : World) (h : PinsAt w p q ss ls) (i : Nat) (g : Int) (hi : i < 2) (hg : g ∉ ls i) :
    Calls Try.prog 6 #[.pointer (some ⟨p, 0, none⟩), .int .i64 i, .int .i64 g] w fun e w' => e = .returned (.int .i64 19) ∧ Only [] w w' := by
  have HS := Lib.hid (pins_session_ok ⟨p, 0, none⟩ i _ _ _ w (by omega) (by omega) h.cellp)
  have HE := Lib.hid (idxOf_none hg)
  have hi1 : (i : Int) < 2 := by omega
  have hi2 : (0 : Int) ≤ i := by omega
  have H := Lib.hid h
  clear h hg
  go_enter Try.func6, Try.ntmps6
  go_wp2_with fail
  refine HS.out.mono ?_
  rintro e w0 ⟨rfl, rfl⟩
  go_wp2_with fail
  refine (pins_number_nil w).mono ?_
  rintro e w1 ⟨rfl, ho1⟩
  have HW1 := Lib.hid ho1
  have h1 := H.out.only ho1 (by simp)
  have hp1 := h1.cellp
  have hc1 := h1.cellq hi
  have HO1 := Lib.hid (h1.own i hi)
  clear ho1 h1
  go_wp2_with fail
  refine (index_own HO1.out g).mono ?_
  rw [HE.out]
  rintro e w0 ⟨rfl, rfl⟩
  go_wp2_with fail
  go_ret
  exact ⟨rfl, HW1.out⟩

theorem pins_Of_ok (p q : Nat) (ss : Nat → Value) (ls : Nat → List Int) (w : World) (h : PinsAt w p q ss ls) (i : Nat) (hi : i < 2) (hl : (ls i).length ≤ 16) :
    Calls Try.prog 9 #[.pointer (some ⟨p, 0, none⟩), .int .i64 i] w fun e w' => ∃ v, e = .returned v ∧ OwnI w' v (ls i) ∧ Only [] w w' := by
  have HS := Lib.hid (pins_session_ok ⟨p, 0, none⟩ i _ _ _ w (by omega) (by omega) h.cellp)
  have hp := h.cellp
  have hc := h.cellq hi
  have HO := Lib.hid (h.own i hi)
  have hi1 : (i : Int) < 2 := by omega
  have hi2 : (0 : Int) ≤ i := by omega
  clear h
  go_enter Try.func9, Try.ntmps9
  go_wp2_with fail
  refine HS.out.mono ?_
  rintro e w0 ⟨rfl, rfl⟩
  go_wp2_with fail
  refine (clone_own HO.out (by omega)).mono ?_
  rintro e w1 ⟨v, rfl, hO, ho, -⟩
  have HO1 := Lib.hid hO
  have HW := Lib.hid ho
  clear hO ho
  go_wp2_with fail
  go_ret
  exact ⟨v, rfl, HO1.out, HW.out⟩

theorem pins_New2 (w : World) :
    Calls Try.prog 5 #[.int .i64 2] w fun e w' => ∃ p q, e = .returned (.tuple #[.pointer (some ⟨p, 0, none⟩), .int .i64 0]) ∧
      PinsAt w' p q (fun _ => .slice none 0 0) (fun _ => []) ∧ Only [] w w' ∧ w.heap.size ≤ p ∧ w.heap.size ≤ q := by
  have hmk : ∀ w, (Instr.makeSlice 36 (.int .i64 2) (.int .i64 2)).run Try.prog w = .ok (.slice (some ⟨w.heap.size, 0, none⟩) 2 2) (w.alloc (.cells #[.slice none 0 0, .slice none 0 0] 32)) := fun _ => by kernel_rfl
  go_enter Try.func5, Try.ntmps5
  go_wp2_with fail
  go_ret2
  refine ⟨_, _, rfl, ⟨by simpa using Blk.new (w.alloc (.cells #[.slice none 0 0, .slice none 0 0] 32)) 38 #[.slice (some ⟨w.heap.size, 0, none⟩) 2 2], (Blk.new w _ _).alloc _, fun i _ => OwnI.nil _, fun b hb => by cases hb⟩, ((Only.refl _ _).alloc _).alloc _, by simp, Nat.le_refl _⟩


/-- How often g is in what the first k sessions have. -/
def cnt (ls : Nat → List Int) (g : Int) : Nat → Nat
  | 0 => 0
  | k + 1 => cnt ls g k + (ls k).count g
theorem count_take_succ (l : List Int) (g : Int) (j : Nat) (hj : j < l.length) : (l.take (j + 1)).count g = (l.take j).count g + if l.getD j 0 = g then 1 else 0 := by
  rw [List.take_add_one, List.getElem?_eq_getElem hj, List.count_append]
  congr 1
  simp [List.count_cons, List.getD_eq_getElem?_getD, hj]
theorem cnt_le (ls : Nat → List Int) (g : Int) (hl : ∀ i, i < 2 → (ls i).length ≤ 16) : ∀ k, k ≤ 2 → cnt ls g k ≤ 16 * k
  | 0, _ => Nat.le_refl _
  | k + 1, hk => by
    have h1 := cnt_le ls g hl k (by omega)
    have h2 : (ls k).count g ≤ (ls k).length := List.count_le_length
    have h3 := hl k (by omega)
    simp only [cnt]
    omega

set_option maxRecDepth 100000 in
set_option maxHeartbeats 1600000 in
theorem pins_Count_ok (p q : Nat) (ss : Nat → Value) (ls : Nat → List Int) (w : World) (h : PinsAt w p q ss ls) (g : Int) (hl : ∀ i, i < 2 → (ls i).length ≤ 16) :
    Calls Try.prog 10 #[.pointer (some ⟨p, 0, none⟩), .int .i64 g] w fun e w' => e = .returned (.int .i64 (cnt ls g 2)) ∧ w = w' := by
  have hp := h.cellp
  have H := Lib.hid h
  have HL := Lib.hid hl
  clear h hl
  go_enter Try.func10, Try.ntmps10
  go_wp2_with fail
  go_loop [5, 17] (fun n k => ∃ i : Nat, i ≤ 2 ∧ k = .int .i64 i ∧ n = .int .i64 (cnt ls g i)) (fun _ k => 2 - (intOf k).toNat)
  case atStart => exact ⟨0, by omega, rfl, rfl⟩
  case round =>
    obtain ⟨i, hi, rfl, rfl⟩ := hrel
    by_cases hlt : i < 2
    · have hi0 : (0 : Int) ≤ i := by omega
      have hi1 : (i : Int) < 2 := by omega
      have hc := H.out.cellq hlt
      obtain ⟨A, c, hs, hA⟩ := (H.out.own i hlt).reads
      rw [hs] at hc
      have HA := Lib.hid hA
      have hlen := HL.out i hlt
      have hcn := cnt_le ls g HL.out i hi
      have HS : Hid (cnt ls g (i + 1) = cnt ls g i + (ls i).count g) := rfl
      clear hs hA
      obtain ⟨l, hl⟩ : ∃ l, Hid (ls i = l) := ⟨_, Lib.hid rfl⟩
      rw [hl.out] at hc HA hlen
      obtain ⟨m, hm⟩ : ∃ m, Hid (cnt ls g i = m) := ⟨_, Lib.hid rfl⟩
      rw [hm.out] at hcn ⊢
      go_wp2_with fail
      go_loop [5, 23] (fun n k => ∃ j : Nat, j ≤ l.length ∧ k = .int .i64 j ∧ n = .int .i64 ((m + (l.take j).count g : Nat) : Int)) (fun _ k => l.length - (intOf k).toNat)
      case atStart => exact ⟨0, by omega, rfl, by simp⟩
      case round =>
        obtain ⟨j, hj, rfl, rfl⟩ := hrel
        by_cases hjt : j < l.length
        · obtain ⟨b, off, rfl, hx⟩ := HA.out j hjt
          have hj0 : (0 : Int) ≤ j := by omega
          have hj1 : (j : Int) < l.length := by omega
          have hct : (l.take j).count g ≤ 16 := by have h1 : (l.take j).count g ≤ (l.take j).length := List.count_le_length; simp at h1; omega
          have HT := Lib.hid (count_take_succ l g j hjt)
          obtain ⟨x, hX⟩ : ∃ x, Hid (l.getD j 0 = x) := ⟨_, Lib.hid rfl⟩
          rw [hX.out] at hx HT
          obtain ⟨y, hY⟩ : ∃ y, Hid ((l.take j).count g = y) := ⟨_, Lib.hid rfl⟩
          rw [hY.out] at hct ⊢ HT
          cases he : (x == g) with
          | true =>
            go_wp2_with fail
            go_round
            case rel => exact ⟨j + 1, by omega, by go_num, by rw [HT.out, if_pos (by simpa using he)]; go_num⟩
            case measure => simp [intOf]; omega
          | false =>
            go_wp2_with fail
            go_round
            case rel => exact ⟨j + 1, by omega, by go_num, by rw [HT.out, if_neg (by simpa using he)]; rfl⟩
            case measure => simp [intOf]; omega
        · obtain rfl : j = l.length := by omega
          go_wp2_with fail
          go_round
          case rel => exact ⟨i + 1, by omega, by go_num, by rw [HS.out, hl.out, hm.out, List.take_length]⟩
          case measure => simp [intOf]; omega
    · obtain rfl : i = 2 := by omega
      go_wp2_with fail
      go_ret
      exact ⟨rfl, rfl⟩
end Go.Proofs.Ytfcekldlgcdgnaa
