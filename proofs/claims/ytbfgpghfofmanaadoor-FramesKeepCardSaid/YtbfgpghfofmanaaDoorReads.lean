/-
  siltkeep.Ints: are two slices of ints alike? For slices wherever they lie.
-/
import Derived.Test.YtbfgpghfofmanaaDoorInts
import Derived.Deep.QuietTactic
import Derived.BigQuiet
import Derived.Lib.Hide
namespace Go.Proofs.YtbfgpghfofmanaaDoor
open Go.RowKit Go.Sort

/-- A slice that reads as a list of ints. -/
def ReadsI (w : World) (v : Value) (l : List Int) : Prop :=
  ∃ A c, v = .slice A l.length c ∧ ∀ j, j < l.length → ∃ b off, A = some ⟨b, off, none⟩ ∧ w.cell? ⟨b, off + j, none⟩ = some (.int .i64 (l.getD j 0))
theorem OwnI.reads {w : World} {v : Value} {l : List Int} (h : OwnI w v l) : ReadsI w v l := by
  rcases h.cases_ with ⟨rfl, rfl⟩ | ⟨g, cur, rfl, hb, h1, h2, h3⟩
  · exact ⟨_, _, rfl, fun j hj => absurd hj (by simp)⟩
  · exact ⟨_, _, rfl, fun j hj => ⟨g, 0, rfl, by rw [Nat.zero_add]; exact h.cells hj⟩⟩

theorem take_eq_succ {l m : List Int} {k : Nat} (h : l.take k = m.take k) (hl : k < l.length) (hm : k < m.length) (he : l.getD k 0 = m.getD k 0) : l.take (k + 1) = m.take (k + 1) := by
  rw [List.take_add_one, List.take_add_one, h, List.getElem?_eq_getElem hl, List.getElem?_eq_getElem hm]
  simp [List.getD_eq_getElem?_getD, hl, hm] at he
  rw [he]

set_option maxRecDepth 100000 in
theorem ints_alike {w : World} {v u : Value} {l m : List Int} (hv : ReadsI w v l) (hu : ReadsI w u m) (_hl : l.length ≤ 1000000) (hm : m.length ≤ 1000000) :
    Calls Tryd.prog 29 #[v, u] w fun e w' => e = .returned (.bool (decide (l = m))) ∧ Only [] w w' := by
  obtain ⟨A, c, rfl, hA⟩ := hv
  obtain ⟨B, d, rfl, hB⟩ := hu
  have HA := Lib.hid hA
  have HB := Lib.hid hB
  clear hA hB
  by_cases hn : l.length = m.length
  · have hne : ((m.length : Int) != (m.length : Int)) = false := by simp
    have HN := Lib.hid hn
    have hA' : ∀ j, j < m.length → ∃ b off, A = some ⟨b, off, none⟩ ∧ w.cell? ⟨b, off + j, none⟩ = some (.int .i64 (l.getD j 0)) := fun j hj => HA.out j (by omega)
    rw [hn]
    clear hn HA
    have HA := Lib.hid hA'
    clear hA'
    go_enter Tryd.func29, Tryd.ntmps29
    go_wp2_with fail
    go_loopw [5] (fun i wr => ∃ k : Nat, k ≤ m.length ∧ i = .int .i64 k ∧ l.take k = m.take k ∧ Only [] w wr ∧ (∀ a, wr.cell? a = w.cell? a)) (fun i _ => m.length - (intOf i).toNat)
    case atStart => exact ⟨0, Nat.zero_le _, rfl, rfl, Only.refl _ _, fun _ => rfl⟩
    case round =>
      obtain ⟨k, hk, rfl, ht, ho, hcell⟩ := hrel
      have HT := Lib.hid ht
      have HO := Lib.hid ho
      have HC := Lib.hid hcell
      clear ht ho hcell
      by_cases hlt : k < m.length
      · obtain ⟨b, off, rfl, hx⟩ := HA.out k hlt
        obtain ⟨b2, off2, rfl, hy⟩ := HB.out k hlt
        rw [← HC.out] at hx hy
        have hk0 : (0 : Int) ≤ k := by omega
        have hk1 : (k : Int) < m.length := by omega
        obtain ⟨x, hX⟩ : ∃ x, Hid (l.getD k 0 = x) := ⟨_, Lib.hid rfl⟩
        obtain ⟨y, hY⟩ : ∃ y, Hid (m.getD k 0 = y) := ⟨_, Lib.hid rfl⟩
        rw [hX.out] at hx
        rw [hY.out] at hy
        cases he : (x != y) with
        | true =>
          go_wp2_with fail
          go_quiet (fail)
          go_wp2_with fail
          go_ret
          refine ⟨?_, HO.out.drewN _⟩
          have : l ≠ m := by
            rintro rfl
            have h2 := hX.out.symm.trans hY.out
            simp [h2] at he
          simp [this]
        | false =>
          go_wp2_with fail
          go_quiet (fail)
          go_wp2_with fail
          go_roundw
          case rel => exact ⟨k + 1, by omega, by go_num, take_eq_succ HT.out (by have := HN.out; omega) hlt (by rw [hX.out, hY.out]; simpa using he), HO.out.drewN _, HC.out⟩
          case measure => simp [intOf]; omega
      · obtain rfl : k = m.length := by omega
        go_wp2_with fail
        go_ret
        refine ⟨?_, HO.out⟩
        have h1 := HT.out
        rw [List.take_of_length_le (Nat.le_refl _), List.take_of_length_le (by have := HN.out; omega)] at h1
        simp [h1]
  · have hne : ((l.length : Int) != (m.length : Int)) = true := by simp; omega
    have hd : decide (l = m) = false := by simp; rintro rfl; exact hn rfl
    rw [hd]
    clear hn hd HA HB
    go_enter Tryd.func29, Tryd.ntmps29
    go_wp2_with fail
    go_ret
    exact ⟨rfl, Only.refl _ _⟩
end Go.Proofs.YtbfgpghfofmanaaDoor
