/-
  The law's steps, as they are read; fair.
-/
import Derived.Test.YtbfgpghfofmanaaDoorFramesE
namespace Go.Proofs.YtbfgpghfofmanaaDoor
open Go.RowKit

/-- One call, as it stands in memory. -/
structure Stp where
  kind : Int
  frame : Int
  key : Int
  off : Int
  v : Int
  da : Option Addr
  dn : Nat
  dc : Nat
def ReadsS (w : World) (va : Value) (l : List Stp) : Prop :=
  ∃ A c, va = .slice A l.length c ∧ ∀ j x, l[j]? = some x → ∃ b off, A = some ⟨b, off, none⟩ ∧ w.cell? ⟨b, off + j * 6, none⟩ = some (.int .i64 x.kind) ∧ w.cell? ⟨b, off + j * 6 + 1, none⟩ = some (.int .i64 x.frame) ∧ w.cell? ⟨b, off + j * 6 + 2, none⟩ = some (.int .i64 x.key) ∧
    w.cell? ⟨b, off + j * 6 + 3, none⟩ = some (.int .i64 x.off) ∧ w.cell? ⟨b, off + j * 6 + 4, none⟩ = some (.int .u8 x.v) ∧ w.cell? ⟨b, off + j * 6 + 5, none⟩ = some (.slice x.da x.dn x.dc)
def fairL (l : List Stp) : Bool := l.all (fun x => decide (x.dn ≤ 100)) && decide (l.length ≤ 150)

set_option maxRecDepth 100000 in
theorem fair_tells (w : World) (va : Value) (l : List Stp) (h : ReadsS w va l) (hl : l.length ≤ maxLen) :
    Calls Tryd.prog 7 #[va] w fun e w' => e = .returned (.bool (fairL l)) ∧ Only [] w w' := by
  obtain ⟨A, c, rfl, hx⟩ := h
  have HX := Lib.hid hx
  have HLen := Lib.hid hl
  clear hx hl
  go_enter Tryd.func7, Tryd.ntmps7
  go_wp2_with fail
  go_loopw [3] (fun i wr => ∃ k : Nat, k ≤ l.length ∧ i = .int .i64 k ∧ (l.take k).all (fun x => decide (x.dn ≤ 100)) = true ∧ w = wr) (fun i _ => l.length - (intOf i).toNat)
  case atStart => exact ⟨0, by omega, rfl, by simp, rfl⟩
  case round =>
    obtain ⟨k, hk, rfl, ht, rfl⟩ := hrel
    have HT := Lib.hid ht
    clear ht
    by_cases hlt : k < l.length
    · obtain ⟨x, hxk⟩ : ∃ x, l[k]? = some x := ⟨l[k], List.getElem?_eq_getElem hlt⟩
      obtain ⟨b, off, rfl, -, -, -, -, -, h5⟩ := HX.out k x hxk
      have hk0 : (0 : Int) ≤ k := by omega
      have hk1 : (k : Int) < l.length := by omega
      have hk9 : (k : Int) < 9223372036854775807 := by have := HLen.out; unfold maxLen at this; omega
      have HLt := Lib.hid hlt
      have HXk := Lib.hid hxk
      clear hxk hlt
      by_cases hd : 100 < (x.dn : Int)
      · have HF : Hid (fairL l = false) := by
          have hm := List.mem_of_getElem? HXk.out
          unfold Hid fairL
          rw [Bool.and_eq_false_iff]
          left
          rw [List.all_eq_false]
          exact ⟨x, hm, by simp; omega⟩
        go_wp2_with fail
        go_ret
        exact ⟨by rw [HF.out]; rfl, Only.refl _ _⟩
      · go_wp2_with fail
        go_roundw
        case rel =>
          refine ⟨k + 1, HLt.out, by go_num, ?_, trivial⟩
          rw [List.take_add_one, HXk.out, List.all_append, HT.out]
          simp; omega
        case measure => have := HLt.out; simp [intOf]; omega
    · obtain rfl : k = l.length := by omega
      have HF : Hid (fairL l = decide (l.length ≤ 150)) := by
        have := HT.out
        rw [List.take_length] at this
        unfold Hid fairL
        rw [this, Bool.true_and]
      by_cases h2 : (l.length : Int) ≤ 150
      · go_wp2_with fail
        go_ret
        exact ⟨by rw [HF.out]; simp; omega, Only.refl _ _⟩
      · go_wp2_with fail
        go_ret
        exact ⟨by rw [HF.out]; simp; omega, Only.refl _ _⟩
end Go.Proofs.YtbfgpghfofmanaaDoor
