/-
  Pages as values: 32 bytes. siltkeep.Leaf, siltkeep.Mod.
-/
import Derived.Test.YtbfgpghfofmanaaDoorRec
import Derived.Test.YtbfgpghfofmanaaDoorProg
import Derived.Test.YtbfgpghfofmanaaDoorMake
import Derived.Test.YtbfgpghfofmanaaDoorArr
import Derived.Lib.Hide
namespace Go.Proofs.YtbfgpghfofmanaaDoor
open Go.RowKit

/-- Bytes in cells. -/
def by8 (l : List Int) : List Value := l.map (Value.int .u8)
theorem by8_len (l : List Int) : (by8 l).length = l.length := by simp [by8]
theorem by8_one (l : List Int) : (by8 l).toArray.all (·.oneCell') = true := by
  rw [Array.all_eq_true_iff_forall_mem]
  intro v hv
  simp only [by8, List.mem_toArray, List.mem_map] at hv
  obtain ⟨x, _, rfl⟩ := hv
  rfl
/-- A page that is all one byte. -/
def leafP (v : Int) : List Int := List.replicate 32 v
def zeroP : List Int := leafP 0

theorem page_size : (Tryd.prog.info? 32).map (·.size) = some 32 := by kernel_rfl
theorem page_zero (w : World) : (Instr.alloc 32 true (.tuple #[])).run Tryd.prog w = .ok (.pointer (some ⟨w.heap.size, 0, none⟩)) (w.alloc (.cells (by8 zeroP).toArray 32)) := by kernel_rfl

set_option maxRecDepth 100000 in
theorem keep_Leaf (v : Int) (w : World) :
    Calls Tryd.prog 12 #[.int .u8 v] w fun e w' => e = .returned (.agg (by8 (leafP v)).toArray) ∧ Only [] w w' := by
  obtain ⟨Z, hZ⟩ : ∃ Z, Hid ((by8 zeroP).toArray = Z) := ⟨_, Lib.hid rfl⟩
  have hal := page_zero
  rw [hZ.out] at hal
  go_enter Tryd.func12, Tryd.ntmps12
  go_wp2_with (refine wpList_alloc_as rfl 32 rfl Z (hal _) ?_)
  go_loopw [4] (fun i wr => ∃ j : Nat, j ≤ 32 ∧ i = .int .i64 j ∧ Blk wr w.heap.size 32 Z ∧ Blk wr (w.heap.size + 1) 32 (by8 (List.replicate j v ++ List.replicate (32 - j) 0)).toArray ∧ Only [] w wr) (fun i _ => 32 - (intOf i).toNat)
  case atStart => exact ⟨0, by omega, rfl, (Blk.new w _ _).alloc _, by have h := Blk.new (w.alloc (.cells Z 32)) 32 Z; rw [show (w.alloc (.cells Z 32)).heap.size = w.heap.size + 1 from by simp] at h; rw [show (by8 (List.replicate 0 v ++ List.replicate (32 - 0) 0)).toArray = Z from hZ.out]; exact h, ((Only.refl _ _).alloc _).alloc _⟩
  case round =>
    clear hal
    obtain ⟨j, hj, rfl, hb0, hb1, ho⟩ := hrel
    have H0 := Lib.hid hb0
    have H1 := Lib.hid hb1
    have HO := Lib.hid ho
    by_cases hlt : j < 32
    · have c0 : wr.cell? ⟨w.heap.size + 1, j, none⟩ = some (.int .u8 0) := by
        rw [hb1.cell, List.getElem?_toArray, by8, List.getElem?_map, List.getElem?_append_right (by simp), List.length_replicate, Nat.sub_self, List.getElem?_replicate, if_pos (by omega)]
        rfl
      have f0 := hb1.frozen j
      have hj0 : (0 : Int) ≤ j := by omega
      have hj1 : (j : Int) < 32 := by omega
      clear hb0 hb1 ho
      go_wp2_with fail
      go_roundw
      case rel =>
        refine ⟨j + 1, by omega, by go_num, H0.out.far (by simp) _, ?_, HO.out.setCell (.inr (by simp)) _⟩
        have h := H1.out.set_ j (.int .u8 v)
        have e : (by8 (List.replicate j v ++ List.replicate (32 - j) 0)).toArray.setIfInBounds j (.int .u8 v) = (by8 (List.replicate (j + 1) v ++ List.replicate (32 - (j + 1)) 0)).toArray := by
          rw [show 32 - j = (32 - (j + 1)) + 1 by omega, List.replicate_succ, List.replicate_succ']
          simp [by8, List.set_append_right]
        rw [e] at h
        exact h
      case measure => simp [intOf]; omega
    · obtain rfl : j = 32 := by omega
      have HR : Hid ((by8 (List.replicate 32 v ++ List.replicate (32 - 32) 0)).toArray = (by8 (leafP v)).toArray) := by simp [Hid, leafP]
      rw [HR.out] at hb1
      obtain ⟨L, hL⟩ : ∃ L, Hid ((by8 (leafP v)) = L) := ⟨_, Lib.hid rfl⟩
      rw [hL.out] at hb1
      have hLl : L.length = 32 := by rw [← hL.out]; simp [by8, leafP]
      have HL := Lib.hid hLl
      have hb0' : Blk wr w.heap.size 32 (by8 zeroP).toArray := by rw [hZ.out]; exact hb0
      have HR1 := Lib.hid hb1
      have HR0 := Lib.hid hb0'
      clear hb0 hb1 ho hLl hb0'
      go_wp2_with (first
        | (refine wpList_load_row rfl 32 _ rfl _ rfl 32 L.toArray (0, 0) _ HR1.out Tryd.underlying32 rfl (by rw [page_size]; simp [HL.out]) ?_)
        | (refine wpList_store_mid rfl 32 _ _ rfl w.heap.size 0 L.toArray rfl rfl (HR0.out.there_ (by simp [HL.out, by8_len, zeroP, leafP])) (by rw [page_size]; simp [HL.out]) (by rw [← hL.out]; exact by8_one _) ?_))
      have hfin : Blk (wr.setCells w.heap.size 0 L) w.heap.size 32 L.toArray := by
        have h := HR0.out.setCells L 0 (by simp [HL.out, by8_len, zeroP, leafP])
        rw [HL.out, List.drop_of_length_le (by simp [by8_len, zeroP, leafP])] at h
        simpa using h
      (try simp only [Exit.inBlock, Exit.then])
      refine bodyPost_ret (results_cell_row rfl _ _ w.heap.size 32 L.toArray (0, 0) _ rfl hfin Tryd.underlying32 rfl (by rw [page_size]; simp [HL.out])) rfl ⟨by rw [← hL.out], HO.out.setCells (.inr (Nat.le_refl _)) 0 L⟩

theorem tmod_bd (k n : Int) (h1 : 1 ≤ n) : -n < k.tmod n ∧ k.tmod n < n := by
  rw [tmod_eq_if]
  have b0 := Int.emod_nonneg k (show n ≠ 0 by omega)
  have b1 := Int.emod_lt_of_pos k (show 0 < n by omega)
  have b2 := Int.emod_nonneg (-k) (show n ≠ 0 by omega)
  have b3 := Int.emod_lt_of_pos (-k) (show 0 < n by omega)
  split <;> omega
theorem mod_value (k n : Int) (h1 : 1 ≤ n) : (k.tmod n + n).tmod n = k % n := by
  have hb := tmod_bd k n h1
  rw [Int.tmod_eq_emod_of_nonneg (by omega), Int.add_emod_right, tmod_eq_if]
  split
  · rw [Int.emod_emod]
  · have h := Int.emod_add_mul_ediv (-k) n
    rw [show -((-k) % n) = k + n * ((-k) / n) from by omega, Int.add_mul_emod_self_left]
theorem keep_Mod (k n : Int) (w : World) (h1 : 1 ≤ n) (h2 : n ≤ 1000000) :
    Calls Tryd.prog 9 #[.int .i64 k, .int .i64 n] w fun e w' => e = .returned (.int .i64 (k % n)) ∧ w = w' := by
  go_enter Tryd.func9, Tryd.ntmps9
  go_wp2
  go_ret
  refine ⟨?_, rfl⟩
  have hb := tmod_bd k n h1
  have hw : wrap64 (k.tmod n + n) = k.tmod n + n := by unfold wrap64; omega
  show Ending.returned (.int .i64 ((wrap64 (k.tmod n + n)).tmod n)) = _
  rw [hw, mod_value k n h1]
end Go.Proofs.YtbfgpghfofmanaaDoor
