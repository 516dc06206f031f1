/-
  FramesKeep: the law's arrays in memory.
-/
import Derived.Test.YtbfgpghfofmanaaDoorFramesM
import Derived.Test.YtbfgpghfofmanaaDoorFramesK
import Derived.Test.YtbfgpghfofmanaaDoorFramesL
namespace Go.Proofs.YtbfgpghfofmanaaDoor
open Go.RowKit

def gB (x : B32) : List Value := by8 x.l
theorem gB_len (x : B32) : (gB x).length = 32 := by simp [gB, by8, x.h]
def bZ : B32 := ⟨zeroP, rfl⟩
/-- The law's arrays: pages as they were, as they are, what is held. -/
structure ArrAt (w : World) (q5 q6 q7 : Nat) (held : List Bool) (base now : List B32) : Prop where
  hb : Blk w q5 33 (flat gB base).toArray
  hn : Blk w q6 33 (flat gB now).toArray
  hh : Blk w q7 34 (held.map Value.bool).toArray
theorem pages_zero (w : World) : (Instr.alloc 33 true (.tuple #[])).run Tryd.prog w = .ok (.pointer (some ⟨w.heap.size, 0, none⟩)) (w.alloc (.cells (flat gB (List.replicate 8 bZ)).toArray 33)) := by kernel_rfl
theorem bools_zero (w : World) : (Instr.alloc 34 true (.tuple #[])).run Tryd.prog w = .ok (.pointer (some ⟨w.heap.size, 0, none⟩)) (w.alloc (.cells ((List.replicate 8 false).map Value.bool).toArray 34)) := by kernel_rfl

section
variable {w : World} {q5 q6 q7 : Nat} {held : List Bool} {base now : List B32}
theorem ArrAt.only {F : List Nat} {w2 : World} (h : ArrAt w q5 q6 q7 held base now) (ho : Only F w w2) (h5 : q5 ∉ F) (h6 : q6 ∉ F) (h7 : q7 ∉ F) : ArrAt w2 q5 q6 q7 held base now :=
  ⟨h.hb.only ho h5, h.hn.only ho h6, h.hh.only ho h7⟩
theorem ArrAt.base_ (h : ArrAt w q5 q6 q7 held base now) {p : Nat} {b : B32} (hb : base[p]? = some b) : w.rangeAt q5 (p * 32) (by8 b.l) :=
  h.hb.rec_range (g := gB) gB_len hb 0 (gB b) (by rw [gB_len]; omega) (by rw [Nat.zero_add, List.drop_length, List.append_nil, List.drop_zero])
theorem ArrAt.now_ (h : ArrAt w q5 q6 q7 held base now) {p : Nat} {b : B32} (hb : now[p]? = some b) : w.rangeAt q6 (p * 32) (by8 b.l) :=
  h.hn.rec_range (g := gB) gB_len hb 0 (gB b) (by rw [gB_len]; omega) (by rw [Nat.zero_add, List.drop_length, List.append_nil, List.drop_zero])
theorem ArrAt.held_ (h : ArrAt w q5 q6 q7 held base now) {p : Nat} {b : Bool} (hb : held[p]? = some b) : w.cell? ⟨q7, p, none⟩ = some (.bool b) := by
  rw [h.hh.cell]; simp [hb]

theorem ArrAt.ne (h : ArrAt w q5 q6 q7 held base now) : q5 ≠ q7 ∧ q6 ≠ q7 := ⟨h.hb.ne_ h.hh (by decide), h.hn.ne_ h.hh (by decide)⟩
theorem ArrAt.setHeld (h : ArrAt w q5 q6 q7 held base now) (p : Nat) (v : Bool) : ArrAt (w.setCell ⟨q7, p, none⟩ (.bool v)) q5 q6 q7 (held.set p v) base now := by
  refine ⟨h.hb.far h.ne.1 _, h.hn.far h.ne.2 _, ?_⟩
  have h1 := h.hh.set_ p (.bool v)
  rw [List.setIfInBounds_toArray, ← List.map_set] at h1
  exact h1
theorem ArrAt.setBase (h : ArrAt w q5 q6 q7 held base now) (hne : q5 ≠ q6) {p : Nat} {b : B32} (hb : base[p]? = some b) (x : B32) : ArrAt (w.setCells q5 (p * 32 + 0) (by8 x.l)) q5 q6 q7 held (base.set p x) now := by
  have ho : Only [q5] w (w.setCells q5 (p * 32 + 0) (by8 x.l)) := setCells_only _ _ w
  exact ⟨h.hb.rec_set (g := gB) gB_len hb 0 (gB x) (by rw [gB_len]; omega) (by rw [gB_len, List.drop_of_length_le (by rw [gB_len]; omega)]; simp), h.hn.only ho (by simp; omega), h.hh.only ho (by have := h.ne.1; simp; omega)⟩
theorem ArrAt.setNow (h : ArrAt w q5 q6 q7 held base now) (hne : q5 ≠ q6) {p : Nat} {b : B32} (hb : now[p]? = some b) (x : B32) : ArrAt (w.setCells q6 (p * 32 + 0) (by8 x.l)) q5 q6 q7 held base (now.set p x) := by
  have ho : Only [q6] w (w.setCells q6 (p * 32 + 0) (by8 x.l)) := setCells_only _ _ w
  exact ⟨h.hb.only ho (by simp; omega), h.hn.rec_set (g := gB) gB_len hb 0 (gB x) (by rw [gB_len]; omega) (by rw [gB_len, List.drop_of_length_le (by rw [gB_len]; omega)]; simp), h.hh.only ho (by have := h.ne.2; simp; omega)⟩
end
end Go.Proofs.YtbfgpghfofmanaaDoor
