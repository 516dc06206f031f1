/-
  Memory words for this seat: a block that is known whole, a world that has kept all blocks but some, a slice that owns its array. No program stands here.
-/
import Derived.WalkKit
import Derived.WalkSpells
import Derived.WalkLawsBesides
import Derived.Sort.Row
import Derived.Sort.Grow
namespace Go.Proofs.YtbfgpghfofmanaaDoor
open Go.RowKit

/-- Block g is just the cells cs of element type t, none frozen. -/
def Blk (w : World) (g : Nat) (t : TypeId) (cs : Array Value) : Prop := w.heap[g]? = some (.cells cs t (0, 0))

/-- From w to w2 only blocks of F have turned, of those that were there; new blocks may have come. -/
structure Only (F : List Nat) (w w2 : World) : Prop where
  os : w2.os = w.os
  tape : w2.tape = w.tape
  output : w2.output = w.output
  size : w.heap.size ≤ w2.heap.size
  block : ∀ k, k < w.heap.size → k ∉ F → w2.heap[k]? = w.heap[k]?

section
variable {w w1 w2 : World} {g : Nat} {t : TypeId} {cs : Array Value} {F G : List Nat}

theorem Blk.lt (h : Blk w g t cs) : g < w.heap.size := by
  rcases Nat.lt_or_ge g w.heap.size with hlt | hge
  · exact hlt
  · unfold Blk at h; rw [Array.getElem?_eq_none hge] at h; cases h
theorem Blk.cell (h : Blk w g t cs) (i : Nat) : w.cell? ⟨g, i, none⟩ = cs[i]? := cell_of_row w g i cs t (0, 0) h
theorem Blk.frozen (h : Blk w g t cs) (i : Nat) : w.frozen? ⟨g, i, none⟩ = false := by
  unfold Blk at h
  simp [World.frozen?, h]
theorem Blk.new (w : World) (t : TypeId) (cs : Array Value) : Blk (w.alloc (.cells cs t)) w.heap.size t cs := heap_alloc_new w _
theorem Blk.drew (h : Blk w g t cs) : Blk w.drew g t cs := h
theorem Blk.alloc (h : Blk w g t cs) (o : Obj) : Blk (w.alloc o) g t cs := (Below.heap_alloc w o g h.lt).trans h
theorem Blk.set_ (h : Blk w g t cs) (i : Nat) (u : Value) : Blk (w.setCell ⟨g, i, none⟩ u) g t (cs.setIfInBounds i u) := by
  unfold Blk at h ⊢
  simp [World.setCell, Array.getElem?_modify, h]
theorem Blk.far (h : Blk w g t cs) {p : Addr} (hp : g ≠ p.block) (u : Value) : Blk (w.setCell p u) g t cs := (Below.heap_setCell w p u g hp).trans h
theorem Blk.only (h : Blk w g t cs) (ho : Only F w w1) (hg : g ∉ F) : Blk w1 g t cs := (ho.block g h.lt hg).trans h
theorem Blk.eq_ {t2 : TypeId} {cs2 : Array Value} (h : Blk w g t cs) (h2 : Blk w g t2 cs2) : t = t2 ∧ cs = cs2 := by
  unfold Blk at h h2; rw [h] at h2; injection h2 with h2; injection h2 with a b; exact ⟨b, a⟩
theorem Blk.ne_ {g2 : Nat} {t2 : TypeId} {cs2 : Array Value} (h : Blk w g t cs) (h2 : Blk w g2 t2 cs2) (hne : t ≠ t2) : g ≠ g2 := by
  rintro rfl; exact hne (h.eq_ h2).1

theorem Only.refl (F : List Nat) (w : World) : Only F w w := ⟨rfl, rfl, rfl, Nat.le_refl _, fun _ _ _ => rfl⟩
theorem Only.trans (h : Only F w w1) (k : Only G w1 w2) (hG : ∀ b ∈ G, b ∈ F ∨ w.heap.size ≤ b) : Only F w w2 :=
  ⟨k.os.trans h.os, k.tape.trans h.tape, k.output.trans h.output, Nat.le_trans h.size k.size, fun b hb hF =>
    (k.block b (by have := h.size; omega) (fun hm => by rcases hG b hm with h1 | h1; exact hF h1; omega)).trans (h.block b hb hF)⟩
theorem Only.mono (h : Only F w w1) (hF : ∀ b ∈ F, b ∈ G ∨ w.heap.size ≤ b) : Only G w w1 :=
  ⟨h.os, h.tape, h.output, h.size, fun b hb hG => h.block b hb (fun hm => by rcases hF b hm with h1 | h1; exact hG h1; omega)⟩
theorem Only.drew (h : Only F w w1) : Only F w w1.drew := ⟨h.os, h.tape, h.output, h.size, h.block⟩
theorem Only.drewN (h : Only F w w1) (n : Nat) : Only F w (w1.drewN n) := ⟨h.os, h.tape, h.output, h.size, h.block⟩
theorem Only.alloc (h : Only F w w1) (o : Obj) : Only F w (w1.alloc o) :=
  h.trans (G := []) ⟨rfl, rfl, rfl, by simp, fun k hk _ => Below.heap_alloc _ _ _ hk⟩ (by simp)
theorem Only.setCell (h : Only F w w1) {p : Addr} (hp : p.block ∈ F ∨ w.heap.size ≤ p.block) (u : Value) : Only F w (w1.setCell p u) :=
  h.trans (G := [p.block]) ⟨rfl, rfl, rfl, by simp [World.setCell], fun k _ hk => Below.heap_setCell _ _ _ _ (by simpa using hk)⟩ (by simpa using hp)
theorem Only.of_below (h : Below w.heap.size w w1) : Only F w w1 := ⟨h.os, h.tape, h.output, h.size, fun b hb _ => h.block b hb⟩
theorem Only.below (h : Only [] w w1) : Below w.heap.size w w1 := ⟨h.os, h.tape, h.output, h.size, fun b hb => h.block b hb (by simp)⟩
theorem Only.grown {row : Option Nat} (h : w.grownBy w1 row) : Only row.toList w w1 :=
  ⟨h.os, h.tape, h.output, h.size, fun b hb hF => h.block b hb (fun e => hF (by simp [← e]))⟩
theorem Only.cell (h : Only F w w1) {p : Addr} (hp : p.block < w.heap.size) (hF : p.block ∉ F) : w1.cell? p = w.cell? p := World.cell?_of_block (w := w) (h.block p.block hp hF)
theorem Only.frozen (h : Only F w w1) {p : Addr} (hp : p.block < w.heap.size) (hF : p.block ∉ F) : w1.frozen? p = w.frozen? p := World.frozen?_of_block (w := w) (h.block p.block hp hF)
theorem Only.grow (w : World) (os : Array Obj) : Only F w (Go.Sort.grow w os) := by
  refine ⟨rfl, rfl, rfl, by simp [Go.Sort.grow], fun k hk _ => ?_⟩
  simp [Go.Sort.grow, Array.getElem?_append, hk]
theorem frozen_alloc_lt (w : World) (o : Obj) (a : Addr) (h : a.block < w.heap.size) : (w.alloc o).frozen? a = w.frozen? a := World.frozen?_alloc_old w o a (Nat.ne_of_lt h)
end
end Go.Proofs.YtbfgpghfofmanaaDoor
