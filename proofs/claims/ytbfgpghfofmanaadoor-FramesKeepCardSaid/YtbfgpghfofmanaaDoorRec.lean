/-
  Blocks that hold records of one size, one behind the other: reading and writing one of them. No program stands here.
-/
import Derived.Test.YtbfgpghfofmanaaDoorMem
import Derived.Deep.MidRow
namespace Go.Proofs.YtbfgpghfofmanaaDoor
open Go.RowKit

/-- Records, one behind the other. -/
def flat {α : Type} (g : α → List Value) (l : List α) : List Value := l.flatMap g

section
variable {α : Type} {g : α → List Value} {k : Nat}

theorem flat_length (hk : ∀ x, (g x).length = k) : ∀ l : List α, (flat g l).length = l.length * k
  | [] => by simp [flat]
  | x :: l => by
    have := flat_length hk l
    simp only [flat, List.flatMap_cons, List.length_append, hk, List.length_cons] at this ⊢
    rw [this, Nat.add_mul]; omega
theorem flat_take (hk : ∀ x, (g x).length = k) : ∀ (l : List α) (i : Nat), (flat g l).take (i * k) = flat g (l.take i)
  | [], i => by simp [flat]
  | x :: l, 0 => by simp [flat]
  | x :: l, i + 1 => by
    have := flat_take hk l i
    simp only [flat, List.flatMap_cons, List.take_succ_cons] at this ⊢
    rw [List.take_append, hk, List.take_of_length_le (by rw [hk, Nat.add_mul]; omega), ← this]
    congr 2
    rw [Nat.add_mul]; omega
theorem flat_drop (hk : ∀ x, (g x).length = k) : ∀ (l : List α) (i : Nat), (flat g l).drop (i * k) = flat g (l.drop i)
  | [], i => by simp [flat]
  | x :: l, 0 => by simp [flat]
  | x :: l, i + 1 => by
    have := flat_drop hk l i
    simp only [flat, List.flatMap_cons, List.drop_succ_cons] at this ⊢
    rw [List.drop_append, hk, List.drop_of_length_le (by rw [hk, Nat.add_mul]; omega), List.nil_append, ← this]
    congr 1
    rw [Nat.add_mul]; omega
theorem flat_get (hk : ∀ x, (g x).length = k) {l : List α} {i : Nat} {x : α} (hx : l[i]? = some x) {j : Nat} (hj : j < k) : (flat g l)[i * k + j]? = (g x)[j]? := by
  rw [← List.getElem?_drop, flat_drop hk, List.drop_eq_getElem?_toList_append, hx]
  simp only [flat, Option.toList_some, List.cons_append, List.nil_append, List.flatMap_cons]
  rw [List.getElem?_append_left (by rw [hk]; exact hj)]
theorem flat_split (_hk : ∀ x, (g x).length = k) {l : List α} {i : Nat} {x : α} (hx : l[i]? = some x) : flat g l = flat g (l.take i) ++ g x ++ flat g (l.drop (i + 1)) := by
  have h : l = l.take i ++ x :: l.drop (i + 1) := by
    obtain ⟨hi, rfl⟩ := List.getElem?_eq_some_iff.1 hx
    simp
  calc flat g l = flat g (l.take i ++ x :: l.drop (i + 1)) := by rw [← h]
    _ = _ := by simp [flat]
theorem flat_set (hk : ∀ x, (g x).length = k) {l : List α} {i : Nat} {x y : α} (hx : l[i]? = some x) : flat g (l.set i y) = flat g (l.take i) ++ g y ++ flat g (l.drop (i + 1)) := by
  obtain ⟨hi, _⟩ := List.getElem?_eq_some_iff.1 hx
  have h2 : (l.set i y)[i]? = some y := by simp [hi]
  rw [flat_split hk h2, List.take_set_of_le (Nat.le_refl _), List.drop_set_of_lt (by omega)]
/-- One record's cells from o on turned: the record turned. -/
theorem flat_splice (hk : ∀ x, (g x).length = k) {l : List α} {i : Nat} {x y : α} (hx : l[i]? = some x) (o : Nat) (vs : List Value) (ho : o + vs.length ≤ k) (hy : g y = (g x).take o ++ vs ++ (g x).drop (o + vs.length)) :
    (flat g l).take (i * k + o) ++ vs ++ (flat g l).drop (i * k + o + vs.length) = flat g (l.set i y) := by
  obtain ⟨hi, _⟩ := List.getElem?_eq_some_iff.1 hx
  rw [flat_set hk hx, hy, flat_split hk hx]
  have hl : (flat g (l.take i)).length = i * k := by rw [flat_length hk, List.length_take, Nat.min_eq_left (by omega)]
  have hgx := hk x
  rw [List.append_assoc (flat g (l.take i)), List.take_append, List.drop_append, hl, List.take_of_length_le (l := flat g (l.take i)) (by omega), List.drop_of_length_le (l := flat g (l.take i)) (by omega)]
  rw [show i * k + o - i * k = o by omega, show i * k + o + vs.length - i * k = o + vs.length by omega]
  rw [List.take_append_of_le_length (by omega), List.drop_append_of_le_length (by omega)]
  simp [List.append_assoc]
end

section
variable {w : World} {b : Nat} {t : TypeId}

theorem Blk.setCells : ∀ (vs : List Value) (o : Nat) {w : World} {cs : List Value}, Blk w b t cs.toArray → o + vs.length ≤ cs.length → Blk (w.setCells b o vs) b t (cs.take o ++ vs ++ cs.drop (o + vs.length)).toArray
  | [], o, w, cs, h, _ => by simpa [World.setCells] using h
  | v :: vs, o, w, cs, h, hl => by
    simp only [List.length_cons] at hl
    have h1 : Blk (w.setCell ⟨b, o, none⟩ v) b t (cs.set o v).toArray := by
      have := h.set_ o v
      simpa using this
    have h2 := Blk.setCells vs (o + 1) h1 (by simp; omega)
    rw [World.setCells]
    have e : (cs.set o v).take (o + 1) ++ vs ++ (cs.set o v).drop (o + 1 + vs.length) = cs.take o ++ (v :: vs) ++ cs.drop (o + (v :: vs).length) := by
      rw [List.drop_set_of_lt (by omega), List.take_add_one, List.take_set_of_le (Nat.le_refl _)]
      simp [show o < cs.length by omega, Nat.add_assoc, Nat.add_comm 1]
    rw [e] at h2
    exact h2
theorem Blk.range_ {cs : List Value} (h : Blk w b t cs.toArray) {o : Nat} {vs : List Value} (hv : ∀ j v, vs[j]? = some v → cs[o + j]? = some v) : w.rangeAt b o vs := fun j v hj => by
  rw [h.cell]; simpa using hv j v hj
theorem Blk.there_ {cs : List Value} (h : Blk w b t cs.toArray) {o n : Nat} (hn : o + n ≤ cs.length) : w.there b o n := fun j hj => by
  refine ⟨?_, h.frozen _⟩
  rw [h.cell]; simp; omega
theorem setCells_only : ∀ (vs : List Value) (o : Nat) (w : World), Only [b] w (w.setCells b o vs)
  | [], _, w => Only.refl _ _
  | v :: vs, o, w => by
    rw [World.setCells]
    exact ((Only.refl [b] w).setCell (.inl (by simp)) v).trans (setCells_only vs (o + 1) _) (fun c hc => .inl hc)
theorem Only.setCells {F : List Nat} {w w1 : World} (h : Only F w w1) (hb : b ∈ F ∨ w.heap.size ≤ b) (o : Nat) (vs : List Value) : Only F w (w1.setCells b o vs) :=
  h.trans (setCells_only vs o w1) (fun c hc => by simp at hc; subst hc; exact hb)
theorem setCells_size : ∀ (vs : List Value) (o : Nat) (w : World), (w.setCells b o vs).heap.size = w.heap.size
  | [], _, _ => rfl
  | v :: vs, o, w => by rw [World.setCells, setCells_size vs (o + 1)]; simp [World.setCell]
end

section
variable {α : Type} {g : α → List Value} {k : Nat} {w : World} {b : Nat} {t : TypeId}
/-- The cells of one record. -/
theorem Blk.rec_cell (hk : ∀ x, (g x).length = k) {l : List α} (h : Blk w b t (flat g l).toArray) {i : Nat} {x : α} (hx : l[i]? = some x) (j : Nat) (hj : j < k) : w.cell? ⟨b, i * k + j, none⟩ = (g x)[j]? := by
  rw [h.cell]; simpa using flat_get hk hx hj
/-- A part of one record, as a range. -/
theorem Blk.rec_range (hk : ∀ x, (g x).length = k) {l : List α} (h : Blk w b t (flat g l).toArray) {i : Nat} {x : α} (hx : l[i]? = some x) (o : Nat) (vs : List Value) (ho : o + vs.length ≤ k) (hv : (g x).drop o = vs ++ (g x).drop (o + vs.length)) :
    w.rangeAt b (i * k + o) vs := h.range_ fun j v hj => by
  have hjl : j < vs.length := (List.getElem?_eq_some_iff.1 hj).1
  rw [Nat.add_assoc, flat_get hk hx (by omega), ← List.getElem?_drop, hv, List.getElem?_append_left hjl, hj]
theorem Blk.rec_there (hk : ∀ x, (g x).length = k) {l : List α} (h : Blk w b t (flat g l).toArray) {i : Nat} {x : α} (hx : l[i]? = some x) (o n : Nat) (ho : o + n ≤ k) : w.there b (i * k + o) n := by
  refine h.there_ ?_
  obtain ⟨hi, _⟩ := List.getElem?_eq_some_iff.1 hx
  rw [flat_length hk]
  have : (i + 1) * k ≤ l.length * k := Nat.mul_le_mul_right k hi
  rw [Nat.add_mul] at this
  omega
/-- A part of one record turned. -/
theorem Blk.rec_set (hk : ∀ x, (g x).length = k) {l : List α} (h : Blk w b t (flat g l).toArray) {i : Nat} {x y : α} (hx : l[i]? = some x) (o : Nat) (vs : List Value) (ho : o + vs.length ≤ k) (hy : g y = (g x).take o ++ vs ++ (g x).drop (o + vs.length)) :
    Blk (w.setCells b (i * k + o) vs) b t (flat g (l.set i y)).toArray := by
  have h1 := h.setCells vs (i * k + o) (by
    obtain ⟨hi, _⟩ := List.getElem?_eq_some_iff.1 hx
    rw [flat_length hk]
    have : (i + 1) * k ≤ l.length * k := Nat.mul_le_mul_right k hi
    rw [Nat.add_mul] at this
    omega)
  rwa [flat_splice hk hx o vs ho hy] at h1
/-- One cell of one record turned. -/
theorem Blk.rec_set1 (hk : ∀ x, (g x).length = k) {l : List α} (h : Blk w b t (flat g l).toArray) {i : Nat} {x y : α} (hx : l[i]? = some x) (o : Nat) (v : Value) (ho : o < k) (hy : g y = (g x).set o v) :
    Blk (w.setCell ⟨b, i * k + o, none⟩ v) b t (flat g (l.set i y)).toArray := by
  have h1 := h.rec_set (vs := [v]) hk hx o (by simp; omega) (y := y) (by
    rw [hy, List.set_eq_take_append_cons_drop, if_pos (by rw [hk]; exact ho)]; simp)
  exact h1
end
end Go.Proofs.YtbfgpghfofmanaaDoor
