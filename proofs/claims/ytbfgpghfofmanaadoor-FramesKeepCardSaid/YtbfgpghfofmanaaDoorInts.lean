/-
  Slices of ints that own their array: the library's Sort, Index, Delete, Clone at them.
-/
import Derived.Test.YtbfgpghfofmanaaDoorMem
import Derived.Test.YtbfgpghfofmanaaDoorShelf
namespace Go.Proofs.YtbfgpghfofmanaaDoor
open Go.RowKit Go.Sort

theorem mapBlock_blk {w : World} {g : Nat} {t : TypeId} {cs : Array Value} (h : Blk w g t cs) (f : Array Value → Array Value) : Blk (mapBlock w g f) g t (f cs) := by
  unfold Blk at h ⊢
  simp [mapBlock, onCells, Array.getElem?_modify, h]
theorem mapBlock_only (w : World) (g : Nat) (f : Array Value → Array Value) : Only [g] w (mapBlock w g f) :=
  ⟨rfl, rfl, rfl, by simp [mapBlock], fun k _ hk => by
    simp only [mapBlock, Array.getElem?_modify]
    rw [if_neg (by simp at hk; omega)]⟩
theorem ahead_only (F : List Nat) (w : World) (n : Nat) : Only F w (Sort.ahead w n) := ⟨rfl, rfl, rfl, Nat.le_refl _, fun _ _ _ => rfl⟩
theorem ahead_blk {w : World} {g : Nat} {t : TypeId} {cs : Array Value} (h : Blk w g t cs) (n : Nat) : Blk (Sort.ahead w n) g t cs := h
theorem grow_blk {w : World} {g : Nat} {t : TypeId} {cs : Array Value} (h : Blk w g t cs) (os : Array Obj) : Blk (grow w os) g t cs := h.only (Only.grow (F := []) w os) (by simp)

/-- A slice of ints that owns its array. -/
def OwnI (w : World) (v : Value) (l : List Int) : Prop := w.ownsRow 0 3 1 v l.length (l.map (Value.int .i64))
theorem OwnI.nil (w : World) : OwnI w (.slice none 0 0) [] := ⟨rfl, .inl ⟨rfl, rfl⟩⟩
theorem OwnI.cases_ {w : World} {v : Value} {l : List Int} (h : OwnI w v l) : (v = .slice none 0 0 ∧ l = []) ∨
    ∃ g cur, v = .slice (some ⟨g, 0, none⟩) l.length cur.size ∧ Blk w g 3 cur ∧ l.length ≤ cur.size ∧ cur.size ≤ maxLen ∧ cur.toList.take l.length = l.map (Value.int .i64) := by
  rcases h.2 with ⟨h1, h2⟩ | ⟨g, cap, cur, rfl, _, hb, h1, h2, h3, h4⟩
  · exact .inl ⟨h1, List.eq_nil_of_length_eq_zero h2⟩
  · obtain rfl : cur.size = cap := by omega
    exact .inr ⟨g, cur, rfl, hb, h1, h2, by simpa using h4⟩
theorem OwnI.mk_ {w : World} {g : Nat} {cur : Array Value} {l : List Int} (hb : Blk w g 3 cur) (h1 : l.length ≤ cur.size) (h2 : cur.size ≤ maxLen) (h3 : cur.toList.take l.length = l.map (Value.int .i64)) :
    OwnI w (.slice (some ⟨g, 0, none⟩) l.length cur.size) l :=
  ⟨by simp, .inr ⟨g, _, cur, rfl, Nat.zero_le _, hb, h1, h2, by simp, by simpa using h3⟩⟩
theorem OwnI.keep {w w2 : World} {v : Value} {l : List Int} (h : OwnI w v l) (hk : ∀ g, v.ownBlock = some g → w2.heap[g]? = w.heap[g]?) : OwnI w2 v l := by
  rcases h.cases_ with ⟨rfl, rfl⟩ | ⟨g, cur, rfl, hb, h1, h2, h3⟩
  · exact OwnI.nil _
  · exact OwnI.mk_ ((hk g rfl).trans hb) h1 h2 h3
theorem OwnI.lt {w : World} {v : Value} {l : List Int} (h : OwnI w v l) {g : Nat} (hg : v.ownBlock = some g) : g < w.heap.size := by
  rcases h.cases_ with ⟨rfl, rfl⟩ | ⟨g, cur, rfl, hb, h1, h2, h3⟩
  · cases hg
  · injection hg with hg; subst hg; exact hb.lt
theorem OwnI.only {F : List Nat} {w w2 : World} {v : Value} {l : List Int} (h : OwnI w v l) (ho : Only F w w2) (hF : ∀ g ∈ F, v.ownBlock ≠ some g) : OwnI w2 v l :=
  h.keep fun g hg => ho.block g (h.lt hg) fun hm => hF g hm hg
theorem OwnI.ne_ {w : World} {v : Value} {l : List Int} (h : OwnI w v l) {g : Nat} {t : TypeId} {cs : Array Value} (hb : Blk w g t cs) (ht : 3 ≠ t) : v.ownBlock ≠ some g := by
  rcases h.cases_ with ⟨rfl, rfl⟩ | ⟨g2, cur, rfl, hb2, _⟩
  · intro h; cases h
  · intro e; injection e with e; subst e; exact hb2.ne_ hb ht rfl
theorem OwnI.drew_ {w : World} {v : Value} {l : List Int} (h : OwnI w v l) : w.drew.ownsRow 0 3 1 v l.length (l.map (Value.int .i64)) := h
theorem OwnI.slice {w : World} {v : Value} {l : List Int} (h : OwnI w v l) : ∃ A c, v = .slice A l.length c := by
  rcases h.cases_ with ⟨rfl, rfl⟩ | ⟨g2, cur, rfl, _⟩ <;> exact ⟨_, _, rfl⟩
theorem take_cell {cur : Array Value} {l : List Int} (h3 : cur.toList.take l.length = l.map (Value.int .i64)) {j : Nat} (hj : j < l.length) : cur[j]? = some (.int .i64 (l.getD j 0)) := by
  have h := congrArg (fun x => x[j]?) h3
  simp only [List.getElem?_take, hj, if_true, List.getElem?_map, Array.getElem?_toList] at h
  rw [h, List.getD_eq_getElem?_getD, List.getElem?_eq_getElem hj]; rfl
theorem OwnI.cells {w : World} {g c : Nat} {n : Nat} {l : List Int} (h : OwnI w (.slice (some ⟨g, 0, none⟩) n c) l) {j : Nat} (hj : j < l.length) : w.cell? ⟨g, j, none⟩ = some (.int .i64 (l.getD j 0)) := by
  rcases h.cases_ with ⟨h, _⟩ | ⟨g2, cur, h, hb, h1, h2, h3⟩
  · cases h
  · injection h with h _ _; injection h with h; injection h with h; subst h
    rw [hb.cell]; exact take_cell h3 hj
theorem blk_holds {w : World} {g : Nat} {cur : Array Value} {l : List Int} (hb : Blk w g 3 cur) (h3 : cur.toList.take l.length = l.map (Value.int .i64)) : Holds (Value.int .i64) w g 0 l.toArray := by
  intro j hj
  have hj' : j < l.length := by simpa using hj
  refine ⟨?_, hb.frozen _⟩
  rw [hb.cell, Nat.zero_add, take_cell h3 hj']
  simp [List.getD_eq_getElem?_getD, hj']
theorem putCells_size {α : Type} [Inhabited α] (enc : α → Value) (off : Nat) (d : Array α) (c : Array Value) : (putCells enc off d c).size = c.size := by simp [putCells]
theorem putCells_take (d : List Int) (c : Array Value) (h : d.length ≤ c.size) : (putCells (Value.int .i64) 0 d.toArray c).toList.take d.length = d.map (Value.int .i64) := by
  apply List.ext_getElem?
  intro i
  simp only [List.getElem?_take, List.getElem?_map, Array.getElem?_toList, putCells, Array.getElem?_mapIdx]
  by_cases hi : i < d.length
  · rw [if_pos hi, Array.getElem?_eq_getElem (by omega : i < c.size), Option.map_some, if_pos (by simpa using hi)]
    simp [hi]
  · rw [if_neg hi, List.getElem?_eq_none (by omega)]; rfl
theorem own_put {w : World} {g : Nat} {cur : Array Value} (hb : Blk w g 3 cur) (d : List Int) (n : Nat) (hn : n ≤ d.length) (hd : d.length ≤ cur.size) (hm : cur.size ≤ maxLen) (q : Nat) (os : Array Obj) :
    OwnI (grow (putRow (Value.int .i64) (Sort.ahead w q) g 0 d.toArray) os) (.slice (some ⟨g, 0, none⟩) n cur.size) (d.take n) ∧
      Only [g] w (grow (putRow (Value.int .i64) (Sort.ahead w q) g 0 d.toArray) os) := by
  refine ⟨?_, ?_⟩
  · have h := OwnI.mk_ (l := d.take n) (grow_blk (mapBlock_blk (ahead_blk hb q) (putCells (Value.int .i64) 0 d.toArray)) os) (by rw [putCells_size, List.length_take]; omega) (by rw [putCells_size]; exact hm) (by
      have := putCells_take d cur hd
      have h2 := congrArg (List.take n) this
      rw [List.take_take, Nat.min_eq_left hn] at h2
      rw [List.length_take, Nat.min_eq_left hn, h2, List.map_take])
    rw [putCells_size, List.length_take, Nat.min_eq_left hn] at h
    exact h
  · exact (ahead_only [g] w q).trans ((mapBlock_only (Sort.ahead w q) g _).trans (Only.grow (F := []) _ os) (by simp)) (by simp)

def sortI (l : List Int) : List Int := l.mergeSort fun x y => decide (x ≤ y)

theorem sort_own {w : World} {v : Value} {l : List Int} (h : OwnI w v l) (hl : l.length ≤ 1000000) :
    Calls Tryd.prog 42 #[v] w fun e w' => e = .returned (.tuple #[]) ∧ OwnI w' v (sortI l) ∧ Only v.ownBlock.toList w w' := by
  rcases h.cases_ with ⟨rfl, rfl⟩ | ⟨g, cur, rfl, hb, h1, h2, h3⟩
  · exact (Tryd.slices_Sort_int_none none 0 w).mono fun e w' ⟨he, hw⟩ => ⟨he, by subst hw; simpa [sortI] using OwnI.nil _, by subst hw; exact Only.refl _ _⟩
  · refine (Tryd.slices_Sort_int g 0 cur.size l w (blk_holds hb h3) hb.lt (by omega)).mono ?_
    rintro e w' ⟨he, q, os, hw⟩
    have hs : (sortI l).length = l.length := by simp [sortI]
    obtain ⟨k1, k2⟩ := own_put hb (sortI l) l.length (by omega) (by omega) h2 q os
    rw [List.take_of_length_le (by omega)] at k1
    subst hw
    exact ⟨he, k1, k2⟩



end Go.Proofs.YtbfgpghfofmanaaDoor
