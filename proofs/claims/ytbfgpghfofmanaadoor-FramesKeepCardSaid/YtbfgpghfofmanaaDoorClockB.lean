/-
  Package clock, on: Key, Put, Drop, Touch, Pin, Unpin, New.
-/
import Derived.Test.YtbfgpghfofmanaaDoorClock
namespace Go.Proofs.YtbfgpghfofmanaaDoor
open Go.RowKit

/-- The frame of a number, if there is one. -/
def getF (fs : List CF) (i : Int) : Option CF := if i < 0 then none else fs[i.toNat]?
theorem getF_some {fs : List CF} {i : Int} {f : CF} (h : getF fs i = some f) : ∃ n : Nat, i = n ∧ fs[n]? = some f ∧ n < fs.length := by
  unfold getF at h
  split at h
  · cases h
  · exact ⟨i.toNat, by omega, h, (List.getElem?_eq_some_iff.1 h).1⟩
theorem getF_none {fs : List CF} {i : Int} (h : getF fs i = none) : i < 0 ∨ (fs.length : Int) ≤ i := by
  unfold getF at h
  split at h
  · left; assumption
  · right; rw [List.getElem?_eq_none_iff] at h; omega

def keyR (fs : List CF) (i : Int) : Value := match getF fs i with
  | some f => if f.key = -1 then .tuple #[.int .i64 0, .bool false] else .tuple #[.int .i64 f.key, .bool true]
  | none => .tuple #[.int .i64 0, .bool false]

section
variable {w : World} {c fb : Nat} {fs : List CF} {hand : Int}

theorem clock_Key (h : ClockAt w c fb fs hand) (i : Int) :
    Calls Tryd.prog 10 #[.pointer (some ⟨c, 0, none⟩), .int .i64 i] w fun e w' => e = .returned (keyR fs i) ∧ w = w' := by
  unfold keyR
  cases hg : getF fs i with
  | none =>
    have H := Lib.hid (clock_at_no h i (getF_none hg))
    clear h hg
    go_enter Tryd.func10, Tryd.ntmps10
    go_wp2_with (go_at_call 35; refine H.out.mono ?_; rintro e w1 ⟨rfl, rfl⟩)
    go_ret2
    exact ⟨rfl, rfl⟩
  | some f =>
    obtain ⟨n, rfl, hf, hn⟩ := getF_some hg
    have H := Lib.hid (clock_at_ok h n hn)
    have c0 := h.key_ hf
    clear h hg hf hn
    obtain ⟨k0, m0, p0⟩ := f
    simp only at c0 ⊢
    by_cases hk : k0 = -1
    · subst hk
      rw [if_pos rfl]
      go_enter Tryd.func10, Tryd.ntmps10
      go_wp2_with (go_at_call 35; refine H.out.mono ?_; rintro e w1 ⟨rfl, rfl⟩)
      go_ret2
      exact ⟨rfl, rfl⟩
    · rw [if_neg hk]
      have hb : (k0 == -1) = false := by simpa using hk
      clear hk
      go_enter Tryd.func10, Tryd.ntmps10
      go_wp2_with (go_at_call 35; refine H.out.mono ?_; rintro e w1 ⟨rfl, rfl⟩)
      go_ret2
      exact ⟨rfl, rfl⟩

theorem clock_Find (h : ClockAt w c fb fs hand) (key : Int) :
    Calls Tryd.prog 47 #[.pointer (some ⟨c, 0, none⟩), .int .i64 key] w fun e w' => e = .returned (if key < 0 then .tuple #[.int .i64 0, .bool false] else findR fs key) ∧ Only [] w w' := by
  by_cases hk : key < 0
  · rw [if_pos hk]; exact (clock_Find_neg key hk w c).mono fun e w' ⟨he, hw⟩ => ⟨he, hw ▸ Only.refl _ _⟩
  · rw [if_neg hk]; exact clock_Find_ok h key (by omega)

/-- One frame turned. -/
theorem ClockAt.set1 (h : ClockAt w c fb fs hand) {i : Nat} {f g : CF} (hf : fs[i]? = some f) (o : Nat) (v : Value) (ho : o < 3) (hg : gcf g = (gcf f).set o v) : ClockAt (w.setCell ⟨fb, i * 3 + o, none⟩ v) c fb (fs.set i g) hand :=
  ⟨by simpa using h.hc.far (p := ⟨fb, i * 3 + o, none⟩) h.ne v, h.hf.rec_set1 gcf_len hf o v ho hg, by simpa using h.few⟩
theorem ClockAt.frozen (h : ClockAt w c fb fs hand) (i : Nat) : w.frozen? ⟨fb, i, none⟩ = false := h.hf.frozen i

/-- Does a frame take a key? -/
def putOK (fs : List CF) (i key : Int) : Option CF := match getF fs i with
  | none => none
  | some f => if key < 0 then none else match findK fs key with
    | some j => if (j : Int) = i then (if 0 < f.pins then none else some f) else none
    | none => if 0 < f.pins then none else some f

def putFs (fs : List CF) (i key : Int) : List CF := fs.set i.toNat { (fs.getD i.toNat ⟨0, false, 0⟩) with key := key, mark := true }

set_option maxRecDepth 100000 in
theorem clock_Put_no (h : ClockAt w c fb fs hand) (i key : Int) (hp : putOK fs i key = none) :
    Calls Tryd.prog 52 #[.pointer (some ⟨c, 0, none⟩), .int .i64 i, .int .i64 key] w fun e w' => e = .returned (.bool false) ∧ Only [] w w' := by
  unfold putOK at hp
  have H2 := Lib.hid (clock_Find h key)
  cases hg : getF fs i with
  | none =>
    have H := Lib.hid (clock_at_no h i (getF_none hg))
    clear h hg hp
    by_cases hk : key < 0
    · rw [if_pos hk] at H2
      go_enter Tryd.func52, Tryd.ntmps52
      go_wp2_with (first | (go_at_call 35; refine H.out.mono ?_; rintro e w1 ⟨rfl, rfl⟩) | (go_at_call 47; refine H2.out.mono ?_; rintro e w2 ⟨rfl, ho⟩))
      go_ret
      exact ⟨rfl, ho⟩
    · rw [if_neg hk] at H2
      unfold findR at H2
      cases hfk : findK fs key with
      | none =>
        rw [hfk] at H2
        clear hfk
        go_enter Tryd.func52, Tryd.ntmps52
        go_wp2_with (first | (go_at_call 35; refine H.out.mono ?_; rintro e w1 ⟨rfl, rfl⟩) | (go_at_call 47; refine H2.out.mono ?_; rintro e w2 ⟨rfl, ho⟩))
        go_ret
        exact ⟨rfl, ho⟩
      | some j =>
        rw [hfk] at H2
        clear hfk
        go_enter Tryd.func52, Tryd.ntmps52
        go_wp2_with (first | (go_at_call 35; refine H.out.mono ?_; rintro e w1 ⟨rfl, rfl⟩) | (go_at_call 47; refine H2.out.mono ?_; rintro e w2 ⟨rfl, ho⟩))
        go_ret
        exact ⟨rfl, ho⟩
  | some f =>
    rw [hg] at hp
    simp only at hp
    obtain ⟨n, rfl, hf, hn⟩ := getF_some hg
    have H := Lib.hid (clock_at_ok h n hn)
    by_cases hk : key < 0
    · rw [if_pos hk] at H2
      clear h hg hp hf hn
      go_enter Tryd.func52, Tryd.ntmps52
      go_wp2_with (first | (go_at_call 35; refine H.out.mono ?_; rintro e w1 ⟨rfl, rfl⟩) | (go_at_call 47; refine H2.out.mono ?_; rintro e w2 ⟨rfl, ho⟩))
      go_ret
      exact ⟨rfl, ho⟩
    · rw [if_neg hk] at H2 hp
      have HC := Lib.hid h
      have HF := Lib.hid hf
      unfold findR at H2
      cases hfk : findK fs key with
      | none =>
        rw [hfk] at H2 hp
        have hpin : 0 < f.pins := by
          simp only at hp
          split at hp
          · assumption
          · cases hp
        clear hfk h hg hp hf hn
        obtain ⟨k0, m0, p0⟩ := f
        simp only at hpin
        go_enter Tryd.func52, Tryd.ntmps52
        go_wp2_with (first | (go_at_call 35; refine H.out.mono ?_; rintro e w1 ⟨rfl, rfl⟩) | (go_at_call 47; refine H2.out.mono ?_; rintro e w2 ⟨rfl, ho⟩; have c2 := (HC.out.only ho (by simp) (by simp)).pins_ HF.out))
        go_ret
        exact ⟨rfl, ho⟩
      | some j =>
        rw [hfk] at H2 hp
        simp only at hp
        by_cases hj : (j : Int) = n
        · rw [if_pos hj] at hp
          obtain rfl : j = n := by omega
          have hpin : 0 < f.pins := by
            split at hp
            · assumption
            · cases hp
          clear hfk h hg hp hf hn hj
          obtain ⟨k0, m0, p0⟩ := f
          simp only at hpin
          go_enter Tryd.func52, Tryd.ntmps52
          go_wp2_with (first | (go_at_call 35; refine H.out.mono ?_; rintro e w1 ⟨rfl, rfl⟩) | (go_at_call 47; refine H2.out.mono ?_; rintro e w2 ⟨rfl, ho⟩; have c2 := (HC.out.only ho (by simp) (by simp)).pins_ HF.out))
          go_ret
          exact ⟨rfl, ho⟩
        · have hjb : ((j : Int) != (n : Int)) = true := by simpa using hj
          clear hfk h hg hp hf hn hj
          go_enter Tryd.func52, Tryd.ntmps52
          go_wp2_with (first | (go_at_call 35; refine H.out.mono ?_; rintro e w1 ⟨rfl, rfl⟩) | (go_at_call 47; refine H2.out.mono ?_; rintro e w2 ⟨rfl, ho⟩))
          go_ret
          exact ⟨rfl, ho⟩
end
end Go.Proofs.YtbfgpghfofmanaaDoor
