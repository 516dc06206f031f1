/-
  Package clock, on: Put, Drop, Touch, Pin, Unpin where they turn a frame; New.
-/
import Derived.Test.YtbfgpghfofmanaaDoorClockB
import Derived.Test.YtbfgpghfofmanaaDoorMake
namespace Go.Proofs.YtbfgpghfofmanaaDoor
open Go.RowKit

section
variable {w : World} {c fb : Nat} {fs : List CF} {hand : Int}

theorem getF_get {fs : List CF} {n : Nat} {f : CF} (h : fs[n]? = some f) : getF fs (n : Int) = some f := by
  unfold getF; rw [if_neg (by omega), Int.toNat_natCast, h]
theorem putOK_spec {fs : List CF} {i key : Int} {f : CF} (h : putOK fs i key = some f) : getF fs i = some f ∧ 0 ≤ key ∧ f.pins ≤ 0 ∧ (∀ j, findK fs key = some j → (j : Int) = i) := by
  unfold putOK at h
  cases hg : getF fs i with
  | none => rw [hg] at h; cases h
  | some f2 =>
    rw [hg] at h
    simp only at h
    split at h
    · cases h
    · cases hf : findK fs key with
      | none =>
        rw [hf] at h
        simp only at h
        split at h
        · cases h
        · injection h with h; subst h; exact ⟨rfl, by omega, by omega, fun j hj => by cases hj⟩
      | some j =>
        rw [hf] at h
        simp only at h
        split at h
        · split at h
          · cases h
          · injection h with h; subst h; exact ⟨rfl, by omega, by omega, fun j2 hj => by injection hj with hj; subst hj; assumption⟩
        · cases h

set_option maxRecDepth 100000 in
theorem clock_Put_ok (h : ClockAt w c fb fs hand) (i key : Int) (f : CF) (hp : putOK fs i key = some f) :
    Calls Tryd.prog 52 #[.pointer (some ⟨c, 0, none⟩), .int .i64 i, .int .i64 key] w fun e w' => e = .returned (.bool true) ∧ ClockAt w' c fb (fs.set i.toNat ⟨key, true, f.pins⟩) hand ∧ Only [fb] w w' := by
  obtain ⟨hg, hk, hpin, hfk⟩ := putOK_spec hp
  clear hp
  obtain ⟨n, rfl, hf, hn⟩ := getF_some hg
  rw [Int.toNat_natCast]
  have H := Lib.hid (clock_at_ok h n hn)
  have H2 := Lib.hid (clock_Find h key)
  rw [if_neg (by omega)] at H2
  unfold findR at H2
  have HC := Lib.hid h
  have HF := Lib.hid hf
  have hk' : ¬ key < 0 := by omega
  have hfin : ∀ w2, Only [] w w2 → ClockAt ((w2.setCell ⟨fb, n * 3, none⟩ (.int .i64 key)).setCell ⟨fb, n * 3 + 1, none⟩ (.bool true)) c fb (fs.set n ⟨key, true, f.pins⟩) hand ∧ Only [fb] w ((w2.setCell ⟨fb, n * 3, none⟩ (.int .i64 key)).setCell ⟨fb, n * 3 + 1, none⟩ (.bool true)) := by
    intro w2 ho
    have h2 := HC.out.only ho (by simp) (by simp)
    have h3 := h2.set1 (g := ⟨key, f.mark, f.pins⟩) HF.out 0 (.int .i64 key) (by omega) rfl
    have h4 := h3.set1 (i := n) (f := ⟨key, f.mark, f.pins⟩) (g := ⟨key, true, f.pins⟩) (by simp [hn]) 1 (.bool true) (by omega) rfl
    rw [List.set_set] at h4
    exact ⟨h4, ((ho.mono (by simp)).setCell (.inl (by simp)) _).setCell (.inl (by simp)) _⟩
  have HFin := Lib.hid hfin
  clear hfin
  cases hfd : findK fs key with
  | none =>
    rw [hfd] at H2
    clear hfd h hg hf hn hfk
    obtain ⟨k0, m0, p0⟩ := f
    simp only at hpin
    have hp0 : ¬ 0 < p0 := by omega
    clear hpin
    go_enter Tryd.func52, Tryd.ntmps52
    go_wp2_with (first | (go_at_call 35; refine H.out.mono ?_; rintro e w1 ⟨rfl, rfl⟩) | (go_at_call 47; refine H2.out.mono ?_; rintro e w2 ⟨rfl, ho⟩; have c0 := (HC.out.only ho (by simp) (by simp)).key_ HF.out; have c1 := (HC.out.only ho (by simp) (by simp)).mark_ HF.out; have c2 := (HC.out.only ho (by simp) (by simp)).pins_ HF.out; have f0 := (HC.out.only ho (by simp) (by simp)).frozen (n * 3); have f1 := (HC.out.only ho (by simp) (by simp)).frozen (n * 3 + 1)))
    go_ret
    exact ⟨rfl, HFin.out _ ho⟩
  | some j =>
    obtain rfl : j = n := by have := hfk j hfd; omega
    rw [hfd] at H2
    clear hfd h hg hf hn hfk
    obtain ⟨k0, m0, p0⟩ := f
    simp only at hpin
    have hp0 : ¬ 0 < p0 := by omega
    clear hpin
    go_enter Tryd.func52, Tryd.ntmps52
    go_wp2_with (first | (go_at_call 35; refine H.out.mono ?_; rintro e w1 ⟨rfl, rfl⟩) | (go_at_call 47; refine H2.out.mono ?_; rintro e w2 ⟨rfl, ho⟩; have c0 := (HC.out.only ho (by simp) (by simp)).key_ HF.out; have c1 := (HC.out.only ho (by simp) (by simp)).mark_ HF.out; have c2 := (HC.out.only ho (by simp) (by simp)).pins_ HF.out; have f0 := (HC.out.only ho (by simp) (by simp)).frozen (j * 3); have f1 := (HC.out.only ho (by simp) (by simp)).frozen (j * 3 + 1)))
    go_ret
    exact ⟨rfl, HFin.out _ ho⟩

/-- What Drop does. -/
def dropOK (fs : List CF) (i : Int) : Option CF := match getF fs i with | none => none | some f => if 0 < f.pins then none else some f

set_option maxRecDepth 100000 in
theorem clock_Drop (h : ClockAt w c fb fs hand) (i : Int) :
    Calls Tryd.prog 48 #[.pointer (some ⟨c, 0, none⟩), .int .i64 i] w fun e w' => match dropOK fs i with
      | none => e = .returned (.bool false) ∧ w = w'
      | some f => e = .returned (.bool true) ∧ ClockAt w' c fb (fs.set i.toNat ⟨-1, false, f.pins⟩) hand ∧ Only [fb] w w' := by
  unfold dropOK
  cases hg : getF fs i with
  | none =>
    have H := Lib.hid (clock_at_no h i (getF_none hg))
    clear h hg
    go_enter Tryd.func48, Tryd.ntmps48
    go_wp2_with (go_at_call 35; refine H.out.mono ?_; rintro e w1 ⟨rfl, rfl⟩)
    go_ret
    exact ⟨rfl, rfl⟩
  | some f =>
    obtain ⟨n, rfl, hf, hn⟩ := getF_some hg
    simp only [Int.toNat_natCast]
    have H := Lib.hid (clock_at_ok h n hn)
    by_cases hp : 0 < f.pins
    · rw [if_pos hp]
      have c2 := h.pins_ hf
      clear h hg hf hn
      obtain ⟨k0, m0, p0⟩ := f
      simp only at hp c2 ⊢
      go_enter Tryd.func48, Tryd.ntmps48
      go_wp2_with (go_at_call 35; refine H.out.mono ?_; rintro e w1 ⟨rfl, rfl⟩)
      go_ret
      exact ⟨rfl, rfl⟩
    · rw [if_neg hp]
      have c0 := h.key_ hf
      have c1 := h.mark_ hf
      have c2 := h.pins_ hf
      have f0 := h.frozen (n * 3)
      have f1 := h.frozen (n * 3 + 1)
      have h3 := h.set1 (g := ⟨-1, f.mark, f.pins⟩) hf 0 (.int .i64 (-1)) (by omega) rfl
      have h4 := h3.set1 (i := n) (f := ⟨-1, f.mark, f.pins⟩) (g := ⟨-1, false, f.pins⟩) (by simp [hn]) 1 (.bool false) (by omega) rfl
      rw [List.set_set] at h4
      have H4 := Lib.hid h4
      clear h hg hf hn h3 h4
      obtain ⟨k0, m0, p0⟩ := f
      simp only at hp c0 c1 c2 ⊢
      go_enter Tryd.func48, Tryd.ntmps48
      go_wp2_with (go_at_call 35; refine H.out.mono ?_; rintro e w1 ⟨rfl, rfl⟩)
      go_ret
      exact ⟨rfl, H4.out, ((Only.refl _ _).setCell (.inl (by simp)) _).setCell (.inl (by simp)) _⟩

set_option maxRecDepth 100000 in
theorem clock_Touch_ok (h : ClockAt w c fb fs hand) (n : Nat) (f : CF) (hf : fs[n]? = some f) (hk : f.key ≠ -1) :
    Calls Tryd.prog 40 #[.pointer (some ⟨c, 0, none⟩), .int .i64 n] w fun e w' => e = .returned (.tuple #[]) ∧ ClockAt w' c fb (fs.set n ⟨f.key, true, f.pins⟩) hand ∧ Only [fb] w w' := by
  have hn : n < fs.length := (List.getElem?_eq_some_iff.1 hf).1
  have H := Lib.hid (clock_at_ok h n hn)
  have c0 := h.key_ hf
  have c1 := h.mark_ hf
  have f1 := h.frozen (n * 3 + 1)
  have H4 := Lib.hid (h.set1 (g := ⟨f.key, true, f.pins⟩) hf 1 (.bool true) (by omega) rfl)
  clear h hf hn
  obtain ⟨k0, m0, p0⟩ := f
  have hkb : (k0 != -1) = true := by simpa using hk
  simp only at c0 c1 hk ⊢
  clear hk
  go_enter Tryd.func40, Tryd.ntmps40
  go_wp2_with (go_at_call 35; refine H.out.mono ?_; rintro e w1 ⟨rfl, rfl⟩)
  go_end0
  exact ⟨rfl, H4.out, (Only.refl _ _).setCell (.inl (by simp)) _⟩

def pinOK (fs : List CF) (i : Int) : Option CF := match getF fs i with | none => none | some f => if f.key = -1 then none else some f
def unpinOK (fs : List CF) (i : Int) : Option CF := match getF fs i with | none => none | some f => if f.pins = 0 then none else some f

set_option maxRecDepth 100000 in
theorem clock_Pin (h : ClockAt w c fb fs hand) (i : Int) (hb : ∀ f ∈ fs, 0 ≤ f.pins ∧ f.pins ≤ 1000000) :
    Calls Tryd.prog 25 #[.pointer (some ⟨c, 0, none⟩), .int .i64 i] w fun e w' => match pinOK fs i with
      | none => e = .returned (.bool false) ∧ w = w'
      | some f => e = .returned (.bool true) ∧ ClockAt w' c fb (fs.set i.toNat ⟨f.key, f.mark, f.pins + 1⟩) hand ∧ Only [fb] w w' := by
  unfold pinOK
  cases hg : getF fs i with
  | none =>
    have H := Lib.hid (clock_at_no h i (getF_none hg))
    clear h hg hb
    go_enter Tryd.func25, Tryd.ntmps25
    go_wp2_with (go_at_call 35; refine H.out.mono ?_; rintro e w1 ⟨rfl, rfl⟩)
    go_ret
    exact ⟨rfl, rfl⟩
  | some f =>
    obtain ⟨n, rfl, hf, hn⟩ := getF_some hg
    simp only [Int.toNat_natCast]
    have H := Lib.hid (clock_at_ok h n hn)
    have c0 := h.key_ hf
    have c2 := h.pins_ hf
    have f2 := h.frozen (n * 3 + 2)
    have H4 := Lib.hid (h.set1 (g := ⟨f.key, f.mark, f.pins + 1⟩) hf 2 (.int .i64 (f.pins + 1)) (by omega) rfl)
    obtain ⟨b0, b1⟩ := hb f (List.mem_of_getElem? hf)
    clear h hg hf hn hb
    obtain ⟨k0, m0, p0⟩ := f
    simp only at c0 c2 b0 b1 ⊢
    by_cases hk : k0 = -1
    · subst hk
      rw [if_pos rfl]
      go_enter Tryd.func25, Tryd.ntmps25
      go_wp2_with (go_at_call 35; refine H.out.mono ?_; rintro e w1 ⟨rfl, rfl⟩)
      go_ret
      exact ⟨rfl, rfl⟩
    · rw [if_neg hk]
      have hkb : (k0 == -1) = false := by simpa using hk
      clear hk
      go_enter Tryd.func25, Tryd.ntmps25
      go_wp2_with (go_at_call 35; refine H.out.mono ?_; rintro e w1 ⟨rfl, rfl⟩)
      go_ret
      exact ⟨rfl, H4.out, (Only.refl _ _).setCell (.inl (by simp)) _⟩

set_option maxRecDepth 100000 in
theorem clock_Unpin (h : ClockAt w c fb fs hand) (i : Int) (hb : ∀ f ∈ fs, 0 ≤ f.pins ∧ f.pins ≤ 1000000) :
    Calls Tryd.prog 27 #[.pointer (some ⟨c, 0, none⟩), .int .i64 i] w fun e w' => match unpinOK fs i with
      | none => e = .returned (.bool false) ∧ w = w'
      | some f => e = .returned (.bool true) ∧ ClockAt w' c fb (fs.set i.toNat ⟨f.key, f.mark, f.pins - 1⟩) hand ∧ Only [fb] w w' := by
  unfold unpinOK
  cases hg : getF fs i with
  | none =>
    have H := Lib.hid (clock_at_no h i (getF_none hg))
    clear h hg hb
    go_enter Tryd.func27, Tryd.ntmps27
    go_wp2_with (go_at_call 35; refine H.out.mono ?_; rintro e w1 ⟨rfl, rfl⟩)
    go_ret
    exact ⟨rfl, rfl⟩
  | some f =>
    obtain ⟨n, rfl, hf, hn⟩ := getF_some hg
    simp only [Int.toNat_natCast]
    have H := Lib.hid (clock_at_ok h n hn)
    have c2 := h.pins_ hf
    have f2 := h.frozen (n * 3 + 2)
    have H4 := Lib.hid (h.set1 (g := ⟨f.key, f.mark, f.pins - 1⟩) hf 2 (.int .i64 (f.pins - 1)) (by omega) rfl)
    obtain ⟨b0, b1⟩ := hb f (List.mem_of_getElem? hf)
    clear h hg hf hn hb
    obtain ⟨k0, m0, p0⟩ := f
    simp only at c2 b0 b1 ⊢
    by_cases hk : p0 = 0
    · subst hk
      rw [if_pos rfl]
      go_enter Tryd.func27, Tryd.ntmps27
      go_wp2_with (go_at_call 35; refine H.out.mono ?_; rintro e w1 ⟨rfl, rfl⟩)
      go_ret
      exact ⟨rfl, rfl⟩
    · rw [if_neg hk]
      have hkb : (p0 == 0) = false := by simpa using hk
      clear hk
      go_enter Tryd.func27, Tryd.ntmps27
      go_wp2_with (go_at_call 35; refine H.out.mono ?_; rintro e w1 ⟨rfl, rfl⟩)
      go_ret
      exact ⟨rfl, H4.out, (Only.refl _ _).setCell (.inl (by simp)) _⟩

/-! ### New -/
theorem cf_info : (Tryd.prog.info? 76).map (fun i => (i.zero, i.size, i.bytes)) = some (some (.agg #[.int .i64 0, .bool false, .int .i64 0]), 3, 24) := by kernel_rfl

set_option maxRecDepth 100000 in
theorem clock_New_ok (n : Nat) (w : World) (h1 : 1 ≤ n) (h2 : n ≤ 16) :
    Calls Tryd.prog 34 #[.int .i64 n] w fun e w' => ∃ c fb, e = .returned (.tuple #[.pointer (some ⟨c, 0, none⟩), .int .i64 0]) ∧ ClockAt w' c fb (List.replicate n ⟨-1, false, 0⟩) 0 ∧ Only [] w w' ∧ w.heap.size ≤ c ∧ w.heap.size ≤ fb := by
  have hmk := fun w => run_make_flat (P := Tryd.prog) gcf ⟨0, false, 0⟩ 3 24 rfl (by omega) 95 76 _ rfl Tryd.underlying95 cf_info (by omega) n (by omega) w
  have hn1 : ¬ (n : Int) < 1 := by omega
  have hn2 : ¬ (16 : Int) < n := by omega
  go_enter Tryd.func34, Tryd.ntmps34
  go_wp2_with fail
  have HB : Hid (ClockAt ((w.alloc (.cells (flat gcf (List.replicate n ⟨0, false, 0⟩)).toArray 76)).alloc (.cells #[.slice (some ⟨w.heap.size, 0, none⟩) n n, .int .i64 0] 97)) (w.heap.size + 1) w.heap.size (List.replicate n ⟨0, false, 0⟩) 0) :=
    ⟨by have h := Blk.new (w.alloc (.cells (flat gcf (List.replicate n ⟨0, false, 0⟩)).toArray 76)) 97 #[.slice (some ⟨w.heap.size, 0, none⟩) n n, .int .i64 0]
        simpa using h, (Blk.new w _ _).alloc _, by simpa using h2⟩
  go_loopw [21] (fun i wr => ∃ j : Nat, j ≤ n ∧ i = .int .i64 j ∧ ClockAt wr (w.heap.size + 1) w.heap.size (List.replicate j ⟨-1, false, 0⟩ ++ List.replicate (n - j) ⟨0, false, 0⟩) 0 ∧ Only [] w wr) (fun i _ => n - (intOf i).toNat)
  case atStart => exact ⟨0, by omega, rfl, by simpa using HB.out, ((Only.refl _ _).alloc _).alloc _⟩
  case round =>
    clear HB hmk
    obtain ⟨j, hj, rfl, hC, ho⟩ := hrel
    have HC := Lib.hid hC
    have HO := Lib.hid ho
    have hc := hC.cell0
    simp only [List.length_append, List.length_replicate] at hc
    rw [show j + (n - j) = n by omega] at hc
    by_cases hlt : j < n
    · have hget : (List.replicate j (⟨-1, false, 0⟩ : CF) ++ List.replicate (n - j) ⟨0, false, 0⟩)[j]? = some ⟨0, false, 0⟩ := by
        rw [List.getElem?_append_right (by simp), List.length_replicate, Nat.sub_self, List.getElem?_replicate, if_pos (by omega)]
      have c0 := hC.key_ hget
      have f0 := hC.frozen (j * 3)
      have H4 := Lib.hid (hC.set1 (g := ⟨-1, false, 0⟩) hget 0 (.int .i64 (-1)) (by omega) rfl)
      have hj0 : (0 : Int) ≤ j := by omega
      have hj1 : (j : Int) < n := by omega
      simp only at c0
      clear hC ho hget
      go_wp2_with fail
      go_roundw
      case rel =>
        refine ⟨j + 1, by omega, by go_num, ?_, HO.out.setCell (.inr (by simp)) _⟩
        have h := H4.out
        rw [List.set_append_right _ _ (by simp)] at h
        simp only [List.length_replicate, Nat.sub_self] at h
        rw [show n - j = (n - (j + 1)) + 1 by omega, List.replicate_succ, List.set_cons_zero] at h
        rw [List.replicate_succ' , List.append_assoc]
        exact h
      case measure => simp [intOf]; omega
    · obtain rfl : j = n := by omega
      clear hC ho
      go_wp2_with fail
      go_ret2
      refine ⟨_, _, rfl, by simpa using HC.out, HO.out, by omega, Nat.le_refl _⟩
end
end Go.Proofs.YtbfgpghfofmanaaDoor
