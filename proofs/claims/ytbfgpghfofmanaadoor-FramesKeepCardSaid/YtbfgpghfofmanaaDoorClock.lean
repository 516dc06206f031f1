/-
  Package clock: which key is in which frame: what its functions come to, in memory.
-/
import Derived.Test.YtbfgpghfofmanaaDoorRec
import Derived.Test.YtbfgpghfofmanaaDoorProg
import Derived.Lib.Hide
import Derived.Deep.QuietTactic
import Derived.BigQuiet
namespace Go.Proofs.YtbfgpghfofmanaaDoor
open Go.RowKit

/-- A frame of the clock. -/
structure CF where
  key : Int
  mark : Bool
  pins : Int
def gcf (f : CF) : List Value := [.int .i64 f.key, .bool f.mark, .int .i64 f.pins]
theorem gcf_len (f : CF) : (gcf f).length = 3 := rfl

/-- A clock at block c, its frames at block fb. -/
structure ClockAt (w : World) (c fb : Nat) (fs : List CF) (hand : Int) : Prop where
  hc : Blk w c 97 #[.slice (some ⟨fb, 0, none⟩) fs.length fs.length, .int .i64 hand]
  hf : Blk w fb 76 (flat gcf fs).toArray
  few : fs.length ≤ 16

section
variable {w : World} {c fb : Nat} {fs : List CF} {hand : Int}
theorem ClockAt.cell0 (h : ClockAt w c fb fs hand) : w.cell? ⟨c, 0, none⟩ = some (.slice (some ⟨fb, 0, none⟩) fs.length fs.length) := h.hc.cell 0
theorem ClockAt.key_ (h : ClockAt w c fb fs hand) {i : Nat} {f : CF} (hf : fs[i]? = some f) : w.cell? ⟨fb, i * 3, none⟩ = some (.int .i64 f.key) := h.hf.rec_cell gcf_len hf 0 (by omega)
theorem ClockAt.mark_ (h : ClockAt w c fb fs hand) {i : Nat} {f : CF} (hf : fs[i]? = some f) : w.cell? ⟨fb, i * 3 + 1, none⟩ = some (.bool f.mark) := h.hf.rec_cell gcf_len hf 1 (by omega)
theorem ClockAt.pins_ (h : ClockAt w c fb fs hand) {i : Nat} {f : CF} (hf : fs[i]? = some f) : w.cell? ⟨fb, i * 3 + 2, none⟩ = some (.int .i64 f.pins) := h.hf.rec_cell gcf_len hf 2 (by omega)
theorem ClockAt.only {F : List Nat} {w2 : World} (h : ClockAt w c fb fs hand) (ho : Only F w w2) (h1 : c ∉ F) (h2 : fb ∉ F) : ClockAt w2 c fb fs hand := ⟨h.hc.only ho h1, h.hf.only ho h2, h.few⟩
theorem ClockAt.ne (h : ClockAt w c fb fs hand) : c ≠ fb := h.hc.ne_ h.hf (by decide)

theorem clock_at_nil (i : Int) (w : World) :
    Calls Tryd.prog 35 #[.pointer none, .int .i64 i] w fun e w' => e = .returned (.pointer none) ∧ w = w' := by
  go_enter Tryd.func35, Tryd.ntmps35
  go_wp2
  go_ret
  exact ⟨rfl, rfl⟩

theorem clock_at_no (h : ClockAt w c fb fs hand) (i : Int) (hi : i < 0 ∨ (fs.length : Int) ≤ i) :
    Calls Tryd.prog 35 #[.pointer (some ⟨c, 0, none⟩), .int .i64 i] w fun e w' => e = .returned (.pointer none) ∧ w = w' := by
  have hc := h.cell0
  generalize fs.length = n at *
  clear h
  by_cases h0 : i < 0
  · clear hi
    go_enter Tryd.func35, Tryd.ntmps35
    go_wp2
    go_ret
    exact ⟨rfl, rfl⟩
  · have h1 : (n : Int) ≤ i := by omega
    clear hi
    go_enter Tryd.func35, Tryd.ntmps35
    go_wp2
    go_ret
    exact ⟨rfl, rfl⟩

theorem clock_at_ok (h : ClockAt w c fb fs hand) (i : Nat) (hi : i < fs.length) :
    Calls Tryd.prog 35 #[.pointer (some ⟨c, 0, none⟩), .int .i64 i] w fun e w' => e = .returned (.pointer (some ⟨fb, i * 3, none⟩)) ∧ w = w' := by
  have hc := h.cell0
  have hi0 : (0 : Int) ≤ i := by omega
  have hi1 : (i : Int) < fs.length := by omega
  generalize fs.length = n at *
  clear h
  go_enter Tryd.func35, Tryd.ntmps35
  go_wp2
  go_ret
  exact ⟨rfl, rfl⟩

/-- Where a key is. -/
def findK (fs : List CF) (key : Int) : Option Nat := fs.findIdx? fun f => f.key == key
theorem findK_some {fs : List CF} {key : Int} {i : Nat} (h : findK fs key = some i) : ∃ f, fs[i]? = some f ∧ f.key = key ∧ i < fs.length := by
  unfold findK at h
  obtain ⟨hi, h1, _⟩ := List.findIdx?_eq_some_iff_getElem.1 h
  exact ⟨fs[i], List.getElem?_eq_getElem hi, by simpa using h1, hi⟩
theorem findK_none {fs : List CF} {key : Int} (h : findK fs key = none) : ∀ (i : Nat) (f : CF), fs[i]? = some f → f.key ≠ key := by
  unfold findK at h
  rw [List.findIdx?_eq_none_iff] at h
  intro i f hf e
  have := h f (List.mem_of_getElem? hf)
  simp [e] at this

theorem clock_Find_neg (key : Int) (hk : key < 0) (w : World) (c : Nat) :
    Calls Tryd.prog 47 #[.pointer (some ⟨c, 0, none⟩), .int .i64 key] w fun e w' => e = .returned (.tuple #[.int .i64 0, .bool false]) ∧ w = w' := by
  go_enter Tryd.func47, Tryd.ntmps47
  go_wp2
  go_ret2
  exact ⟨rfl, rfl⟩

/-- What Find answers. -/
def findR (fs : List CF) (key : Int) : Value := match findK fs key with | some i => .tuple #[.int .i64 i, .bool true] | none => .tuple #[.int .i64 0, .bool false]

set_option maxRecDepth 100000 in
theorem clock_Find_ok (h : ClockAt w c fb fs hand) (key : Int) (hk : 0 ≤ key) :
    Calls Tryd.prog 47 #[.pointer (some ⟨c, 0, none⟩), .int .i64 key] w fun e w' => e = .returned (findR fs key) ∧ Only [] w w' := by
  have hc := h.cell0
  have H := Lib.hid h
  have hfew := h.few
  clear h
  obtain ⟨n, hn⟩ : ∃ n, Hid (fs.length = n) := ⟨_, Lib.hid rfl⟩
  rw [hn.out] at hc hfew
  go_enter Tryd.func47, Tryd.ntmps47
  go_wp2_with fail
  go_loopw [19] (fun i wr => ∃ j : Nat, j ≤ n ∧ i = .int .i64 j ∧ (∀ m, m < j → ∀ f, fs[m]? = some f → f.key ≠ key) ∧ Only [] w wr) (fun i _ => n - (intOf i).toNat)
  case atStart => exact ⟨0, by omega, rfl, by intro m hm; omega, Only.refl _ _⟩
  case round =>
    obtain ⟨j, hj, rfl, hno, ho⟩ := hrel
    have HN := Lib.hid hno
    have HO := Lib.hid ho
    have H2 := Lib.hid (H.out.only ho (by simp) (by simp))
    clear hno ho
    by_cases hlt : j < n
    · obtain ⟨f, hf⟩ : ∃ f, fs[j]? = some f := ⟨_, List.getElem?_eq_getElem (by have := hn.out; omega)⟩
      have c0 := H2.out.key_ hf
      have c1 := H2.out.mark_ hf
      have c2 := H2.out.pins_ hf
      have HF := Lib.hid hf
      have hj0 : (0 : Int) ≤ j := by omega
      have hj1 : (j : Int) < n := by omega
      clear hf
      obtain ⟨k0, m0, p0⟩ := f
      simp only at c0 c1 c2
      cases he : (k0 == key) with
      | true =>
        go_wp2_with fail
        go_ret2
        refine ⟨?_, HO.out.alloc _⟩
        have hfd : findK fs key = some j := by
          unfold findK
          rw [List.findIdx?_eq_some_iff_getElem]
          refine ⟨by have := hn.out; omega, ?_, fun m hm => ?_⟩
          · have := (List.getElem?_eq_some_iff.1 HF.out).2
            rw [this]; exact he
          · have := HN.out m hm _ (List.getElem?_eq_getElem (by have := hn.out; omega))
            simpa using this
        unfold findR
        rw [hfd]
        rfl
      | false =>
        go_wp2_with fail
        go_roundw
        case rel =>
          refine ⟨j + 1, by omega, by go_num, fun m hm f2 hf2 => ?_, HO.out.alloc _⟩
          by_cases hmj : m = j
          · subst hmj
            rw [HF.out] at hf2
            injection hf2 with hf2
            subst hf2
            simpa using he
          · exact HN.out m (by omega) f2 hf2
        case measure => simp [intOf]; omega
    · obtain rfl : j = n := by omega
      go_wp2_with fail
      go_ret2
      refine ⟨?_, HO.out⟩
      have hfd : findK fs key = none := by
        unfold findK
        rw [List.findIdx?_eq_none_iff]
        intro x hx
        obtain ⟨m, hm, rfl⟩ := List.getElem_of_mem hx
        have := HN.out m (by have := hn.out; omega) _ (List.getElem?_eq_getElem hm)
        simpa using this
      unfold findR
      rw [hfd]
      rfl
end
end Go.Proofs.YtbfgpghfofmanaaDoor
