/-
  Package frames: what frames hold, in memory: the readers.
-/
import Derived.Test.YtbfgpghfofmanaaDoorClockC
import Derived.Test.YtbfgpghfofmanaaDoorPage
import Derived.Test.YtbfgpghfofmanaaDoorReg
import Derived.Deep.QuietTactic
import Derived.BigQuiet
namespace Go.Proofs.YtbfgpghfofmanaaDoor
open Go.RowKit

/-- A page as it is held: as it was flushed, and as it is. -/
structure PG where
  base : List Int
  now : List Int
  hb : base.length = 32
  hn : now.length = 32
def gpg (p : PG) : List Value := by8 p.base ++ by8 p.now
theorem gpg_len (p : PG) : (gpg p).length = 64 := by simp [gpg, by8, p.hb, p.hn]
def gi8 (l : List Int) : List Value := l.map (Value.int .i64)
/-- A mapping page's heads. -/
structure HD where
  l : List Int
  h : l.length = 8
def ghd (x : HD) : List Value := gi8 x.l
theorem ghd_len (x : HD) : (ghd x).length = 8 := by simp [ghd, gi8, x.h]

/-- Frames at block f: the clock at c (its frames at fb), the pages at pb, the heads at hb. -/
structure FramesAt (w : World) (f c fb pb hb : Nat) (fs : List CF) (hand : Int) (ps : List PG) (hs : List HD) : Prop where
  hf : Blk w f 72 #[.pointer (some ⟨c, 0, none⟩), .slice (some ⟨pb, 0, none⟩) fs.length fs.length, .slice (some ⟨hb, 0, none⟩) fs.length fs.length]
  hc : ClockAt w c fb fs hand
  hp : Blk w pb 79 (flat gpg ps).toArray
  hh : Blk w hb 52 (flat ghd hs).toArray
  np : ps.length = fs.length
  nh : hs.length = fs.length

def ffp (f c fb pb hb : Nat) : List Nat := [f, c, fb, pb, hb]

section
variable {w : World} {f c fb pb hb : Nat} {fs : List CF} {hand : Int} {ps : List PG} {hs : List HD}
theorem FramesAt.only {F : List Nat} {w2 : World} (h : FramesAt w f c fb pb hb fs hand ps hs) (ho : Only F w w2) (hF : ∀ b ∈ F, b ∉ ffp f c fb pb hb) : FramesAt w2 f c fb pb hb fs hand ps hs := by
  have hn : ∀ x, x ∈ ffp f c fb pb hb → x ∉ F := fun x hx hm => hF x hm hx
  exact ⟨h.hf.only ho (hn _ (by simp [ffp])), h.hc.only ho (hn _ (by simp [ffp])) (hn _ (by simp [ffp])), h.hp.only ho (hn _ (by simp [ffp])), h.hh.only ho (hn _ (by simp [ffp])), h.np, h.nh⟩
theorem FramesAt.cell0 (h : FramesAt w f c fb pb hb fs hand ps hs) : w.cell? ⟨f, 0, none⟩ = some (.pointer (some ⟨c, 0, none⟩)) := h.hf.cell 0
theorem FramesAt.cell1 (h : FramesAt w f c fb pb hb fs hand ps hs) : w.cell? ⟨f, 1, none⟩ = some (.slice (some ⟨pb, 0, none⟩) fs.length fs.length) := h.hf.cell 1
theorem FramesAt.cell2 (h : FramesAt w f c fb pb hb fs hand ps hs) : w.cell? ⟨f, 2, none⟩ = some (.slice (some ⟨hb, 0, none⟩) fs.length fs.length) := h.hf.cell 2
theorem FramesAt.base_ (h : FramesAt w f c fb pb hb fs hand ps hs) {i : Nat} {p : PG} (hp : ps[i]? = some p) : w.rangeAt pb (i * 64) (by8 p.base) :=
  h.hp.rec_range (g := gpg) gpg_len hp 0 (by8 p.base) (by simp [by8, p.hb]) (by simp [gpg, by8, p.hb])
theorem FramesAt.now_ (h : FramesAt w f c fb pb hb fs hand ps hs) {i : Nat} {p : PG} (hp : ps[i]? = some p) : w.rangeAt pb (i * 64 + 32) (by8 p.now) :=
  h.hp.rec_range (g := gpg) gpg_len hp 32 (by8 p.now) (by simp [by8, p.hn]) (by simp [gpg, by8, p.hb, p.hn])

/-- Of what is a key. -/
def kindK (key : Int) : Int := if key < 0 then 0 else if 72 ≤ key then 0 else if key < 64 then 1 else 2
theorem frames_kind (key : Int) (w : World) : Calls Tryd.prog 36 #[.int .i64 key] w fun e w' => e = .returned (.int .i64 (kindK key)) ∧ w = w' := by
  unfold kindK
  by_cases h1 : key < 0
  · rw [if_pos h1]
    go_enter Tryd.func36, Tryd.ntmps36
    go_wp2
    go_ret
    exact ⟨rfl, rfl⟩
  · rw [if_neg h1]
    by_cases h2 : 72 ≤ key
    · rw [if_pos h2]
      go_enter Tryd.func36, Tryd.ntmps36
      go_wp2
      go_ret
      exact ⟨rfl, rfl⟩
    · rw [if_neg h2]
      by_cases h3 : key < 64
      · rw [if_pos h3]
        go_enter Tryd.func36, Tryd.ntmps36
        go_wp2
        go_ret
        exact ⟨rfl, rfl⟩
      · rw [if_neg h3]
        go_enter Tryd.func36, Tryd.ntmps36
        go_wp2
        go_ret
        exact ⟨rfl, rfl⟩

theorem frames_Clock (h : FramesAt w f c fb pb hb fs hand ps hs) : Calls Tryd.prog 6 #[.pointer (some ⟨f, 0, none⟩)] w fun e w' => e = .returned (.pointer (some ⟨c, 0, none⟩)) ∧ w = w' := by
  have h0 := h.cell0
  clear h
  go_enter Tryd.func6, Tryd.ntmps6
  go_wp2
  go_ret
  exact ⟨rfl, rfl⟩

/-- What find answers. -/
def fndR (fs : List CF) (key want : Int) : Value := if kindK key = want then (if key < 0 then .tuple #[.int .i64 0, .bool false] else findR fs key) else .tuple #[.int .i64 0, .bool false]
theorem findR_form (fs : List CF) (key : Int) : ∃ i b, findR fs key = .tuple #[.int .i64 i, .bool b] := by
  unfold findR; split <;> exact ⟨_, _, rfl⟩
theorem frames_find (h : FramesAt w f c fb pb hb fs hand ps hs) (key want : Int) :
    Calls Tryd.prog 38 #[.pointer (some ⟨f, 0, none⟩), .int .i64 key, .int .i64 want] w fun e w' => e = .returned (fndR fs key want) ∧ Only [] w w' := by
  have h0 := h.cell0
  have H2 := Lib.hid (clock_Find h.hc key)
  unfold fndR
  by_cases hk : kindK key = want
  · rw [if_pos hk]
    have hkb : (kindK key != want) = false := by simpa using hk
    clear hk
    obtain ⟨i, b, hr⟩ : ∃ i b, Hid ((if key < 0 then .tuple #[.int .i64 0, .bool false] else findR fs key) = Value.tuple #[.int .i64 i, .bool b]) := by
      by_cases hn : key < 0
      · rw [if_pos hn]; exact ⟨_, _, Lib.hid rfl⟩
      · rw [if_neg hn]; exact findR_form fs key
    rw [hr.out] at H2 ⊢
    clear h
    go_enter Tryd.func38, Tryd.ntmps38
    go_wp2_with (first | (go_at_call 36; refine (frames_kind key _).mono ?_; rintro e w1 ⟨rfl, rfl⟩) | (go_at_call 47; refine H2.out.mono ?_; rintro e w2 ⟨rfl, ho⟩))
    go_ret2
    exact ⟨rfl, ho⟩
  · rw [if_neg hk]
    have hkb : (kindK key != want) = true := by simpa using hk
    clear hk h
    go_enter Tryd.func38, Tryd.ntmps38
    go_wp2_with (first | (go_at_call 36; refine (frames_kind key _).mono ?_; rintro e w1 ⟨rfl, rfl⟩))
    go_ret2
    exact ⟨rfl, Only.refl _ _⟩
end
end Go.Proofs.YtbfgpghfofmanaaDoor
