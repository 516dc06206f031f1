/-
  Package frames: dirty, takes, Hold.
-/
import Derived.Test.YtbfgpghfofmanaaDoorFrames
import Derived.Test.YtbfgpghfofmanaaDoorEqArr
import Derived.Test.YtbfgpghfofmanaaDoorBuild
namespace Go.Proofs.YtbfgpghfofmanaaDoor
open Go.RowKit

theorem gpage_size : (Tryd.prog.info? 32).map (·.size) = some 32 := by kernel_rfl
theorem gu8_size : (Tryd.prog.info? 5).map (·.size) = some 1 := by kernel_rfl

/-- Does a frame hold a dirty page? -/
def dirtyB (fs : List CF) (ps : List PG) (i : Int) : Bool := match getF fs i with
  | some f => decide (kindK f.key = 1) && (match ps[i.toNat]? with | some p => decide (p.base ≠ p.now) | none => false)
  | none => false

section
variable {w : World} {f c fb pb hb : Nat} {fs : List CF} {hand : Int} {ps : List PG} {hs : List HD}

theorem FramesAt.page_ (h : FramesAt w f c fb pb hb fs hand ps hs) {i : Nat} (hi : i < fs.length) : ∃ p, ps[i]? = some p := ⟨ps[i]'(by rw [h.np]; exact hi), by simp⟩

set_option maxRecDepth 100000 in
theorem frames_dirty_no (h : FramesAt w f c fb pb hb fs hand ps hs) (i : Int) (hk : keyR fs i = .tuple #[.int .i64 0, .bool false]) :
    Calls Tryd.prog 41 #[.pointer (some ⟨f, 0, none⟩), .int .i64 i] w fun e w' => e = .returned (.bool false) ∧ Only [] w w' := by
  have h0 := h.cell0
  have H := Lib.hid (clock_Key h.hc i)
  rw [hk] at H
  clear h hk
  go_enter Tryd.func41, Tryd.ntmps41
  go_wp2_with (go_at_call 10; refine H.out.mono ?_; rintro e w1 ⟨rfl, rfl⟩)
  go_quiet (fail)
  go_wp2_with fail
  go_ret
  exact ⟨rfl, (Only.refl _ _).drewN _⟩

set_option maxRecDepth 100000 in
theorem frames_dirty_kind (h : FramesAt w f c fb pb hb fs hand ps hs) (i : Int) (key : Int) (hk : keyR fs i = .tuple #[.int .i64 key, .bool true]) (hn : kindK key ≠ 1) :
    Calls Tryd.prog 41 #[.pointer (some ⟨f, 0, none⟩), .int .i64 i] w fun e w' => e = .returned (.bool false) ∧ Only [] w w' := by
  have h0 := h.cell0
  have H := Lib.hid (clock_Key h.hc i)
  rw [hk] at H
  have hkb : (kindK key == 1) = false := by simpa using hn
  clear h hk hn
  go_enter Tryd.func41, Tryd.ntmps41
  go_wp2_with (go_at_call 10; refine H.out.mono ?_; rintro e w1 ⟨rfl, rfl⟩)
  go_quiet ((go_at_call 36; exact Calls.quiet_of_same ((frames_kind key _).mono fun e w' ⟨h1, h2⟩ => ⟨h1, h2.symm⟩)))
  go_wp2_with fail
  go_ret
  exact ⟨rfl, (Only.refl _ _).drewN _⟩

set_option maxRecDepth 100000 in
theorem frames_dirty_yes (h : FramesAt w f c fb pb hb fs hand ps hs) (n : Nat) (hn : n < fs.length) (key : Int) (hk : keyR fs n = .tuple #[.int .i64 key, .bool true]) (hkk : kindK key = 1) (p : PG) (hp : ps[n]? = some p) :
    Calls Tryd.prog 41 #[.pointer (some ⟨f, 0, none⟩), .int .i64 n] w fun e w' => e = .returned (.bool (decide (p.base ≠ p.now))) ∧ Only [] w w' := by
  have h0 := h.cell0
  have h1 := h.cell1
  have hb1 := h.base_ hp
  have hb2 := h.now_ hp
  have H := Lib.hid (clock_Key h.hc n)
  rw [hk] at H
  have hkb : (kindK key == 1) = true := by simpa using hkk
  have hn0 : (0 : Int) ≤ n := by omega
  have hn1 : (n : Int) < fs.length := by omega
  have hbl := p.hb
  have hnl := p.hn
  have HR := Lib.hid (fun w => run_neq_arr (P := Tryd.prog) w 32 5 32 .u8 Tryd.underlying32 Tryd.underlying5 gu8_size p.base p.now hbl hnl)
  have HB1 := Lib.hid hb1
  have HB2 := Lib.hid hb2
  have L1 : Hid ((by8 p.base).length = 32) := by simp [Hid, by8, hbl]
  have L2 : Hid ((by8 p.now).length = 32) := by simp [Hid, by8, hnl]
  clear h hk hkk hb1 hb2 hbl hnl hp
  go_enter Tryd.func41, Tryd.ntmps41
  go_wp2_with (go_at_call 10; refine H.out.mono ?_; rintro e w1 ⟨rfl, rfl⟩)
  refine wp_region_quiet_lit (by kernel_rfl) (by kernel_rfl) ?_
  iterate 14 (quiet_step ((go_at_call 36; exact Calls.quiet_of_same ((frames_kind key _).mono fun e w' ⟨h1, h2⟩ => ⟨h1, h2.symm⟩))))
  refine wpQuiet_run (.agg (by8 p.base).toArray) (by rfl) (fun w2 hC => ?_) ?_
  · obtain ⟨nq, rfl⟩ := hC
    exact exec_load_mid 32 _ rfl pb (n * 64) rfl _ _ HB1.out Tryd.underlying32 rfl (by rw [gpage_size, L1.out])
  iterate 7 (quiet_step (fail))
  refine wpQuiet_run (.agg (by8 p.now).toArray) (by rfl) (fun w2 hC => ?_) ?_
  · obtain ⟨nq, rfl⟩ := hC
    exact exec_load_mid 32 _ rfl pb (n * 64 + 32) rfl _ _ HB2.out Tryd.underlying32 rfl (by rw [gpage_size, L2.out])
  refine wpQuiet_run (.bool (decide (p.base ≠ p.now))) (by rfl) (fun w2 hC => ?_) ?_
  · unfold execOp
    simp only [Sem.run_bind]
    exact (congrArg (fun r => Result.andThen r _) (HR.out w2)).trans rfl
  repeat (quiet_step (fail))
  refine wpQuiet_nil ?_
  intro _ hw'
  obtain ⟨nq, rfl⟩ := hw'
  go_wp2_with fail
  go_ret
  refine ⟨?_, (Only.refl _ _).drewN _⟩
  rw [decide_not]
  rfl

theorem frames_dirty (h : FramesAt w f c fb pb hb fs hand ps hs) (i : Int) :
    Calls Tryd.prog 41 #[.pointer (some ⟨f, 0, none⟩), .int .i64 i] w fun e w' => e = .returned (.bool (dirtyB fs ps i)) ∧ Only [] w w' := by
  unfold dirtyB
  cases hg : getF fs i with
  | none => exact frames_dirty_no h i (by unfold keyR; rw [hg])
  | some F =>
    obtain ⟨n, rfl, hf, hn⟩ := getF_some hg
    obtain ⟨p, hp⟩ := h.page_ hn
    simp only [Int.toNat_natCast, hp]
    by_cases hk : F.key = -1
    · have : kindK F.key ≠ 1 := by rw [hk]; decide
      simp only [this, decide_false, Bool.false_and]
      exact frames_dirty_no h n (by unfold keyR; rw [hg]; simp [hk])
    · have hkr : keyR fs n = .tuple #[.int .i64 F.key, .bool true] := by unfold keyR; rw [hg]; simp [hk]
      by_cases hkk : kindK F.key = 1
      · simp only [hkk, decide_true, Bool.true_and]
        exact frames_dirty_yes h n hn F.key hkr hkk p hp
      · simp only [hkk, decide_false, Bool.false_and]
        exact frames_dirty_kind h n F.key hkr hkk
end
end Go.Proofs.YtbfgpghfofmanaaDoor
