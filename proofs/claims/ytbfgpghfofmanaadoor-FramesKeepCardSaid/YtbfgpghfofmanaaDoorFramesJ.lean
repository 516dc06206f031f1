/-
  The law's wakes: the calls at their numbers.
-/
import Derived.Test.YtbfgpghfofmanaaDoorFramesG
import Derived.Test.YtbfgpghfofmanaaDoorFramesI
import Derived.Test.YtbfgpghfofmanaaDoorReads
namespace Go.Proofs.YtbfgpghfofmanaaDoor
open Go.RowKit

def kF0 : List CF := newFs 2
def kF1 : List CF := [⟨5, true, 0⟩, ⟨-1, false, 0⟩]
def kF2 : List CF := [⟨5, true, 0⟩, ⟨67, true, 0⟩]
def kF3 : List CF := [⟨-1, false, 0⟩, ⟨67, true, 0⟩]
def kU : List Int := updP (leafP 7) 1 [9]
def kP0 : List PG := List.replicate 2 pgZ
def kP1 : List PG := [⟨leafP 7, leafP 7, rfl, rfl⟩, pgZ]
def kP2 : List PG := [⟨leafP 7, kU, rfl, rfl⟩, pgZ]
def kP3 : List PG := [⟨kU, kU, rfl, rfl⟩, pgZ]
def kH0 : List HD := List.replicate 2 hdZ
def kHd : HD := ⟨[4, 0, 0, 0, 0, 0, 0, 0], rfl⟩
def kH1 : List HD := [hdZ, kHd]
def GlobE (w : World) : Prop := w.cell? ⟨0, 0, none⟩ = some (.iface 132 (.agg #[.pointer (some ⟨1, 100, none⟩)]))

section
variable {w : World} {f c fb pb hb : Nat}

theorem wk_Hold (h : FramesAt w f c fb pb hb kF0 0 kP0 kH0) :
    Calls Tryd.prog 11 #[.pointer (some ⟨f, 0, none⟩), .int .i64 0, .int .i64 5, .agg (by8 (leafP 7)).toArray] w fun e w' => e = .returned (.bool true) ∧ FramesAt w' f c fb pb hb kF1 0 kP1 kH0 ∧ Only [fb, pb] w w' :=
  frames_Hold_ok h 0 5 (leafP 7) rfl ⟨-1, false, 0⟩ (by rfl)
theorem wk_Write (h : FramesAt w f c fb pb hb kF1 0 kP1 kH0) (v : Value) (hv : ReadsB w v [9]) :
    Calls Tryd.prog 13 #[.pointer (some ⟨f, 0, none⟩), .int .i64 5, .int .i64 1, v] w fun e w' => e = .returned (.int .i64 0) ∧ FramesAt w' f c fb pb hb kF1 0 kP2 kH0 ∧ Only [pb, fb] w w' :=
  frames_Write_ok h 5 1 v [9] 0 ⟨leafP 7, leafP 7, rfl, rfl⟩ ⟨5, true, 0⟩ rfl rfl rfl (by decide) hv (by unfold fitsP; simp)
theorem wk_Write6 (h : FramesAt w f c fb pb hb kF1 0 kP2 kH0) (v : Value) :
    Calls Tryd.prog 13 #[.pointer (some ⟨f, 0, none⟩), .int .i64 6, .int .i64 1, v] w fun e w' => e = .returned (.int .i64 17) ∧ Only [] w w' :=
  frames_Write_none h 6 1 v rfl
theorem wk_WriteL (h : FramesAt w f c fb pb hb kF1 0 kP2 kH0) (hg : GlobE w) (a : Option Addr) (cp : Nat) :
    Calls Tryd.prog 13 #[.pointer (some ⟨f, 0, none⟩), .int .i64 5, .int .i64 32, .slice a 1 cp] w fun e w' => e = .returned (.int .i64 18) ∧ Only [] w w' :=
  frames_Write_bad h 5 32 0 ⟨leafP 7, kU, rfl, rfl⟩ 1 cp a rfl rfl hg (by unfold fitsP; simp) (by omega)
theorem wk_Page (h : FramesAt w f c fb pb hb kF1 0 kP2 kH0) :
    Calls Tryd.prog 15 #[.pointer (some ⟨f, 0, none⟩), .int .i64 5] w fun e w' => e = .returned (.tuple #[.agg (by8 (leafP 7)).toArray, .agg (by8 kU).toArray, .bool true]) ∧ Only [] w w' :=
  frames_Page_ok h 5 0 ⟨leafP 7, kU, rfl, rfl⟩ rfl rfl
theorem wk_Dirty (h : FramesAt w f c fb pb hb kF1 0 kP2 kH0) :
    Calls Tryd.prog 16 #[.pointer (some ⟨f, 0, none⟩)] w fun e w' => ∃ v, e = .returned v ∧ OwnI w' v [5] ∧ Only [] w w' ∧ (∀ b, v.ownBlock = some b → w.heap.size ≤ b) := by
  have h1 := frames_Dirty h (by decide)
  rw [show dirtyL kF1 kP2 kF1.length = [5] from by decide, show sortI [5] = [5] from by simp [sortI]] at h1
  exact h1
theorem wk_Dirty0 (h : FramesAt w f c fb pb hb kF2 0 kP3 kH1) :
    Calls Tryd.prog 16 #[.pointer (some ⟨f, 0, none⟩)] w fun e w' => ∃ v, e = .returned v ∧ OwnI w' v [] ∧ Only [] w w' ∧ (∀ b, v.ownBlock = some b → w.heap.size ≤ b) := by
  have h1 := frames_Dirty h (by decide)
  rw [show dirtyL kF2 kP3 kF2.length = [] from by decide, show sortI [] = [] from by simp [sortI]] at h1
  exact h1
theorem wk_Hold6 (h : FramesAt w f c fb pb hb kF1 0 kP2 kH0) :
    Calls Tryd.prog 11 #[.pointer (some ⟨f, 0, none⟩), .int .i64 0, .int .i64 6, .agg (by8 (leafP 1)).toArray] w fun e w' => e = .returned (.bool false) ∧ Only [] w w' :=
  frames_Hold_no h 0 6 (leafP 1) rfl (by decide)
theorem wk_Clean (h : FramesAt w f c fb pb hb kF1 0 kP2 kH0) :
    Calls Tryd.prog 14 #[.pointer (some ⟨f, 0, none⟩), .int .i64 5] w fun e w' => e = .returned (.tuple #[]) ∧ FramesAt w' f c fb pb hb kF1 0 kP3 kH0 ∧ Only [pb] w w' :=
  frames_Clean_ok h 5 0 ⟨leafP 7, kU, rfl, rfl⟩ rfl rfl
theorem wk_HoldMap (h : FramesAt w f c fb pb hb kF1 0 kP3 kH0) :
    Calls Tryd.prog 19 #[.pointer (some ⟨f, 0, none⟩), .int .i64 1, .int .i64 3, .agg #[.int .i64 4, .int .i64 0, .int .i64 0, .int .i64 0, .int .i64 0, .int .i64 0, .int .i64 0, .int .i64 0]] w fun e w' => e = .returned (.bool true) ∧ FramesAt w' f c fb pb hb kF2 0 kP3 kH1 ∧ Only [fb, hb] w w' :=
  frames_HoldMap_ok h 1 3 kHd ⟨-1, false, 0⟩ (by rfl)
theorem wk_Map (h : FramesAt w f c fb pb hb kF2 0 kP3 kH1) :
    Calls Tryd.prog 32 #[.pointer (some ⟨f, 0, none⟩), .int .i64 3] w fun e w' => e = .returned (.tuple #[.agg (ghd kHd).toArray, .bool true]) ∧ Only [] w w' :=
  frames_Map_ok h 3 1 kHd (by omega) (by omega) rfl rfl
theorem wk_Forget (h : FramesAt w f c fb pb hb kF2 0 kP3 kH1) :
    Calls Tryd.prog 23 #[.pointer (some ⟨f, 0, none⟩), .int .i64 5] w fun e w' => e = .returned (.bool true) ∧ FramesAt w' f c fb pb hb kF3 0 kP3 kH1 ∧ Only [fb] w w' :=
  frames_Forget h 5 (by omega)
theorem wk_Forget2 (h : FramesAt w f c fb pb hb kF3 0 kP3 kH1) :
    Calls Tryd.prog 23 #[.pointer (some ⟨f, 0, none⟩), .int .i64 5] w fun e w' => e = .returned (.bool false) ∧ Only [] w w' :=
  frames_Forget h 5 (by omega)
end

theorem wk_build (w : World) : (Instr.build 52 #[(0, .int .i64 4)]).run Tryd.prog w = .ok (.agg (ghd kHd).toArray) w := by kernel_rfl
end Go.Proofs.YtbfgpghfofmanaaDoor
