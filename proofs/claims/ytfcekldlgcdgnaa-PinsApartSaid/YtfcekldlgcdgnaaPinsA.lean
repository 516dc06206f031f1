/-
  Package pins: what its functions come to, in memory.
-/
import Derived.Test.YtfcekldlgcdgnaaErr
import Derived.Test.YtfcekldlgcdgnaaInts
import Derived.Deep.RegionHeld3
import Derived.Deep.AppendLies
import Derived.Deep.DeepMust
namespace Go.Proofs.Ytfcekldlgcdgnaa
open Go.RowKit Go.Sort

theorem pins_number_nil (w : World) :
    Calls Try.prog 11 #[.nilIface] w fun e w' => e = .returned (.int .i64 0) ∧ Only [] w w' := by
  go_enter Try.func11, Try.ntmps11
  go_wp2_with fail
  refine wp_loop_rounds 5 ?_
  repeat (rw [rounds_succ]; go_wp2_with (go_at_call 18; refine (errors_Is_nil _ _).mono ?_; rintro e w' ⟨rfl, rfl⟩))
  go_ret
  exact ⟨rfl, (Only.refl _ _).alloc _⟩

set_option maxRecDepth 100000 in
theorem pins_number_err (k : Int) (hk : k = 1 ∨ k = 20 ∨ k = 16 ∨ k = 19) (d : Nat) (v : Value) (w : World) (hv : ErrAt w k d v) :
    Calls Try.prog 11 #[v] w fun e w' => e = .returned (.int .i64 k) ∧ Only [] w w' := by
  have HV := Lib.hid fun o => hv.alloc (w := w) o
  clear hv
  rcases hk with rfl | rfl | rfl | rfl
  all_goals
    go_enter Try.func11, Try.ntmps11
    go_wp2_with fail
    refine wp_loop_rounds 5 ?_
    repeat (rw [rounds_succ]; go_wp2_with (go_at_call 18; refine (errors_Is_any _ _ d _ _ (HV.out _)).mono ?_; rintro e w' ⟨rfl, rfl⟩))
    go_ret
    exact ⟨rfl, (Only.refl _ _).alloc _⟩

theorem pins_session_nil (i : Int) (w : World) :
    Calls Try.prog 12 #[.pointer none, .int .i64 i] w fun e w' => ∃ v, e = .returned v ∧ ErrAt w' 1 1 v ∧ Only [] w w' := by
  go_enter Try.func12, Try.ntmps12
  go_wp2
  go_ret
  exact ⟨_, rfl, ErrAt.new_ _ _ _, (Only.refl _ _).alloc _⟩

theorem pins_session_ok (p : Addr) (i : Int) (a : Option Addr) (n c : Nat) (w : World) (h0 : 0 ≤ i) (h1 : i < n) (hc : w.cell? p = some (.slice a n c)) :
    Calls Try.prog 12 #[.pointer (some p), .int .i64 i] w fun e w' => e = .returned .nilIface ∧ w = w' := by
  go_enter Try.func12, Try.ntmps12
  go_wp2
  go_ret
  exact ⟨rfl, rfl⟩

theorem pins_session_no (p : Addr) (i : Int) (a : Option Addr) (n c : Nat) (w : World) (h : i < 0 ∨ (n : Int) ≤ i) (hc : w.cell? p = some (.slice a n c)) :
    Calls Try.prog 12 #[.pointer (some p), .int .i64 i] w fun e w' => ∃ v, e = .returned v ∧ ErrAt w' 20 1 v ∧ Only [] w w' := by
  by_cases h0 : i < 0
  · go_enter Try.func12, Try.ntmps12
    go_wp2
    go_ret
    exact ⟨_, rfl, ErrAt.new_ _ _ _, (Only.refl _ _).alloc _⟩
  · have h1 : (n : Int) ≤ i := by omega
    clear h
    go_enter Try.func12, Try.ntmps12
    go_wp2
    go_ret
    exact ⟨_, rfl, ErrAt.new_ _ _ _, (Only.refl _ _).alloc _⟩


/-- Pins of two sessions at block p: what each session has. -/
structure PinsAt (w : World) (p q : Nat) (ss : Nat → Value) (ls : Nat → List Int) : Prop where
  hp : Blk w p 38 #[.slice (some ⟨q, 0, none⟩) 2 2]
  hq : Blk w q 32 #[ss 0, ss 1]
  own : ∀ i, i < 2 → OwnI w (ss i) (ls i)
  ne : ∀ b, (ss 0).ownBlock = some b → (ss 1).ownBlock ≠ some b

theorem PinsAt.cellp {w : World} {p q : Nat} {ss : Nat → Value} {ls : Nat → List Int} (h : PinsAt w p q ss ls) : w.cell? ⟨p, 0, none⟩ = some (.slice (some ⟨q, 0, none⟩) 2 2) := h.hp.cell 0
theorem PinsAt.cellq {w : World} {p q : Nat} {ss : Nat → Value} {ls : Nat → List Int} (h : PinsAt w p q ss ls) {i : Nat} (hi : i < 2) : w.cell? ⟨q, i, none⟩ = some (ss i) := by
  rw [h.hq.cell]
  have : i = 0 ∨ i = 1 := by omega
  rcases this with rfl | rfl <;> rfl

theorem pins_add_no (p q : Nat) (ss : Nat → Value) (ls : Nat → List Int) (w : World) (h : PinsAt w p q ss ls) (i g : Int) (hi : i < 0 ∨ 2 ≤ i) :
    Calls Try.prog 15 #[.pointer (some ⟨p, 0, none⟩), .int .i64 i, .int .i64 g] w fun e w' => ∃ v, e = .returned v ∧ ErrAt w' 20 2 v ∧ Only [] w w' := by
  have HS := Lib.hid (pins_session_no ⟨p, 0, none⟩ i _ _ _ w (by simpa using hi) h.cellp)
  clear h hi
  go_enter Try.func15, Try.ntmps15
  go_wp2_with fail
  refine HS.out.mono ?_
  rintro e w1 ⟨v, rfl, hv, ho⟩
  have HV := Lib.hid hv
  obtain ⟨t, x, rfl⟩ := hv.iface
  have HO := Lib.hid ho
  clear hv ho HS
  go_wp2_with (go_at_call 20; refine (fault_wrap1 _ _ _ _).mono ?_; rintro e w2 ⟨rfl, rfl⟩)
  go_ret
  exact ⟨_, rfl, HV.out.wrap_ _, HO.out.alloc _⟩

theorem pins_add_page (p q : Nat) (ss : Nat → Value) (ls : Nat → List Int) (w : World) (h : PinsAt w p q ss ls) (i : Nat) (g : Int) (hi : i < 2) (hg : g < 0 ∨ 64 ≤ g) :
    Calls Try.prog 15 #[.pointer (some ⟨p, 0, none⟩), .int .i64 i, .int .i64 g] w fun e w' => ∃ v, e = .returned v ∧ ErrAt w' 16 1 v ∧ Only [] w w' := by
  have HS := Lib.hid (pins_session_ok ⟨p, 0, none⟩ i _ _ _ w (by omega) (by omega) h.cellp)
  clear h
  by_cases hg0 : g < 0
  all_goals
    go_enter Try.func15, Try.ntmps15
    go_wp2_with (first | (go_at_call 12; refine HS.out.mono ?_; rintro e w1 ⟨rfl, rfl⟩) | (go_at_call 19; refine (fault_new1 _ _ _ rfl).mono ?_; rintro e w2 ⟨rfl, rfl⟩))
    all_goals go_ret
    all_goals exact ⟨_, rfl, ErrAt.new_ _ _ _, (Only.refl _ _).alloc _⟩

theorem pins_add_many (p q : Nat) (ss : Nat → Value) (ls : Nat → List Int) (w : World) (h : PinsAt w p q ss ls) (i : Nat) (g : Int) (hi : i < 2) (hg0 : 0 ≤ g) (hg : g < 64) (hl : 16 ≤ (ls i).length) :
    Calls Try.prog 15 #[.pointer (some ⟨p, 0, none⟩), .int .i64 i, .int .i64 g] w fun e w' => ∃ v, e = .returned v ∧ ErrAt w' 19 1 v ∧ Only [] w w' := by
  have HS := Lib.hid (pins_session_ok ⟨p, 0, none⟩ i _ _ _ w (by omega) (by omega) h.cellp)
  have hc := h.cellq hi
  have hp := h.cellp
  obtain ⟨A, c, hs⟩ := (h.own i hi).slice
  rw [hs] at hc
  clear h hs
  generalize (ls i).length = n at *
  go_enter Try.func15, Try.ntmps15
  go_wp2_with (first | (go_at_call 12; refine HS.out.mono ?_; rintro e w1 ⟨rfl, rfl⟩) | (go_at_call 19; refine (fault_new1 _ _ _ rfl).mono ?_; rintro e w2 ⟨rfl, rfl⟩))
  go_ret
  exact ⟨_, rfl, ErrAt.new_ _ _ _, (Only.refl _ _).alloc _⟩

theorem pins_add_ok (p q : Nat) (ss : Nat → Value) (ls : Nat → List Int) (w : World) (h : PinsAt w p q ss ls) (i : Nat) (g : Int) (hi : i < 2) (hg0 : 0 ≤ g) (hg : g < 64) (hl : (ls i).length < 16) :
    Calls Try.prog 15 #[.pointer (some ⟨p, 0, none⟩), .int .i64 i, .int .i64 g] w fun e w' => e = .returned .nilIface ∧ w = w' := by
  have HS := Lib.hid (pins_session_ok ⟨p, 0, none⟩ i _ _ _ w (by omega) (by omega) h.cellp)
  have hc := h.cellq hi
  have hp := h.cellp
  obtain ⟨A, c, hs⟩ := (h.own i hi).slice
  rw [hs] at hc
  clear h hs
  generalize (ls i).length = n at *
  go_enter Try.func15, Try.ntmps15
  go_wp2_with (first | (go_at_call 12; refine HS.out.mono ?_; rintro e w1 ⟨rfl, rfl⟩))
  go_ret
  exact ⟨rfl, rfl⟩
end Go.Proofs.Ytfcekldlgcdgnaa
