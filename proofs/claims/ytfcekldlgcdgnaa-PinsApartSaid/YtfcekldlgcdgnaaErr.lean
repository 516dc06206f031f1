/-
  The errors of this program: an error's number is found through its wraps: fault.New, fault.Wrap, errors.Is at a number, for chains of whatever depth.
-/
import Derived.Test.YtfcekldlgcdgnaaMem
import Derived.Test.YtfcekldlgcdgnaaChecked
import Derived.LaidEql
import Derived.Stop.Asserts
import Derived.RowKitTokens
import Derived.Deep.LoopGhost
import Derived.Lib.Hide
import Derived.Stop.IfaceNil
import Derived.Lib.IfaceEq
namespace Go.Proofs.Ytfcekldlgcdgnaa
open Go.RowKit Go.Extern.Stop Go.Stop Go.Extern

theorem fault_new0 (s : ByteArray) (w : World) :
    Calls Try.prog 19 #[.int .i64 0, .string s] w fun e w' => e = .returned .nilIface ∧ w = w' := by
  go_enter Try.func19, Try.ntmps19
  go_wp2
  go_ret
  exact ⟨rfl, rfl⟩

theorem fault_new1 (n : Int) (s : ByteArray) (w : World) (hn : (n == 0) = false) :
    Calls Try.prog 19 #[.int .i64 n, .string s] w fun e w' => e = .returned (.iface 59 (.pointer (some ⟨w.heap.size, 0, none⟩))) ∧ w' = w.alloc (.cells #[.string s, .iface 25 (.int .i64 n), .bool false] 61) := by
  go_enter Try.func19, Try.ntmps19
  go_wp2
  go_ret
  exact ⟨rfl, rfl⟩

theorem fault_wrap0 (s : ByteArray) (w : World) :
    Calls Try.prog 20 #[.nilIface, .string s] w fun e w' => e = .returned .nilIface ∧ w = w' := by
  go_enter Try.func20, Try.ntmps20
  go_wp2
  go_ret
  exact ⟨rfl, rfl⟩

theorem fault_wrap1 (t : TypeId) (v : Value) (s : ByteArray) (w : World) :
    Calls Try.prog 20 #[.iface t v, .string s] w fun e w' => e = .returned (.iface 59 (.pointer (some ⟨w.heap.size, 0, none⟩))) ∧ w' = w.alloc (.cells #[.string s, .iface t v, .bool true] 61) := by
  go_enter Try.func20, Try.ntmps20
  go_wp2
  go_ret
  exact ⟨rfl, rfl⟩

/-! ### errors.Is at a number -/

/-- v is an error about the number k, d wraps deep. -/
def ErrAt (w : World) (k : Int) : Nat → Value → Prop
  | 0, v => v = .iface 25 (.int .i64 k)
  | d + 1, v => ∃ b s u wr, v = .iface 59 (.pointer (some ⟨b, 0, none⟩)) ∧ Blk w b 61 #[.string s, u, .bool wr] ∧ ErrAt w k d u

theorem ErrAt.keep {w w2 : World} {k : Int} (hk : ∀ b, b < w.heap.size → w2.heap[b]? = w.heap[b]?) : ∀ {d : Nat} {v : Value}, ErrAt w k d v → ErrAt w2 k d v
  | 0, _, h => h
  | _ + 1, _, ⟨b, s, u, wr, h1, h2, h3⟩ => ⟨b, s, u, wr, h1, (hk b h2.lt).trans h2, ErrAt.keep hk h3⟩
theorem ErrAt.alloc {w : World} {k : Int} {d : Nat} {v : Value} (h : ErrAt w k d v) (o : Obj) : ErrAt (w.alloc o) k d v := h.keep fun _ hb => Below.heap_alloc _ _ _ hb
theorem ErrAt.iface {w : World} {k : Int} : ∀ {d : Nat} {v : Value}, ErrAt w k d v → ∃ t x, v = .iface t x
  | 0, _, h => ⟨_, _, h⟩
  | _ + 1, _, ⟨_, _, _, _, h, _⟩ => ⟨_, _, h⟩
theorem ErrAt.new_ (w : World) (k : Int) (s : ByteArray) : ErrAt (w.alloc (.cells #[.string s, .iface 25 (.int .i64 k), .bool false] 61)) k 1 (.iface 59 (.pointer (some ⟨w.heap.size, 0, none⟩))) :=
  ⟨_, s, _, false, rfl, Blk.new _ _ _, rfl⟩
theorem ErrAt.wrap_ {w : World} {k : Int} {d : Nat} {v : Value} (h : ErrAt w k d v) (s : ByteArray) : ErrAt (w.alloc (.cells #[.string s, v, .bool true] 61)) k (d + 1) (.iface 59 (.pointer (some ⟨w.heap.size, 0, none⟩))) :=
  ⟨_, s, _, true, rfl, Blk.new _ _ _, h.alloc _⟩

/-! closed facts -/
theorem noIsF (v : Value) (xT : TypeId) (w : World) : (Instr.typeAssert (.iface 59 v) xT 78 true).run Try.prog w = .ok (.tuple #[.nilIface, .bool false]) w := run_typeAssert_lacksB Try.underlying78 (by kernel_rfl) (by kernel_rfl) v xT w
theorem noIsN (v : Value) (xT : TypeId) (w : World) : (Instr.typeAssert (.iface 25 v) xT 78 true).run Try.prog w = .ok (.tuple #[.nilIface, .bool false]) w := run_typeAssert_lacksB Try.underlying78 (by kernel_rfl) (by kernel_rfl) v xT w
theorem noUnN (v : Value) (xT : TypeId) (w : World) : (Instr.typeAssert (.iface 25 v) xT 81 true).run Try.prog w = .ok (.tuple #[.nilIface, .bool false]) w := run_typeAssert_lacksB Try.underlying81 (by kernel_rfl) (by kernel_rfl) v xT w
theorem noUnsN (v : Value) (xT : TypeId) (w : World) : (Instr.typeAssert (.iface 25 v) xT 83 true).run Try.prog w = .ok (.tuple #[.nilIface, .bool false]) w := run_typeAssert_lacksB Try.underlying83 (by kernel_rfl) (by kernel_rfl) v xT w
theorem hasUnF (v : Value) (xT : TypeId) (w : World) : (Instr.typeAssert (.iface 59 v) xT 81 true).run Try.prog w = .ok (.tuple #[.iface 59 v, .bool true]) w := run_typeAssert_hasB Try.underlying81 (by kernel_rfl) v xT w

theorem errno_cmp : (Try.prog.info? 25).map (·.comparable) = some true := by kernel_rfl
theorem methodUnF (v : Value) (w : World) : (Go.method 229 59 v "Unwrap").run Try.prog w = .ok (60, v) w := by kernel_rfl

set_option maxRecDepth 100000 in
set_option maxHeartbeats 1000000 in
theorem errors_is_any (k q : Int) (d : Nat) (v : Value) (w : World) (hv : ErrAt w k d v) :
    Calls Try.prog 24 #[v, .iface 25 (.int .i64 q), .bool true] w fun e w' => e = .returned (.bool (k == q)) ∧ w = w' := by
  have nF := noIsF
  have nN := noIsN
  have uN := noUnN
  have usN := noUnsN
  have uF := hasUnF
  have mF := methodUnF
  have eN := fun (a b : Int) (w : World) => Lib.run_eql_iface_int (P := Try.prog) w (k := .i64) (q := .i64) a b Try.underlying41 errno_cmp Try.underlying25
  have eF := fun (v x : Value) (w : World) => run_eql_iface_types (P := Try.prog) 59 25 v x Try.underlying41 (by decide) w
  go_enter Try.func24, Try.ntmps24
  go_wp2_with fail
  go_loopg [0] d (fun gk v wr => w = wr ∧ ErrAt w k gk v)
  case atStart => exact ⟨rfl, hv⟩
  case round =>
    obtain ⟨rfl, hv⟩ := hrel
    cases gk with
    | zero =>
      obtain rfl : _ = _ := hv
      cases hkq : (k == q) with
      | true => go_wp2; go_ret; exact ⟨by rw [hkq]; rfl, rfl⟩
      | false => go_wp2; go_ret; exact ⟨by rw [hkq]; rfl, rfl⟩
    | succ d2 =>
      obtain ⟨b, s, u, wr2, rfl, hb, hu⟩ := hv
      have hc := hb.cell 1
      simp at hc
      have HU := Lib.hid hu
      obtain ⟨t, x, rfl⟩ := hu.iface
      clear hu hb
      go_wp2
      go_roundg d2
      case measure => omega
      case rel => exact ⟨rfl, HU.out⟩

/-! ### errors.Is -/
theorem isTypeOfN (v : Value) (w : World) : (Extern.ReflectliteType.typeOf #[.iface 25 v]).run Try.prog w = .ok (.iface 76 (.agg #[.pointer (some ⟨0, 25, none⟩)])) w := by kernel_rfl
theorem isComparableN (w : World) : ((Extern.ReflectliteType.method fun t => do Go.Extern.Rtype.noPackHeld "Comparable" t; (fun a => Value.bool a.comparable) <$> typeInfo t) #[.agg #[.pointer (some ⟨0, 25, none⟩)]]).run Try.prog w = .ok (.bool true) w := by kernel_rfl
theorem isMethodComparable (v : Value) (w : World) : (Go.method 229 76 v "Comparable").run Try.prog w = .ok (64, v) w := by kernel_rfl

set_option maxRecDepth 100000 in
theorem errors_Is_any (k q : Int) (d : Nat) (v : Value) (w : World) (hv : ErrAt w k d v) :
    Calls Try.prog 18 #[v, .iface 25 (.int .i64 q)] w fun e w' => e = .returned (.bool (k == q)) ∧ w = w' := by
  have hT := @run_callFunc_extern Try.prog 23 _ Extern.ReflectliteType.typeOf Try.func23 (by kernel_rfl) (by kernel_rfl) (by kernel_rfl) (by kernel_rfl)
  have hC := @run_callFunc_extern Try.prog 64 _ (Extern.ReflectliteType.method fun t => do Go.Extern.Rtype.noPackHeld "Comparable" t; pure (.bool (← typeInfo t).comparable)) Try.func64 (by kernel_rfl) (by kernel_rfl) (by kernel_rfl) (by kernel_rfl)
  have tT := isTypeOfN
  have cT := isComparableN
  have mR := isMethodComparable
  have HV := Lib.hid hv
  obtain ⟨t, x, rfl⟩ := hv.iface
  clear hv
  go_enter Try.func18, Try.ntmps18
  go_wp2_with (go_at_call 24; refine (errors_is_any k q d _ _ HV.out).mono ?_; rintro e w' ⟨rfl, rfl⟩)
  go_ret
  exact ⟨rfl, rfl⟩

theorem errors_Is_nil (q : Int) (w : World) :
    Calls Try.prog 18 #[.nilIface, .iface 25 (.int .i64 q)] w fun e w' => e = .returned (.bool false) ∧ w = w' := by
  have hn := run_eql_iface_nil_left (P := Try.prog) w 25 (.int .i64 q) Try.underlying41
  go_enter Try.func18, Try.ntmps18
  go_wp2
  go_ret
  exact ⟨rfl, rfl⟩
end Go.Proofs.Ytfcekldlgcdgnaa
