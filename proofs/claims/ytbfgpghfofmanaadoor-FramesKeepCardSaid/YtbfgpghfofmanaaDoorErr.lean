/-
  The errors of this program: an error's number is found through its wraps: fault.New, fault.Wrap, errors.Is at a number, for chains of whatever depth.
-/
import Derived.Test.YtbfgpghfofmanaaDoorMem
import Derived.Test.YtbfgpghfofmanaaDoorChecked
import Derived.LaidEql
import Derived.Stop.Asserts
import Derived.RowKitTokens
import Derived.Deep.LoopGhost
import Derived.Lib.Hide
import Derived.Stop.IfaceNil
import Derived.Lib.IfaceEq
namespace Go.Proofs.YtbfgpghfofmanaaDoor
open Go.RowKit Go.Extern.Stop Go.Stop Go.Extern

theorem fault_new0 (s : ByteArray) (w : World) :
    Calls Tryd.prog 63 #[.int .i64 0, .string s] w fun e w' => e = .returned .nilIface ∧ w = w' := by
  go_enter Tryd.func63, Tryd.ntmps63
  go_wp2
  go_ret
  exact ⟨rfl, rfl⟩

theorem fault_new1 (n : Int) (s : ByteArray) (w : World) (hn : (n == 0) = false) :
    Calls Tryd.prog 63 #[.int .i64 n, .string s] w fun e w' => e = .returned (.iface 145 (.pointer (some ⟨w.heap.size, 0, none⟩))) ∧ w' = w.alloc (.cells #[.string s, .iface 24 (.int .i64 n), .bool false] 147) := by
  go_enter Tryd.func63, Tryd.ntmps63
  go_wp2
  go_ret
  exact ⟨rfl, rfl⟩

theorem fault_wrap0 (s : ByteArray) (w : World) :
    Calls Tryd.prog 62 #[.nilIface, .string s] w fun e w' => e = .returned .nilIface ∧ w = w' := by
  go_enter Tryd.func62, Tryd.ntmps62
  go_wp2
  go_ret
  exact ⟨rfl, rfl⟩

theorem fault_wrap1 (t : TypeId) (v : Value) (s : ByteArray) (w : World) :
    Calls Tryd.prog 62 #[.iface t v, .string s] w fun e w' => e = .returned (.iface 145 (.pointer (some ⟨w.heap.size, 0, none⟩))) ∧ w' = w.alloc (.cells #[.string s, .iface t v, .bool true] 147) := by
  go_enter Tryd.func62, Tryd.ntmps62
  go_wp2
  go_ret
  exact ⟨rfl, rfl⟩

/-! ### errors.Is at a number -/

/-- v is an error about the number k, d wraps deep. -/
def ErrAt (w : World) (k : Int) : Nat → Value → Prop
  | 0, v => v = .iface 24 (.int .i64 k)
  | d + 1, v => ∃ b s u wr, v = .iface 145 (.pointer (some ⟨b, 0, none⟩)) ∧ Blk w b 147 #[.string s, u, .bool wr] ∧ ErrAt w k d u

theorem ErrAt.keep {w w2 : World} {k : Int} (hk : ∀ b, b < w.heap.size → w2.heap[b]? = w.heap[b]?) : ∀ {d : Nat} {v : Value}, ErrAt w k d v → ErrAt w2 k d v
  | 0, _, h => h
  | _ + 1, _, ⟨b, s, u, wr, h1, h2, h3⟩ => ⟨b, s, u, wr, h1, (hk b h2.lt).trans h2, ErrAt.keep hk h3⟩
theorem ErrAt.alloc {w : World} {k : Int} {d : Nat} {v : Value} (h : ErrAt w k d v) (o : Obj) : ErrAt (w.alloc o) k d v := h.keep fun _ hb => Below.heap_alloc _ _ _ hb
theorem ErrAt.iface {w : World} {k : Int} : ∀ {d : Nat} {v : Value}, ErrAt w k d v → ∃ t x, v = .iface t x
  | 0, _, h => ⟨_, _, h⟩
  | _ + 1, _, ⟨_, _, _, _, h, _⟩ => ⟨_, _, h⟩
theorem ErrAt.new_ (w : World) (k : Int) (s : ByteArray) : ErrAt (w.alloc (.cells #[.string s, .iface 24 (.int .i64 k), .bool false] 147)) k 1 (.iface 145 (.pointer (some ⟨w.heap.size, 0, none⟩))) :=
  ⟨_, s, _, false, rfl, Blk.new _ _ _, rfl⟩
theorem ErrAt.wrap_ {w : World} {k : Int} {d : Nat} {v : Value} (h : ErrAt w k d v) (s : ByteArray) : ErrAt (w.alloc (.cells #[.string s, v, .bool true] 147)) k (d + 1) (.iface 145 (.pointer (some ⟨w.heap.size, 0, none⟩))) :=
  ⟨_, s, _, true, rfl, Blk.new _ _ _, h.alloc _⟩

/-! closed facts -/
theorem noUnN (v : Value) (xT : TypeId) (w : World) : (Instr.typeAssert (.iface 24 v) xT 140 true).run Tryd.prog w = .ok (.tuple #[.nilIface, .bool false]) w := run_typeAssert_lacksB Tryd.underlying140 (by kernel_rfl) (by kernel_rfl) v xT w
theorem noUnsN (v : Value) (xT : TypeId) (w : World) : (Instr.typeAssert (.iface 24 v) xT 142 true).run Tryd.prog w = .ok (.tuple #[.nilIface, .bool false]) w := run_typeAssert_lacksB Tryd.underlying142 (by kernel_rfl) (by kernel_rfl) v xT w
theorem hasUnF (v : Value) (xT : TypeId) (w : World) : (Instr.typeAssert (.iface 145 v) xT 140 true).run Tryd.prog w = .ok (.tuple #[.iface 145 v, .bool true]) w := run_typeAssert_hasB Tryd.underlying140 (by kernel_rfl) v xT w
theorem methodUnF (v : Value) (w : World) : (Go.method 286 145 v "Unwrap").run Tryd.prog w = .ok (120, v) w := by kernel_rfl

end Go.Proofs.YtbfgpghfofmanaaDoor
