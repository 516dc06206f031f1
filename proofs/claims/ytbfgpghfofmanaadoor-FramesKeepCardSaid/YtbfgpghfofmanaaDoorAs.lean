/-
  errors.As at a number ('var e api.Errno; errors.As(err, &e)'), for chains of faults of whatever depth. (After the guide's worked text ToyasAs.)
-/
import Derived.Test.YtbfgpghfofmanaaDoorErr
namespace Go.Proofs.YtbfgpghfofmanaaDoor
open Go.RowKit Go.Extern.Stop Go.Stop Go.Extern

/-! closed facts on the model's entries for internal/reflectlite, at this program's types -/
theorem asValueOfT (t : Addr) (w : World) : (ReflectliteValue.unpack (.iface 102 (.pointer (some t)))).run Tryd.prog w
    = .ok (.agg #[.pointer (some ⟨1, 102, none⟩), .pointer (some ⟨w.heap.size, 0, none⟩), .int .u64 150]) (w.alloc (.cells #[.pointer (some t)] 102)) := by kernel_rfl
theorem asTypeT (a : Addr) (w : World) : (ReflectliteValue.methodAny (ReflectliteValue.valueError "reflectlite.Value.Type" 0) (fun t _ _ _ => ReflectliteType.toType t) #[.agg #[.pointer (some ⟨1, 102, none⟩), .pointer (some a), .int .u64 150]]).run Tryd.prog w
    = .ok (.iface 132 (.agg #[.pointer (some ⟨1, 102, none⟩)])) w := by kernel_rfl
theorem asMethodKind (h : Value) (w : World) : (Go.method 286 132 (.agg #[h]) "Kind").run Tryd.prog w = .ok (99, h) w := by kernel_rfl
theorem asKindT (w : World) : ((ReflectliteType.abiMethod fun t => (fun a : Nat => Value.int IntKind.u8 (a : Int)) <$> Rtype.kind t) #[.pointer (some ⟨1, 102, none⟩)]).run Tryd.prog w = .ok (.int .u8 22) w := by kernel_rfl
theorem asKindE (w : World) : ((ReflectliteType.abiMethod fun t => (fun a : Nat => Value.int IntKind.u8 (a : Int)) <$> Rtype.kind t) #[.pointer (some ⟨1, 24, none⟩)]).run Tryd.prog w = .ok (.int .u8 2) w := by kernel_rfl

theorem asRlm (z : Sem Value) (f : TypeId → Addr → Nat → Nat → Sem Value) (v : Value) :
    ReflectliteValue.method z f #[v] = (do match ← ReflectliteValue.parts v with | none => z | some (t, a, fl) => f t a fl (fl % 32)) := rfl
theorem asPartsT (a : Addr) (w : World) : (ReflectliteValue.parts (.agg #[.pointer (some ⟨1, 102, none⟩), .pointer (some a), .int .u64 150])).run Tryd.prog w = .ok (some (102, a, 150)) w := by kernel_rfl
/-- (Value).IsNil at the Value of a pointer that is not nil. -/
theorem asIsNilT (a p : Addr) (W : World) (ha : W.cell? a = some (.pointer (some p))) :
    (ReflectliteValue.method (ReflectliteValue.valueError "reflectlite.Value.IsNil" 0) ReflectliteValue.isNil #[.agg #[.pointer (some ⟨1, 102, none⟩), .pointer (some a), .int .u64 150]]).run Tryd.prog W = .ok (.bool false) W := by
  rw [asRlm]
  simp only [Sem.run_bind, asPartsT, Result.andThen]
  simp [ReflectliteValue.isNil, loadVar, isAgg, underlying, Tryd.underlying102, ha, Result.andThen]
theorem asMethodElem (h : Value) (w : World) : (Go.method 286 132 (.agg #[h]) "Elem").run Tryd.prog w = .ok (111, .agg #[h]) w := by kernel_rfl
theorem asMethodImplements (h : Value) (w : World) : (Go.method 286 132 (.agg #[h]) "Implements").run Tryd.prog w = .ok (112, .agg #[h]) w := by kernel_rfl
theorem asMethodAssignableTo (h : Value) (w : World) : (Go.method 286 132 (.agg #[h]) "AssignableTo").run Tryd.prog w = .ok (109, .agg #[h]) w := by kernel_rfl
theorem asElemT (w : World) : (ReflectliteType.method ReflectliteType.elem #[.agg #[.pointer (some ⟨1, 102, none⟩)]]).run Tryd.prog w = .ok (.iface 132 (.agg #[.pointer (some ⟨1, 24, none⟩)])) w := by kernel_rfl
theorem asImplementsE (w : World) : (ReflectliteType.relation "Implements" ReflectliteType.implements_ #[.agg #[.pointer (some ⟨1, 24, none⟩)], .iface 132 (.agg #[.pointer (some ⟨1, 100, none⟩)])]).run Tryd.prog w = .ok (.bool true) w := by kernel_rfl
theorem asTypeOfE (v : Value) (w : World) : (ReflectliteType.typeOf #[.iface 24 v]).run Tryd.prog w = .ok (.iface 132 (.agg #[.pointer (some ⟨1, 24, none⟩)])) w := by kernel_rfl
theorem asTypeOfF (v : Value) (w : World) : (ReflectliteType.typeOf #[.iface 145 v]).run Tryd.prog w = .ok (.iface 132 (.agg #[.pointer (some ⟨1, 145, none⟩)])) w := by kernel_rfl
theorem asAssignableE (w : World) : (ReflectliteType.relation "AssignableTo" ReflectliteType.assignableTo #[.agg #[.pointer (some ⟨1, 24, none⟩)], .iface 132 (.agg #[.pointer (some ⟨1, 24, none⟩)])]).run Tryd.prog w = .ok (.bool true) w := by kernel_rfl
theorem asAssignableF (w : World) : (ReflectliteType.relation "AssignableTo" ReflectliteType.assignableTo #[.agg #[.pointer (some ⟨1, 145, none⟩)], .iface 132 (.agg #[.pointer (some ⟨1, 24, none⟩)])]).run Tryd.prog w = .ok (.bool false) w := by kernel_rfl
theorem asValueOfE (k : Int) (w : World) : (ReflectliteValue.unpack (.iface 24 (.int .i64 k))).run Tryd.prog w
    = .ok (.agg #[.pointer (some ⟨1, 24, none⟩), .pointer (some ⟨w.heap.size, 0, none⟩), .int .u64 130]) (w.alloc (.cells #[.int .i64 k] 24)) := by kernel_rfl
theorem asElemOfT (w : World) : (Rtype.elem? 102).run Tryd.prog w = .ok (some 24) w := by kernel_rfl
theorem asMkE (p : Addr) (w : World) : (ReflectliteValue.mk 24 p ReflectliteValue.flagAddr).run Tryd.prog w = .ok (.agg #[.pointer (some ⟨1, 24, none⟩), .pointer (some p), .int .u64 386]) w := by kernel_rfl
/-- (Value).Elem at the Value of a pointer that is not nil: the Value of the variable that it points to, addressable. -/
theorem asElemVT (a p : Addr) (W : World) (ha : W.cell? a = some (.pointer (some p))) :
    (ReflectliteValue.method (ReflectliteValue.valueError "reflectlite.Value.Elem" 0) ReflectliteValue.elem #[.agg #[.pointer (some ⟨1, 102, none⟩), .pointer (some a), .int .u64 150]]).run Tryd.prog W
      = .ok (.agg #[.pointer (some ⟨1, 24, none⟩), .pointer (some p), .int .u64 386]) W := by
  rw [asRlm]
  simp only [Sem.run_bind, asPartsT, Result.andThen]
  simp [ReflectliteValue.elem, loadVar, isAgg, underlying, Tryd.underlying102, ha, Result.andThen, asElemOfT, asMkE]
theorem asRls (v x : Value) : ReflectliteValue.set #[v, x] = (do
    let (some (dst, a, fl), some (src, b, _)) := (← ReflectliteValue.parts v, ← ReflectliteValue.parts x)
      | unsupported (.noEntry "extern/(internal/reflectlite.Value).Set.zeroValue")
    if fl / ReflectliteValue.flagAddr % 2 == 0 then unsupported (.noEntry "extern/(internal/reflectlite.Value).Set.unaddressable")
    let val ← loadVar src b
    if ← Rtype.directlyAssignable dst src then storeVar dst a val
    else if ← Rtype.implements dst src then
      if (← Rtype.kind src) == 20 then
        match val with
        | .nilIface => unsupported (.noEntry "extern/reflectlite: a nil value of one interface type handed on as a value of another")
        | _ => storeVar dst a val
      else storeVar dst a (.iface src val)
    else panicString ("reflectlite.Set: value of type " ++ (← Rtype.spelt src) ++ " is not assignable to type " ++ (← Rtype.spelt dst))
    pure (.tuple #[])) := rfl
theorem asPartsEa (a : Addr) (w : World) : (ReflectliteValue.parts (.agg #[.pointer (some ⟨1, 24, none⟩), .pointer (some a), .int .u64 386])).run Tryd.prog w = .ok (some (24, a, 386)) w := by kernel_rfl
theorem asPartsE (a : Addr) (w : World) : (ReflectliteValue.parts (.agg #[.pointer (some ⟨1, 24, none⟩), .pointer (some a), .int .u64 130])).run Tryd.prog w = .ok (some (24, a, 130)) w := by kernel_rfl
theorem asDirectE (w : World) : (Rtype.directlyAssignable 24 24).run Tryd.prog w = .ok true w := by kernel_rfl
/-- (Value).Set: the number's variable at 'ta' gets what the Value's own variable 'b' holds. -/
theorem asSetE (ta b : Addr) (k : Int) (old : Value) (W : World) (hb : W.cell? b = some (.int .i64 k)) (ht : W.cell? ta = some old) (hf : W.frozen? ta = false) :
    (ReflectliteValue.set #[.agg #[.pointer (some ⟨1, 24, none⟩), .pointer (some ta), .int .u64 386], .agg #[.pointer (some ⟨1, 24, none⟩), .pointer (some b), .int .u64 130]]).run Tryd.prog W
      = .ok (.tuple #[]) (W.setCell ta (.int .i64 k)) := by
  rw [asRls]
  simp only [Sem.run_bind, asPartsEa, asPartsE, Result.andThen]
  simp [ReflectliteValue.flagAddr, loadVar, isAgg, underlying, Tryd.underlying24, hb, Result.andThen, asDirectE, storeVar, Value.cells, storeCells, Addr.add]
  rw [run_store Tryd.prog W ta _ _ (by rfl)]
  simp [ht, hf]
theorem noAsF (v : Value) (xT : TypeId) (w : World) : (Instr.typeAssert (.iface 145 v) xT 137 true).run Tryd.prog w = .ok (.tuple #[.nilIface, .bool false]) w := run_typeAssert_lacksB Tryd.underlying137 (by kernel_rfl) (by kernel_rfl) v xT w

/-- Behind errors.As: the number's variable holds the number; else new blocks alone. -/
def AsPost (w w2 : World) (t : Addr) (k : Int) : Prop := ∃ w1, Only [] w w1 ∧ w2 = w1.setCell t (.int .i64 k)

set_option maxRecDepth 100000 in
set_option maxHeartbeats 4000000 in
theorem errors_as_any (k : Int) (d : Nat) (v : Value) (t x : Addr) (old : Value) (w : World) (hv : ErrAt w k d v) (hx : w.cell? x = some (.pointer (some t))) (ht : w.cell? t = some old) (hf : w.frozen? t = false) :
    Calls Tryd.prog 61 #[v, .iface 102 (.pointer (some t)), .agg #[.pointer (some ⟨1, 102, none⟩), .pointer (some x), .int .u64 150], .iface 132 (.agg #[.pointer (some ⟨1, 24, none⟩)])] w
      fun e w' => e = .returned (.bool true) ∧ AsPost w w' t k := by
  have hTo := @run_callFunc_extern Tryd.prog 75 _ Extern.ReflectliteType.typeOf Tryd.func75 (by kernel_rfl) (by kernel_rfl) (by kernel_rfl) (by kernel_rfl)
  have hVo := @run_callFunc_extern Tryd.prog 58 _ (fun args => ReflectliteValue.unpack (args.getD 0 (.tuple #[]))) Tryd.func58 (by kernel_rfl) (by kernel_rfl) (by kernel_rfl) (by kernel_rfl)
  have hEl := @run_callFunc_extern Tryd.prog 76 _ (ReflectliteValue.method (ReflectliteValue.valueError "reflectlite.Value.Elem" 0) ReflectliteValue.elem) Tryd.func76 (by kernel_rfl) (by kernel_rfl) (by kernel_rfl) (by kernel_rfl)
  have hSe := @run_callFunc_extern Tryd.prog 77 _ ReflectliteValue.set Tryd.func77 (by kernel_rfl) (by kernel_rfl) (by kernel_rfl) (by kernel_rfl)
  have hAs := @run_callFunc_extern Tryd.prog 109 _ (ReflectliteType.relation "AssignableTo" ReflectliteType.assignableTo) Tryd.func109 (by kernel_rfl) (by kernel_rfl) (by kernel_rfl) (by kernel_rfl)
  have tE := asTypeOfE
  have tF := asTypeOfF
  have mA := asMethodAssignableTo
  have aE := asAssignableE
  have aF := asAssignableF
  have vE := asValueOfE
  have nF := noAsF
  have uF := hasUnF
  have mF := methodUnF
  have lx := World.block_lt_of_cell? w x hx
  have lt := World.block_lt_of_cell? w t ht
  have hx1 := fun o => (World.cell?_alloc_lt w o x lx).trans hx
  have ht1 := fun o => (World.cell?_alloc_lt w o t lt).trans ht
  have hf1 := fun o => (frozen_alloc_lt w o t lt).trans hf
  have HV := Lib.hid fun o => hv.alloc (w := w) o
  clear hv hx ht hf
  go_enter Tryd.func61, Tryd.ntmps61
  go_wp2_with fail
  go_loopg [0] d (fun gk v wr => w.alloc (.cells #[.pointer (some ⟨1, 102, none⟩), .pointer (some x), .int .u64 150] 109) = wr ∧ ErrAt wr k gk v)
  case atStart => exact ⟨rfl, HV.out _⟩
  case round =>
    obtain ⟨rfl, hv⟩ := hrel
    cases gk with
    | zero =>
      obtain rfl : _ = _ := hv
      have el := asElemVT x t _ (hx1 (.cells #[.pointer (some ⟨1, 102, none⟩), .pointer (some x), .int .u64 150] 109))
      have st := asSetE t ⟨w.heap.size + 1, 0, none⟩ k old ((w.alloc (.cells #[.pointer (some ⟨1, 102, none⟩), .pointer (some x), .int .u64 150] 109)).alloc (.cells #[.int .i64 k] 24))
        (by rw [World.cell?_alloc_at _ _ _ _ (by simp)]; rfl)
        (by rw [World.cell?_alloc_lt _ _ t (by simp; omega)]; exact ht1 _)
        (by rw [frozen_alloc_lt _ _ t (by simp; omega)]; exact hf1 _)
      clear hx1 ht1 hf1 HV
      go_wp2
      go_ret
      exact ⟨rfl, _, (((Only.refl [] w).alloc _).alloc _), rfl⟩
    | succ d2 =>
      obtain ⟨b, s, u, wr2, rfl, hb, hu⟩ := hv
      have hc := hb.cell 1
      simp at hc
      have HU := Lib.hid hu
      obtain ⟨t2, x2, rfl⟩ := hu.iface
      clear hu hb hx1 ht1 hf1 HV
      go_wp2
      go_roundg d2
      case measure => omega
      case rel => exact ⟨rfl, HU.out⟩

set_option maxRecDepth 100000 in
set_option maxHeartbeats 4000000 in
theorem errors_As_any (k : Int) (d : Nat) (v : Value) (t : Addr) (old : Value) (w : World) (hg : w.cell? ⟨0, 0, none⟩ = some (.iface 132 (.agg #[.pointer (some ⟨1, 100, none⟩)]))) (hv : ErrAt w k d v) (ht : w.cell? t = some old) (hf : w.frozen? t = false) :
    Calls Tryd.prog 53 #[v, .iface 102 (.pointer (some t))] w fun e w' => e = .returned (.bool true) ∧ AsPost w w' t k := by
  have hVo := @run_callFunc_extern Tryd.prog 58 _ (fun args => ReflectliteValue.unpack (args.getD 0 (.tuple #[]))) Tryd.func58 (by kernel_rfl) (by kernel_rfl) (by kernel_rfl) (by kernel_rfl)
  have hTy := @run_callFunc_extern Tryd.prog 59 _ (ReflectliteValue.methodAny (ReflectliteValue.valueError "reflectlite.Value.Type" 0) (fun t _ _ _ => ReflectliteType.toType t)) Tryd.func59 (by kernel_rfl) (by kernel_rfl) (by kernel_rfl) (by kernel_rfl)
  have hNi := @run_callFunc_extern Tryd.prog 60 _ (ReflectliteValue.method (ReflectliteValue.valueError "reflectlite.Value.IsNil" 0) ReflectliteValue.isNil) Tryd.func60 (by kernel_rfl) (by kernel_rfl) (by kernel_rfl) (by kernel_rfl)
  have hKi := @run_callFunc_extern Tryd.prog 99 _ (ReflectliteType.abiMethod fun t => do pure (.int .u8 (← Rtype.kind t))) Tryd.func99 (by kernel_rfl) (by kernel_rfl) (by kernel_rfl) (by kernel_rfl)
  have hEl := @run_callFunc_extern Tryd.prog 111 _ (ReflectliteType.method ReflectliteType.elem) Tryd.func111 (by kernel_rfl) (by kernel_rfl) (by kernel_rfl) (by kernel_rfl)
  have hIm := @run_callFunc_extern Tryd.prog 112 _ (ReflectliteType.relation "Implements" ReflectliteType.implements_) Tryd.func112 (by kernel_rfl) (by kernel_rfl) (by kernel_rfl) (by kernel_rfl)
  have f1 := asValueOfT
  have f2 := asTypeT
  have f3 := asMethodKind
  have f4 := asKindT
  have f5 := asKindE
  have f6 := asMethodElem
  have f7 := asMethodImplements
  have f8 := asElemT
  have f9 := asImplementsE
  have lg := World.block_lt_of_cell? w _ hg
  have lt := World.block_lt_of_cell? w t ht
  have hg1 := fun o => (World.cell?_alloc_lt w o ⟨0, 0, none⟩ lg).trans hg
  have hg2 := fun o o2 => (World.cell?_alloc_lt (w.alloc o) o2 ⟨0, 0, none⟩ (by simp)).trans (hg1 o)
  have n8 := fun o => asIsNilT ⟨w.heap.size, 0, none⟩ t ((w.alloc (.cells #[.pointer (some t)] 102)).alloc o) (by simp)
  have HV := Lib.hid fun o o2 => (hv.alloc (w := w) o).alloc o2
  have HT := Lib.hid (fun o o2 => (World.cell?_alloc_lt (w.alloc o) o2 t (by simp; omega)).trans ((World.cell?_alloc_lt w o t lt).trans ht))
  have HF := Lib.hid (fun o o2 => (frozen_alloc_lt (w.alloc o) o2 t (by simp; omega)).trans ((frozen_alloc_lt w o t lt).trans hf))
  obtain ⟨t2, x2, rfl⟩ := hv.iface
  clear hv ht hf hg lg lt hg1
  go_enter Tryd.func53, Tryd.ntmps53
  go_wp2_with fail
  refine (errors_as_any k d _ t ⟨w.heap.size, 0, none⟩ old _ (HV.out _ _) (by simp) (HT.out _ _) (HF.out _ _)).mono ?_
  rintro e w' ⟨rfl, w1, ho, hw⟩
  have HO := Lib.hid ho
  have HW := Lib.hid hw
  clear ho hw
  go_wp2_with fail
  go_ret
  exact ⟨rfl, w1, (((Only.refl [] w).alloc _).alloc _).trans HO.out (by simp), HW.out⟩

/-- errors.As(nil, target). -/
theorem errors_As_nil (t : Value) (w : World) :
    Calls Tryd.prog 53 #[.nilIface, t] w fun e w' => e = .returned (.bool false) ∧ w = w' := by
  go_enter Tryd.func53, Tryd.ntmps53
  go_wp2
  go_ret
  exact ⟨rfl, rfl⟩
end Go.Proofs.YtbfgpghfofmanaaDoor
