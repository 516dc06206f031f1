/-
  '==', '!=' on arrays of integers. No program stands here.
-/
import Derived.Laws.StructEq
import Derived.WalkKit
namespace Go.Proofs.YtbfgpghfofmanaaDoor
open Go

theorem part_int {P : Program} (w : World) (elem : TypeId) (k : IntKind) (he : P.underlying elem = some (.int k)) (xs : List Int) (i : Nat) (hi : i < xs.length) :
    (part elem (xs.map (Value.int k)).toArray i).run P w = .ok (.int k (xs.getD i 0)) w := by
  have hag : (isAgg elem).run P w = .ok false w := by
    unfold isAgg; rw [Sem.run_bind, run_underlying he]; rfl
  unfold part
  rw [Sem.run_bind, hag]
  simp [hi, Result.andThen]

theorem eqArr_loop {P : Program} (w : World) (d : Nat) (elem : TypeId) (k : IntKind) (he : P.underlying elem = some (.int k)) (xs ys : List Int) (len : Nat) (hx : xs.length = len) (hy : ys.length = len) :
    ∀ m s, s + m ≤ len → (forIn (List.range' s m) ((none : Option Bool), ()) fun i (_ : Option Bool × Unit) => (do
      let a ← part elem (xs.map (Value.int k)).toArray (i * 1)
      let b ← part elem (ys.map (Value.int k)).toArray (i * 1)
      let r ← Op.equalIn (d + 1) elem a b
      if (!r) = true then pure (ForInStep.done (some false, ())) else pure (ForInStep.yield (none, ())) : Sem (ForInStep (Option Bool × Unit)))).run P w =
      .ok (if (xs.drop s).take m = (ys.drop s).take m then (none, ()) else (some false, ())) w
  | 0, s, _ => by simp
  | m + 1, s, hs => by
    rw [List.range'_succ, List.forIn_cons]
    have h1 := part_int (P := P) w elem k he xs s (by omega)
    have h2 := part_int (P := P) w elem k he ys s (by omega)
    have h3 := run_equalIn_int (P := P) w d elem k k (xs.getD s 0) (ys.getD s 0) he
    have ex : (xs.drop s).take (m + 1) = xs.getD s 0 :: (xs.drop (s + 1)).take m := by
      rw [List.drop_eq_getElem_cons (by omega : s < xs.length), List.take_succ_cons]
      simp [show s < xs.length by omega]
    have ey : (ys.drop s).take (m + 1) = ys.getD s 0 :: (ys.drop (s + 1)).take m := by
      rw [List.drop_eq_getElem_cons (by omega : s < ys.length), List.take_succ_cons]
      simp [show s < ys.length by omega]
    have hp : ∀ (z : Value) (zs : List Int), (Sem.bind (part elem (zs.map (Value.int k)).toArray (s * 1)) fun a => Sem.pure a) = part elem (zs.map (Value.int k)).toArray s → True := fun _ _ _ => trivial
    simp only [Sem.run_bind, Nat.mul_one, h1, h2, Result.andThen_ok, h3]
    by_cases heq : xs.getD s 0 = ys.getD s 0
    · rw [heq]
      simp only [beq_self_eq_true, Bool.not_true, Bool.false_eq_true, if_false, Sem.run_pure, Result.andThen_ok]
      have ih := eqArr_loop (P := P) w d elem k he xs ys len hx hy m (s + 1) (by omega)
      simp only [Nat.mul_one] at ih
      rw [ih, ex, ey, heq]
      simp
    · have hb : (xs.getD s 0 == ys.getD s 0) = false := by simpa using heq
      rw [hb]
      simp only [Bool.not_false, if_true, Sem.run_pure, Result.andThen_ok]
      rw [ex, ey, if_neg]
      intro h
      injection h with h _
      exact heq h

theorem run_equalIn_arr {P : Program} (w : World) (d : Nat) (t elem : TypeId) (len : Nat) (k : IntKind) (ht : P.underlying t = some (.array len elem)) (he : P.underlying elem = some (.int k)) (hi : (P.info? elem).map (·.size) = some 1)
    (xs ys : List Int) (hx : xs.length = len) (hy : ys.length = len) :
    (Op.equalIn (d + 2) t (.agg (xs.map (Value.int k)).toArray) (.agg (ys.map (Value.int k)).toArray)).run P w = .ok (decide (xs = ys)) w := by
  cases hq : P.info? elem with
  | none => simp [hq] at hi
  | some i =>
    have hs : i.size = 1 := by simpa [hq] using hi
    have hsz : (Go.sizeOf elem).run P w = .ok 1 w := by
      unfold Go.sizeOf typeInfo
      simp [hq, hs]
    rw [Op.equalIn]
    simp only [Sem.run_bind, run_underlying ht, Result.andThen_ok, hsz]
    rw [Std.Legacy.Range.forIn_eq_forIn_range']
    have h := eqArr_loop (P := P) w d elem k he xs ys len hx hy len 0 (by omega)
    simp only [Std.Legacy.Range.size, Nat.sub_zero, Nat.add_sub_cancel, Nat.div_one] at h ⊢
    rw [h]
    simp only [List.drop_zero, Result.andThen_ok]
    rw [List.take_of_length_le (by omega), List.take_of_length_le (by omega)]
    by_cases e : xs = ys
    · subst e; simp
    · simp [e]

theorem run_neq_arr {P : Program} (w : World) (t elem : TypeId) (len : Nat) (k : IntKind) (ht : P.underlying t = some (.array len elem)) (he : P.underlying elem = some (.int k)) (hi : (P.info? elem).map (·.size) = some 1)
    (xs ys : List Int) (hx : xs.length = len) (hy : ys.length = len) :
    (binOp .neq t (.agg (xs.map (Value.int k)).toArray) (.agg (ys.map (Value.int k)).toArray)).run P w = .ok (.bool (decide (xs ≠ ys))) w := by
  rw [run_neq_struct, run_equalIn_arr (P := P) w 9998 t elem len k ht he hi xs ys hx hy]
  simp [Result.andThen]
theorem run_eql_arr {P : Program} (w : World) (t elem : TypeId) (len : Nat) (k : IntKind) (ht : P.underlying t = some (.array len elem)) (he : P.underlying elem = some (.int k)) (hi : (P.info? elem).map (·.size) = some 1)
    (xs ys : List Int) (hx : xs.length = len) (hy : ys.length = len) :
    (binOp .eql t (.agg (xs.map (Value.int k)).toArray) (.agg (ys.map (Value.int k)).toArray)).run P w = .ok (.bool (decide (xs = ys))) w := by
  rw [run_eql_struct, run_equalIn_arr (P := P) w 9998 t elem len k ht he hi xs ys hx hy]
  simp [Result.andThen]
end Go.Proofs.YtbfgpghfofmanaaDoor
