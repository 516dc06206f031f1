/-
  make([]T, n): the new block, as records. No program stands here.
-/
import Derived.Test.YtbfgpghfofmanaaDoorRec
import Derived.Laws.MakeOwn
import Derived.OwnWalk
namespace Go.Proofs.YtbfgpghfofmanaaDoor
open Go.RowKit

theorem madeCells_flat {α : Type} (g : α → List Value) (x : α) (k : Nat) (hk : (g x).length = k) (hk0 : 0 < k) (n : Nat) : madeCells (g x).toArray (n * k) = (flat g (List.replicate n x)).toArray := by
  apply Array.ext_getElem?
  intro i
  simp only [madeCells, Array.getElem?_map, Array.getElem?_range, List.getElem?_toArray, List.size_toArray, hk]
  have hlen : (flat g (List.replicate n x)).length = n * k := by
    have := flat_length (g := fun (_ : Unit) => g x) (k := k) (fun _ => hk) (List.replicate n ())
    simp only [flat, List.length_replicate, List.flatMap_replicate] at this ⊢
    exact this
  by_cases hi : i < n * k
  · rw [if_pos hi, Option.map_some]
    have hq : i / k < n := Nat.div_lt_of_lt_mul (by rw [Nat.mul_comm]; exact hi)
    have h1 := flat_get (g := fun (_ : Unit) => g x) (k := k) (fun _ => hk) (l := List.replicate n ()) (i := i / k) (x := ()) (by simp [hq]) (j := i % k) (Nat.mod_lt _ hk0)
    have h2 : flat (fun (_ : Unit) => g x) (List.replicate n ()) = flat g (List.replicate n x) := by simp [flat, List.flatMap_replicate]
    rw [h2, Nat.mul_comm, Nat.div_add_mod] at h1
    rw [h1, List.getElem?_eq_getElem (by rw [hk]; exact Nat.mod_lt _ hk0)]
    congr 1
    rw [getElem!_pos _ _ (by simp [hk]; exact Nat.mod_lt _ hk0)]
    simp
  · rw [if_neg hi, List.getElem?_eq_none (by omega)]
    rfl

/-- make([]T, n) at a number that is not too great. -/
theorem run_make_flat {P : Program} {α : Type} (g : α → List Value) (x : α) (k bytes : Nat) (hk : (g x).length = k) (hk0 : 0 < k) (t e : TypeId) (z : Value) (hz : z.cells = (g x).toArray)
    (ht : P.underlying t = some (.slice e)) (hinfo : (P.info? e).map (fun i => (i.zero, i.size, i.bytes)) = some (some z, k, bytes)) (hb : bytes ≤ 100000) (n : Nat) (hn : n ≤ 100000) (w : World) :
    (Instr.makeSlice t (.int .i64 n) (.int .i64 n)).run P w = .ok (.slice (some ⟨w.heap.size, 0, none⟩) n n) (w.alloc (.cells (flat g (List.replicate n x)).toArray e)) := by
  obtain ⟨i, hi, hz0, hz1, hz2⟩ := info_parts hinfo
  have hm : bytes * n ≤ 100000 * 100000 := Nat.mul_le_mul hb hn
  have hm2 : ((bytes * n : Nat) : Int) ≤ ((100000 * 100000 : Nat) : Int) := Int.ofNat_le.2 hm
  rw [Int.natCast_mul] at hm2
  have h := run_make (P := P) w t e i z ht hi hz0 .i64 .i64 n n (by omega) (by omega) (by rw [hz2]; omega) (by omega)
  rw [hz, Int.toNat_natCast, hz1, madeCells_flat g x k hk hk0] at h
  exact h
end Go.Proofs.YtbfgpghfofmanaaDoor
