/-
  Package frames: New. The law's fair.
-/
import Derived.Test.YtbfgpghfofmanaaDoorFramesC
namespace Go.Proofs.YtbfgpghfofmanaaDoor
open Go.RowKit

def pgZ : PG := ⟨zeroP, zeroP, rfl, rfl⟩
def hdZ : HD := ⟨List.replicate 8 0, rfl⟩
def pgZv : Value := .agg (gpg pgZ).toArray
def hdZv : Value := .agg (ghd hdZ).toArray
theorem gpage_info3 : (Tryd.prog.info? 79).map (fun i => (i.zero, i.size, i.bytes)) = some (some pgZv, 64, 64) := by kernel_rfl
theorem ghead_info3 : (Tryd.prog.info? 52).map (fun i => (i.zero, i.size, i.bytes)) = some (some hdZv, 8, 64) := by kernel_rfl

/-- Frames that hold nothing. -/
def newFs (n : Nat) : List CF := List.replicate n ⟨-1, false, 0⟩

theorem newFs_len (n : Nat) : (newFs n).length = n := by simp [newFs]
theorem blk_new1 (w : World) (X : Obj) (t : TypeId) (cs : Array Value) : Blk ((w.alloc X).alloc (.cells cs t)) (w.heap.size + 1) t cs := by
  have h := Blk.new (w.alloc X) t cs
  rwa [show (w.alloc X).heap.size = w.heap.size + 1 from by simp] at h
theorem blk_new2 (w : World) (X Y : Obj) (t : TypeId) (cs : Array Value) : Blk (((w.alloc X).alloc Y).alloc (.cells cs t)) (w.heap.size + 1 + 1) t cs := by
  have h := Blk.new ((w.alloc X).alloc Y) t cs
  rwa [show ((w.alloc X).alloc Y).heap.size = w.heap.size + 1 + 1 from by simp] at h

set_option maxRecDepth 100000 in
theorem frames_New_ok (n : Nat) (w : World) (h1 : 1 ≤ n) (h2 : n ≤ 16) :
    Calls Tryd.prog 5 #[.int .i64 n] w fun e w' => ∃ f c fb pb hb, e = .returned (.tuple #[.pointer (some ⟨f, 0, none⟩), .int .i64 0]) ∧ FramesAt w' f c fb pb hb (newFs n) 0 (List.replicate n pgZ) (List.replicate n hdZ) ∧ Only [] w w' ∧ (∀ b ∈ ffp f c fb pb hb, w.heap.size ≤ b) := by
  have H := Lib.hid (clock_New_ok n w h1 h2)
  obtain ⟨PL, hPL⟩ : ∃ l, Hid ((flat gpg (List.replicate n pgZ)).toArray = l) := ⟨_, Lib.hid rfl⟩
  obtain ⟨HL, hHL⟩ : ∃ l, Hid ((flat ghd (List.replicate n hdZ)).toArray = l) := ⟨_, Lib.hid rfl⟩
  have hmk1 := fun w => run_make_flat (P := Tryd.prog) gpg pgZ 64 64 (gpg_len _) (by omega) 69 79 _ rfl Tryd.underlying69 gpage_info3 (by omega) n (by omega) w
  have hmk2 := fun w => run_make_flat (P := Tryd.prog) ghd hdZ 8 64 (ghd_len _) (by omega) 70 52 _ rfl Tryd.underlying70 ghead_info3 (by omega) n (by omega) w
  rw [hPL.out] at hmk1
  rw [hHL.out] at hmk2
  have HN := Lib.hid (And.intro h1 h2)
  clear h1 h2
  go_enter Tryd.func5, Tryd.ntmps5
  go_wp2_with fail
  refine H.out.mono ?_
  rintro e w1 ⟨c, fb, rfl, hC, ho, hc, hfb⟩
  have HC := Lib.hid hC
  have HO := Lib.hid ho
  have HL1 := Lib.hid (And.intro hc hfb)
  clear hC ho hc hfb H
  go_wp2_with fail
  refine wp_region_C 9 (fun _ => True) (by kernel_rfl) ?_
  refine wpAnyC_take 0 (v := ?_) rfl (by kernel_rfl) (fun _ _ _ h => h) (by rfl) ?_ trivial ?_
  rotate_left
  · ((intro w hS; clear hS; go_simp) <;> with_reducible rfl)
  refine wpAnyC_take 1 (v := ?_) rfl (by kernel_rfl) (fun _ _ _ h => h) (by rfl) ?_ trivial ?_
  rotate_left
  · ((intro w hS; clear hS; go_simp) <;> with_reducible rfl)
  refine wpAnyC_take 3 (v := ?_) rfl (by kernel_rfl) (fun _ _ _ h => h) (by rfl) ?_ trivial ?_
  rotate_left
  · ((intro w hS; clear hS; go_simp) <;> with_reducible rfl)
  refine wpAnyC_two (i := 2) (j := 4) (by kernel_rfl) rfl rfl (fun K hK => ?_) (fun K hK => ?_)
  · go_simp
    refine hK _ _ (fun _ => trivial) ?_; clear hK K
    refine wpAnyC_one (i := 4) (by kernel_rfl) rfl (fun K hK => ?_)
    go_simp
    refine hK _ _ (fun _ => trivial) ?_; clear hK K
    refine wpAnyC_one (i := 5) (by kernel_rfl) rfl (fun K hK => ?_)
    go_simp
    refine hK _ _ (fun _ => trivial) ?_; clear hK K
    refine wpAnyC_one (i := 6) (by kernel_rfl) rfl (fun K hK => ?_)
    go_simp
    refine hK _ _ (fun _ => trivial) ?_; clear hK K
    refine wpAnyC_one (i := 7) (by kernel_rfl) rfl (fun K hK => ?_)
    go_simp
    refine hK _ _ (fun _ => trivial) ?_; clear hK K
    refine wpAnyC_one (i := 8) (by kernel_rfl) rfl (fun K hK => ?_)
    go_simp
    refine hK _ _ (fun _ => trivial) ?_; clear hK K
    refine wpAnyC_done (by kernel_rfl) ?_ _
    go_wp2_with fail
    go_ret2
    have hO3 : Only [] w1 (((w1.alloc (.cells PL 79)).alloc (.cells HL 52)).alloc (.cells #[.pointer (some ⟨c, 0, none⟩), .slice (some ⟨w1.heap.size, 0, none⟩) n n, .slice (some ⟨(w1.heap.size + 1), 0, none⟩) n n] 72)).drew := ((((Only.refl [] w1).alloc _).alloc _).alloc _).drew
    refine ⟨w1.heap.size + 1 + 1, c, fb, w1.heap.size, (w1.heap.size + 1), rfl, ⟨by rw [newFs_len]; exact blk_new2 w1 _ _ _ _, HC.out.only hO3 (by simp) (by simp), by rw [hPL.out]; exact ((Blk.new w1 _ _).alloc _).alloc _, by rw [hHL.out]; exact (blk_new1 w1 _ _ _).alloc _, by simp [newFs], by simp [newFs]⟩, HO.out.trans hO3 (by simp), ?_⟩
    have := HO.out.size
    have := HL1.out
    intro b hb
    simp only [ffp, List.mem_cons, List.not_mem_nil, or_false] at hb
    omega
  · go_simp
    refine hK _ _ (fun _ => trivial) ?_; clear hK K
    refine wpAnyC_one (i := 2) (by kernel_rfl) rfl (fun K hK => ?_)
    go_simp
    refine hK _ _ (fun _ => trivial) ?_; clear hK K
    refine wpAnyC_one (i := 5) (by kernel_rfl) rfl (fun K hK => ?_)
    go_simp
    refine hK _ _ (fun _ => trivial) ?_; clear hK K
    refine wpAnyC_one (i := 6) (by kernel_rfl) rfl (fun K hK => ?_)
    go_simp
    refine hK _ _ (fun _ => trivial) ?_; clear hK K
    refine wpAnyC_one (i := 7) (by kernel_rfl) rfl (fun K hK => ?_)
    go_simp
    refine hK _ _ (fun _ => trivial) ?_; clear hK K
    refine wpAnyC_one (i := 8) (by kernel_rfl) rfl (fun K hK => ?_)
    go_simp
    refine hK _ _ (fun _ => trivial) ?_; clear hK K
    refine wpAnyC_done (by kernel_rfl) ?_ _
    go_wp2_with fail
    go_ret2
    have hO3 : Only [] w1 (((w1.alloc (.cells HL 52)).alloc (.cells PL 79)).alloc (.cells #[.pointer (some ⟨c, 0, none⟩), .slice (some ⟨(w1.heap.size + 1), 0, none⟩) n n, .slice (some ⟨w1.heap.size, 0, none⟩) n n] 72)).drew := ((((Only.refl [] w1).alloc _).alloc _).alloc _).drew
    refine ⟨w1.heap.size + 1 + 1, c, fb, (w1.heap.size + 1), w1.heap.size, rfl, ⟨by rw [newFs_len]; exact blk_new2 w1 _ _ _ _, HC.out.only hO3 (by simp) (by simp), by rw [hPL.out]; exact (blk_new1 w1 _ _ _).alloc _, by rw [hHL.out]; exact ((Blk.new w1 _ _).alloc _).alloc _, by simp [newFs], by simp [newFs]⟩, HO.out.trans hO3 (by simp), ?_⟩
    have := HO.out.size
    have := HL1.out
    intro b hb
    simp only [ffp, List.mem_cons, List.not_mem_nil, or_false] at hb
    omega

/-! ### A slice of steps that the law reads -/
end Go.Proofs.YtbfgpghfofmanaaDoor
