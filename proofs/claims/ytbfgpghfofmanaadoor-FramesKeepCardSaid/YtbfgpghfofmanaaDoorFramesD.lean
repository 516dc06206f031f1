/-
  Package frames: Page, HoldMap, Map, Forget. Printed by gen_framesD.py.
-/
import Derived.Test.YtbfgpghfofmanaaDoorFramesC
namespace Go.Proofs.YtbfgpghfofmanaaDoor
open Go.RowKit

theorem page_build0 (w : World) : (Instr.build 32 #[]).run Tryd.prog w = .ok (.agg (by8 zeroP).toArray) w := by kernel_rfl

section
variable {w : World} {f c fb pb hb : Nat} {fs : List CF} {hand : Int} {ps : List PG} {hs : List HD}


set_option maxRecDepth 100000 in
theorem frames_Page_no (h : FramesAt w f c fb pb hb fs hand ps hs) (key : Int) (ht : fndR fs key 1 = .tuple #[.int .i64 0, .bool false]) :
    Calls Tryd.prog 15 #[.pointer (some ⟨f, 0, none⟩), .int .i64 key] w fun e w' => e = .returned (.tuple #[.agg (by8 zeroP).toArray, .agg (by8 zeroP).toArray, .bool false]) ∧ Only [] w w' := by
  obtain ⟨L, hL⟩ : ∃ L, Hid (by8 zeroP = L) := ⟨_, Lib.hid rfl⟩
  have hLl : Hid (L.length = 32) := by rw [← hL.out]; rfl
  have hal := page_zero
  have hbu := Lib.hid page_build0
  have hone : Hid (L.toArray.all (·.oneCell') = true) := by rw [← hL.out]; exact by8_one _
  rw [hL.out] at hal hbu
  rw [hL.out]
  have H := Lib.hid (frames_find (h.only (((Only.refl [] w).alloc (.cells L.toArray 32)).alloc (.cells L.toArray 32)) (by simp)) key 1)
  rw [ht] at H
  clear h ht
  go_enter Tryd.func15, Tryd.ntmps15
  go_wp2_with (refine wpList_alloc_as rfl 32 rfl L.toArray (hal _) ?_)
  clear hal
  refine H.out.mono ?_
  rintro e w2 ⟨rfl, ho⟩
  have hb0 : Blk w2 w.heap.size 32 L.toArray := ((Blk.new w _ _).alloc _).only ho (by simp)
  have hb1 : Blk w2 (w.heap.size + 1) 32 L.toArray := by
    have h := Blk.new (w.alloc (.cells L.toArray 32)) 32 L.toArray
    rw [show (w.alloc (.cells L.toArray 32)).heap.size = w.heap.size + 1 from by simp] at h
    exact h.only ho (by simp)
  have HO : Hid (Only [] w w2) := (((Only.refl [] w).alloc (.cells L.toArray 32)).alloc (.cells L.toArray 32)).trans ho (by simp)
  have HB0 := Lib.hid hb0
  have HB1 : Hid (Blk (w2.setCells w.heap.size 0 L) (w.heap.size + 1) 32 L.toArray) := hb1.only (setCells_only (b := w.heap.size) L 0 w2) (by simp)
  clear ho hb0 hb1 H
  go_wp2_with (first
    | (refine wpList_build_as rfl 32 rfl L.toArray (hbu.out _) ?_)
    | (refine wpList_store_mid rfl 32 _ _ rfl w.heap.size 0 L.toArray rfl rfl (HB0.out.there_ (by simp)) (by rw [gpage_size]; simp [hLl.out]) hone.out ?_)
    | (refine wpList_store_mid rfl 32 _ _ rfl (w.heap.size + 1) 0 L.toArray rfl rfl (HB1.out.there_ (by simp)) (by rw [gpage_size]; simp [hLl.out]) hone.out ?_))
  (try simp only [Exit.inBlock, Exit.then])
  refine bodyPost_ret (results_cct rfl _ _ w.heap.size (w.heap.size + 1) L L _ _ rfl rfl ((HB0.out.whole L rfl).only (setCells_only (b := w.heap.size + 1) L 0 _) (by simp)).range0 (HB1.out.whole L rfl).range0 Tryd.underlying32 rfl (by rw [gpage_size, hLl.out]) Tryd.underlying32 rfl (by rw [gpage_size, hLl.out])) rfl ?_
  exact ⟨rfl, (HO.out.setCells (.inr (Nat.le_refl _)) 0 L).setCells (.inr (Nat.le_succ _)) 0 L⟩


set_option maxRecDepth 100000 in
theorem frames_Page_ok (h : FramesAt w f c fb pb hb fs hand ps hs) (key : Int) (n : Nat) (p : PG) (ht : fndR fs key 1 = .tuple #[.int .i64 n, .bool true]) (hp : ps[n]? = some p) :
    Calls Tryd.prog 15 #[.pointer (some ⟨f, 0, none⟩), .int .i64 key] w fun e w' => e = .returned (.tuple #[.agg (by8 p.base).toArray, .agg (by8 p.now).toArray, .bool true]) ∧ Only [] w w' := by
  obtain ⟨L, hL⟩ : ∃ L, Hid (by8 zeroP = L) := ⟨_, Lib.hid rfl⟩
  have L0 : Hid (L.length = 32) := by rw [← hL.out]; rfl
  have L1 : Hid ((by8 p.base).length = 32) := by simp [Hid, by8, p.hb]
  have L2 : Hid ((by8 p.now).length = 32) := by simp [Hid, by8, p.hn]
  have hal := page_zero
  rw [hL.out] at hal
  have hn : n < fs.length := by rw [← h.np]; exact (List.getElem?_eq_some_iff.1 hp).1
  have hn0 : (0 : Int) ≤ n := by omega
  have hn1 : (n : Int) < fs.length := by omega
  have HP := Lib.hid hp
  have HQ : Hid (∀ b ∈ [w.heap.size], b ∉ ffp f c fb pb hb) := by
    have := h.hf.lt; have := h.hc.hc.lt; have := h.hc.hf.lt; have := h.hp.lt; have := h.hh.lt
    intro b hb
    simp only [List.mem_singleton] at hb
    subst hb
    simp only [ffp, List.mem_cons, List.not_mem_nil, or_false]
    omega
  have HC : Hid (FramesAt ((w.alloc (.cells L.toArray 32)).alloc (.cells L.toArray 32)) f c fb pb hb fs hand ps hs) := h.only (((Only.refl [] w).alloc (.cells L.toArray 32)).alloc (.cells L.toArray 32)) (by simp)
  have H := Lib.hid (frames_find HC.out key 1)
  rw [ht] at H
  clear h ht hp hn
  go_enter Tryd.func15, Tryd.ntmps15
  go_wp2_with (refine wpList_alloc_as rfl 32 rfl L.toArray (hal _) ?_)
  clear hal
  refine H.out.mono ?_
  rintro e w2 ⟨rfl, ho⟩
  have hb0 : Blk w2 w.heap.size 32 L.toArray := ((Blk.new w _ _).alloc _).only ho (by simp)
  have hb1 : Blk w2 (w.heap.size + 1) 32 L.toArray := by
    have h := Blk.new (w.alloc (.cells L.toArray 32)) 32 L.toArray
    rw [show (w.alloc (.cells L.toArray 32)).heap.size = w.heap.size + 1 from by simp] at h
    exact h.only ho (by simp)
  have hF := HC.out.only ho (by simp)
  have HO : Hid (Only [] w w2.drew) := ((((Only.refl [] w).alloc (.cells L.toArray 32)).alloc (.cells L.toArray 32)).trans ho (by simp)).drew
  obtain ⟨q0, hq0⟩ : ∃ q, Hid (w.heap.size = q) := ⟨_, Lib.hid rfl⟩
  obtain ⟨q1, hq1⟩ : ∃ q, Hid (w.heap.size + 1 = q) := ⟨_, Lib.hid rfl⟩
  have hne : q1 ≠ q0 := by rw [← hq0.out, ← hq1.out]; omega
  rw [hq0.out] at hb0 HQ
  rw [hq1.out] at hb1
  rw [hq1.out, hq0.out]
  have HB0 : Hid (Blk w2.drew q0 32 L.toArray) := hb0
  have HB1 : Hid (Blk (w2.drew.setCells q0 0 (by8 p.base)) q1 32 L.toArray) := Blk.only (w := w2.drew) hb1 (setCells_only (b := q0) (by8 p.base) 0 w2.drew) (by simpa using hne)
  have hF3 : FramesAt (w2.drew.setCells q0 0 (by8 p.base)) f c fb pb hb fs hand ps hs := (hF.only (F := []) (Only.refl _ _).drew (by simp)).only (setCells_only (b := q0) (by8 p.base) 0 w2.drew) HQ.out
  have h1 := hF.cell1
  have h2 := hF.base_ HP.out
  have h3 := hF.now_ HP.out
  have hS1 : Hid ((w2.drew.setCells q0 0 (by8 p.base)).cell? ⟨f, 1, none⟩ = some (.slice (some ⟨pb, 0, none⟩) fs.length fs.length) ∧ (w2.drew.setCells q0 0 (by8 p.base)).rangeAt pb (n * 64) (by8 p.base) ∧ (w2.drew.setCells q0 0 (by8 p.base)).rangeAt pb (n * 64 + 32) (by8 p.now)) := ⟨hF3.cell1, hF3.base_ HP.out, hF3.now_ HP.out⟩
  have HNE := Lib.hid hne
  have H2 := Lib.hid h2
  have H3 := Lib.hid h3
  clear ho hb0 hb1 H hF hF3 HC hne h2 h3
  go_wp2_with fail
  refine wp_region_C 17 (fun w' => w'.cell? ⟨f, 1, none⟩ = some (.slice (some ⟨pb, 0, none⟩) fs.length fs.length) ∧ w'.rangeAt pb (n * 64) (by8 p.base) ∧ w'.rangeAt pb (n * 64 + 32) (by8 p.now)) (by kernel_rfl) ?_
  have hS0 : w2.drew.cell? ⟨f, 1, none⟩ = some (.slice (some ⟨pb, 0, none⟩) fs.length fs.length) ∧ w2.drew.rangeAt pb (n * 64) (by8 p.base) ∧ w2.drew.rangeAt pb (n * 64 + 32) (by8 p.now) := ⟨h1, H2.out, H3.out⟩
  refine wpAnyC_take 0 (v := ?_) rfl (by kernel_rfl) (fun _ _ _ h => h) (by rfl) ?_ hS0 ?_
  rotate_left
  · ((intro w hS; clear hS; go_simp) <;> with_reducible rfl)
  refine wpAnyC_take 1 (v := ?_) rfl (by kernel_rfl) (fun _ _ _ h => h) (by rfl) ?_ hS0 ?_
  rotate_left
  · ((intro w hS; clear hS; go_simp) <;> with_reducible rfl)
  refine wpAnyC_take 2 (v := ?_) rfl (by kernel_rfl) (fun _ _ _ h => h) (by rfl) ?_ hS0 ?_
  rotate_left
  · ((intro w hS; clear hS; go_simp) <;> with_reducible rfl)
  refine wpAnyC_take 3 (v := ?_) rfl (by kernel_rfl) (fun _ _ _ h => h) (by rfl) ?_ hS0 ?_
  rotate_left
  · ((intro w hS; obtain ⟨h1, -, -⟩ := hS; go_simp) <;> with_reducible rfl)
  refine wpAnyC_take 4 (v := ?_) rfl (by kernel_rfl) (fun _ _ _ h => h) (by rfl) ?_ hS0 ?_
  rotate_left
  · ((intro w hS; clear hS; go_simp) <;> with_reducible rfl)
  refine wpAnyC_take 5 (v := ?_) rfl (by kernel_rfl) (fun _ _ _ h => h) (by rfl) ?_ hS0 ?_
  rotate_left
  · ((intro w hS; clear hS; go_simp) <;> with_reducible rfl)
  refine wpAnyC_take 6 (v := ?_) rfl (by kernel_rfl) (fun _ _ _ h => h) (by rfl) ?_ hS0 ?_
  rotate_left
  · ((intro w hS; clear hS; go_simp) <;> with_reducible rfl)
  refine wpAnyC_take 7 (v := .agg (by8 p.base).toArray) rfl (by kernel_rfl) (fun _ _ _ h => h) (by rfl) ?_ hS0 ?_
  · exact fun w hS => exec_load_mid 32 _ rfl pb (n * 64) (by go_simp) _ _ hS.2.1 Tryd.underlying32 rfl (by rw [gpage_size, L1.out])
  refine wpAnyC_take 8 (v := ?_) rfl (by kernel_rfl) (fun _ _ _ h => h) (by rfl) ?_ hS0 ?_
  rotate_left
  · ((intro w hS; clear hS; go_simp) <;> with_reducible rfl)
  refine wpAnyC_take 9 (v := ?_) rfl (by kernel_rfl) (fun _ _ _ h => h) (by rfl) ?_ hS0 ?_
  rotate_left
  · ((intro w hS; clear hS; go_simp) <;> with_reducible rfl)
  refine wpAnyC_take 10 (v := ?_) rfl (by kernel_rfl) (fun _ _ _ h => h) (by rfl) ?_ hS0 ?_
  rotate_left
  · ((intro w hS; clear hS; go_simp) <;> with_reducible rfl)
  refine wpAnyC_take 11 (v := ?_) rfl (by kernel_rfl) (fun _ _ _ h => h) (by rfl) ?_ hS0 ?_
  rotate_left
  · ((intro w hS; obtain ⟨h1, -, -⟩ := hS; go_simp) <;> with_reducible rfl)
  refine wpAnyC_take 12 (v := ?_) rfl (by kernel_rfl) (fun _ _ _ h => h) (by rfl) ?_ hS0 ?_
  rotate_left
  · ((intro w hS; clear hS; go_simp) <;> with_reducible rfl)
  refine wpAnyC_take 13 (v := ?_) rfl (by kernel_rfl) (fun _ _ _ h => h) (by rfl) ?_ hS0 ?_
  rotate_left
  · ((intro w hS; clear hS; go_simp) <;> with_reducible rfl)
  refine wpAnyC_take 14 (v := ?_) rfl (by kernel_rfl) (fun _ _ _ h => h) (by rfl) ?_ hS0 ?_
  rotate_left
  · ((intro w hS; clear hS; go_simp) <;> with_reducible rfl)
  refine wpAnyC_take 15 (v := .agg (by8 p.now).toArray) rfl (by kernel_rfl) (fun _ _ _ h => h) (by rfl) ?_ hS0 ?_
  · exact fun w hS => exec_load_mid 32 _ rfl pb (n * 64 + 32) (by go_simp) _ _ hS.2.2 Tryd.underlying32 rfl (by rw [gpage_size, L2.out])
  refine wpAnyC_store 16 (by kernel_rfl) rfl (by rfl) 32 rfl q0 0 (by8 p.base).toArray (by go_simp) (by go_simp) (HB0.out.there_ (by simp [L1.out, L0.out])) (by rw [gpage_size]; simp [L1.out]) (by8_one _) (fun h => hS1.out) ?_
  refine wpAnyC_store 17 (by kernel_rfl) rfl (by rfl) 32 rfl q1 0 (by8 p.now).toArray (by go_simp) (by go_simp) (HB1.out.there_ (by simp [L2.out, L0.out])) (by rw [gpage_size]; simp [L2.out]) (by8_one _) (fun h => absurd h (by decide)) ?_
  refine wpAnyC_one (i := 18) (by kernel_rfl) rfl (fun K hK => ?_)
  go_simp
  refine hK _ _ (fun h => absurd h (by decide)) ?_; clear hK K
  refine wpAnyC_done (by kernel_rfl) ?_ _
  go_wp2_with fail
  (try simp only [Exit.inBlock, Exit.then])
  refine bodyPost_ret (results_cct rfl _ _ q0 q1 (by8 p.base) (by8 p.now) _ _ rfl rfl ((HB0.out.whole (by8 p.base) (by rw [L0.out, L1.out])).only (setCells_only (b := q1) (by8 p.now) 0 _) (by simpa using HNE.out.symm)).range0 (HB1.out.whole (by8 p.now) (by rw [L0.out, L2.out])).range0 Tryd.underlying32 rfl (by rw [gpage_size, L1.out]) Tryd.underlying32 rfl (by rw [gpage_size, L2.out])) rfl ?_
  exact ⟨rfl, (HO.out.setCells (.inr (by rw [← hq0.out]; exact Nat.le_refl _)) 0 _).setCells (.inr (by rw [← hq1.out]; exact Nat.le_succ _)) 0 _⟩

end
end Go.Proofs.YtbfgpghfofmanaaDoor
