/-
  Package frames: HoldMap, Map. Printed by gen_framesI.py.
-/
import Derived.Test.YtbfgpghfofmanaaDoorFramesH
import Derived.Test.YtbfgpghfofmanaaDoorFramesD
namespace Go.Proofs.YtbfgpghfofmanaaDoor
open Go.RowKit

def hdZl : List Value := gi8 (List.replicate 8 0)
theorem head_zero (w : World) : (Instr.alloc 52 true (.tuple #[])).run Tryd.prog w = .ok (.pointer (some ⟨w.heap.size, 0, none⟩)) (w.alloc (.cells hdZl.toArray 52)) := by kernel_rfl
theorem head_build0 (w : World) : (Instr.build 52 #[]).run Tryd.prog w = .ok (.agg hdZl.toArray) w := by kernel_rfl

section
variable {w : World} {f c fb pb hb : Nat} {fs : List CF} {hand : Int} {ps : List PG} {hs : List HD}

theorem FramesAt.heads_at (h : FramesAt w f c fb pb hb fs hand ps hs) {i : Nat} {x : HD} (hx : hs[i]? = some x) : w.rangeAt hb (i * 8) (ghd x) :=
  h.hh.rec_range (g := ghd) ghd_len hx 0 (ghd x) (by simp [ghd_len]) (by rw [List.drop_of_length_le (l := ghd x) (by rw [ghd_len]; omega : (ghd x).length ≤ 0 + (ghd x).length)]; simp)


set_option maxRecDepth 100000 in
theorem frames_HoldMap_ok (h : FramesAt w f c fb pb hb fs hand ps hs) (i id : Int) (y : HD) (F : CF) (ht : holdMF fs ps i id = some F) :
    Calls Tryd.prog 19 #[.pointer (some ⟨f, 0, none⟩), .int .i64 i, .int .i64 id, .agg (ghd y).toArray] w fun e w' => e = .returned (.bool true) ∧ FramesAt w' f c fb pb hb (fs.set i.toNat ⟨64 + id, true, F.pins⟩) hand ps (hs.set i.toNat y) ∧ Only [fb, hb] w w' := by
  obtain ⟨B, hB⟩ : ∃ B, Hid (ghd y = B) := ⟨_, Lib.hid rfl⟩
  have L1 : Hid (B.length = 8) := Lib.hid (by rw [← hB.out]; exact ghd_len y)
  have hone : Hid (B.toArray.all (·.oneCell') = true) := by rw [← hB.out]; exact ghd_one y
  rw [hB.out]
  unfold holdMF at ht
  by_cases hk : 0 ≤ id ∧ id < 8
  rotate_left
  · rw [if_neg hk] at ht; cases ht
  rw [if_pos hk] at ht
  obtain ⟨hk1, hk2⟩ := hk
  have hsp : getF fs i = some F := by
    unfold takesF at ht
    split at ht
    · cases ht
    · exact (putOK_spec ht).1
  obtain ⟨n, rfl, hf, hn⟩ := getF_some hsp
  obtain ⟨x, hx⟩ := h.head_ hn
  rw [Int.toNat_natCast]
  have H := Lib.hid (frames_takes_ok (h.only ((Only.refl [] w).alloc (.cells B.toArray 52)) (by simp)) n (64 + id) F ht)
  have HX := Lib.hid hx
  have HQ : Hid (fb ≠ w.heap.size ∧ hb < w.heap.size) := by have := h.hc.hf.lt; exact ⟨by omega, h.hh.lt⟩
  have HL : Hid ((fs.set n ⟨64 + id, true, F.pins⟩).length = fs.length) := by simp [Hid]
  have hn0 : (0 : Int) ≤ n := by omega
  have hn1 : (n : Int) < fs.length := by omega
  rw [Int.toNat_natCast] at H
  obtain ⟨gs, hgs⟩ : ∃ gs, Hid (fs.set n ⟨64 + id, true, F.pins⟩ = gs) := ⟨_, Lib.hid rfl⟩
  rw [hgs.out] at H HL
  rw [hgs.out]
  clear h ht hsp hf hx hgs
  go_enter Tryd.func19, Tryd.ntmps19
  go_wp2_with (refine wpList_box_as rfl 52 _ rfl B.toArray rfl ?_)
  refine H.out.mono ?_
  rintro e w2 ⟨rfl, hF, ho⟩
  obtain ⟨q, hq⟩ : ∃ q, Hid (w.heap.size = q) := ⟨_, Lib.hid rfl⟩
  have hbx : Blk w2 q 52 B.toArray := by
    rw [← hq.out]
    exact (Blk.new w 52 B.toArray).only ho (by simp; exact fun e => HQ.out.1 e.symm)
  have h1 := hF.cell2
  rw [HL.out] at h1
  have h2 : Hid (w2.rangeAt q 0 B) := hbx.range0
  have HTh : Hid (w2.drew.there hb (n * 8) B.toArray.size) := by
    have := hF.hh.rec_there (g := ghd) ghd_len HX.out 0 8 (by omega)
    have e : B.toArray.size = 8 := by simp [L1.out]
    rw [e]; exact this
  have HO2 : Hid (Only [fb] w w2) := ((Only.refl [fb] w).alloc (.cells B.toArray 52)).trans ho (by simp)
  have HF := Lib.hid hF
  rw [hq.out]
  clear hF ho hbx
  go_wp2_with fail
  refine wp_region_C 6 (fun w' => w'.cell? ⟨f, 2, none⟩ = some (.slice (some ⟨hb, 0, none⟩) fs.length fs.length) ∧ w'.rangeAt q 0 B) (by kernel_rfl) ?_
  have hS0 : w2.drew.cell? ⟨f, 2, none⟩ = some (.slice (some ⟨hb, 0, none⟩) fs.length fs.length) ∧ w2.drew.rangeAt q 0 B := ⟨h1, h2.out⟩
  refine wpAnyC_take 0 (v := ?_) rfl (by kernel_rfl) (fun _ _ _ h => h) (by rfl) ?_ hS0 ?_
  rotate_left
  · ((intro w hS; clear hS; go_simp) <;> with_reducible rfl)
  refine wpAnyC_take 1 (v := ?_) rfl (by kernel_rfl) (fun _ _ _ h => h) (by rfl) ?_ hS0 ?_
  rotate_left
  · ((intro w hS; clear hS; go_simp) <;> with_reducible rfl)
  refine wpAnyC_take 2 (v := ?_) rfl (by kernel_rfl) (fun _ _ _ h => h) (by rfl) ?_ hS0 ?_
  rotate_left
  · ((intro w hS; clear hS; go_simp) <;> with_reducible rfl)
  refine wpAnyC_take 3 (v := ?_) rfl (by kernel_rfl) (fun _ _ _ h => h) (by rfl) ?_ hS0 ?_
  rotate_left
  · ((intro w hS; obtain ⟨h1, h2⟩ := hS; go_simp) <;> with_reducible rfl)
  refine wpAnyC_take 4 (v := ?_) rfl (by kernel_rfl) (fun _ _ _ h => h) (by rfl) ?_ hS0 ?_
  rotate_left
  · ((intro w hS; clear hS; go_simp) <;> with_reducible rfl)
  refine wpAnyC_take 5 (v := .agg B.toArray) rfl (by kernel_rfl) (fun _ _ _ h => h) (by rfl) ?_ hS0 ?_
  · exact fun w hS => exec_load_mid 52 _ rfl q 0 (by go_simp) _ _ hS.2 Tryd.underlying52 rfl (by rw [ghd_info, L1.out])
  refine wpAnyC_one (i := 6) (by kernel_rfl) rfl (fun K hK => ?_)
  go_simp
  refine hK _ _ (fun h => absurd h (by decide)) ?_; clear hK K
  refine wpAnyC_store 7 (by kernel_rfl) rfl (by rfl) 52 rfl hb (n * 8) B.toArray (by go_simp) (by go_simp) HTh.out (by rw [ghd_info]; simp [L1.out]) hone.out (fun h => absurd h (by decide)) ?_
  refine wpAnyC_done (by kernel_rfl) ?_ _
  go_wp2_with fail
  go_ret
  have h5 := (HF.out.only (F := []) (Only.refl _ _).drew (by simp)).heads_ (y := y) HX.out
  rw [hB.out] at h5
  exact ⟨rfl, h5, (HO2.out.drew.mono (by simp)).setCells (.inl (by simp)) _ _⟩


set_option maxRecDepth 100000 in
theorem frames_Map_ok (h : FramesAt w f c fb pb hb fs hand ps hs) (id : Int) (n : Nat) (x : HD) (h1 : 0 ≤ id) (h2 : id < 8) (ht : fndR fs (64 + id) 2 = .tuple #[.int .i64 n, .bool true]) (hx : hs[n]? = some x) :
    Calls Tryd.prog 32 #[.pointer (some ⟨f, 0, none⟩), .int .i64 id] w fun e w' => e = .returned (.tuple #[.agg (ghd x).toArray, .bool true]) ∧ Only [] w w' := by
  obtain ⟨L, hL⟩ : ∃ L, Hid (hdZl = L) := ⟨_, Lib.hid rfl⟩
  obtain ⟨B, hB⟩ : ∃ B, Hid (ghd x = B) := ⟨_, Lib.hid rfl⟩
  have L0 : Hid (L.length = 8) := by rw [← hL.out]; rfl
  have L1 : Hid (B.length = 8) := Lib.hid (by rw [← hB.out]; exact ghd_len x)
  have hone : Hid (B.toArray.all (·.oneCell') = true) := by rw [← hB.out]; exact ghd_one x
  have hal := head_zero
  rw [hL.out] at hal
  rw [hB.out]
  have hn : n < fs.length := by rw [← h.nh]; exact (List.getElem?_eq_some_iff.1 hx).1
  have hn0 : (0 : Int) ≤ n := by omega
  have hn1 : (n : Int) < fs.length := by omega
  have HX := Lib.hid hx
  have HC : Hid (FramesAt (w.alloc (.cells L.toArray 52)) f c fb pb hb fs hand ps hs) := h.only ((Only.refl [] w).alloc (.cells L.toArray 52)) (by simp)
  have H := Lib.hid (frames_find HC.out (64 + id) 2)
  rw [ht] at H
  clear h ht hx hn
  go_enter Tryd.func32, Tryd.ntmps32
  go_wp2_with (refine wpList_alloc_as rfl 52 rfl L.toArray (hal _) ?_)
  refine H.out.mono ?_
  rintro e w2 ⟨rfl, ho⟩
  have hF := HC.out.only ho (by simp)
  have h3 := hF.cell2
  have H4 := Lib.hid (hF.heads_at HX.out)
  rw [hB.out] at H4
  have HB0 : Hid (Blk w2 w.heap.size 52 L.toArray) := (Blk.new w _ _).only ho (by simp)
  have HO : Hid (Only [] w w2) := ((Only.refl [] w).alloc (.cells L.toArray 52)).trans ho (by simp)
  clear hF ho H HC hal
  go_wp2_with (first | (refine wpList_load_mid rfl 52 _ rfl hb (n * 8) rfl _ _ H4.out Tryd.underlying52 rfl (by rw [ghd_info, L1.out]) ?_) | (refine wpList_store_mid rfl 52 _ _ rfl w.heap.size 0 B.toArray rfl rfl (HB0.out.there_ (by simp [L0.out, L1.out])) (by rw [ghd_info]; simp [L1.out]) hone.out ?_))
  (try simp only [Exit.inBlock, Exit.then])
  refine bodyPost_ret (results_ct rfl _ _ w.heap.size B _ rfl (HB0.out.whole B (by rw [L0.out, L1.out])).range0 Tryd.underlying52 rfl (by rw [ghd_info, L1.out])) rfl ?_
  exact ⟨rfl, HO.out.setCells (.inr (Nat.le_refl _)) 0 B⟩
end
end Go.Proofs.YtbfgpghfofmanaaDoor
