/-
  The law's wakes. Printed by gen_framesK.py.
-/
import Derived.Test.YtbfgpghfofmanaaDoorFramesJ
namespace Go.Proofs.YtbfgpghfofmanaaDoor
open Go.RowKit

theorem exec_bin {P : Program} {ρ : Operand → Value} {o : Oper} {w : World} (b : BinOp) (ty : TypeId) (x y : Operand) (t2 : TypeId) (ho : o.op = .binOp b ty x y t2) (A B v : Value) (hx : ρ x = A) (hy : ρ y = B)
    (hg : (eqGuard b ty x y A B).run P w = .ok () w) (hr : (binOp b ty A B).run P w = .ok v w) : (execOp ρ o).run P w = .ok (.value v) w := by
  unfold execOp
  simp only [ho, hx, hy, Sem.run_bind, hg, Result.andThen_ok, hr, Sem.run_pure]
theorem GlobE.only {w w2 : World} (h : GlobE w) (ho : Only [] w w2) : GlobE w2 := (ho.cell (World.block_lt_of_cell? w _ h) (by simp)).trans h
theorem readsB1 (w : World) (x : Int) : ReadsB (w.alloc (.cells #[.int .u8 x] 5)) (.slice (some ⟨w.heap.size, 0, none⟩) 1 1) [x] := by
  refine ⟨_, _, rfl, fun j hj => ⟨_, rfl, ?_⟩⟩
  obtain rfl : j = 0 := by simpa using hj
  show (w.alloc (.cells #[.int .u8 x] 5)).cell? ⟨w.heap.size, 0, none⟩ = _
  rw [(Blk.new w 5 #[.int .u8 x]).cell]
  rfl
theorem readsI1 (w : World) (x : Int) : ReadsI (w.alloc (.cells #[.int .i64 x] 3)) (.slice (some ⟨w.heap.size, 0, none⟩) 1 1) [x] := by
  refine ⟨_, _, rfl, fun j hj => ⟨_, _, rfl, ?_⟩⟩
  obtain rfl : j = 0 := by simpa using hj
  rw [(Blk.new w 3 #[.int .i64 x]).cell]
  rfl

set_option maxRecDepth 100000 in
set_option maxHeartbeats 1600000 in
theorem wakes_holds (w : World) (hg : GlobE w) :
    Calls Tryd.prog 8 #[] w fun e w' => e = .returned (.bool true) ∧ Only [] w w' := by
  obtain ⟨L7, hL7⟩ : ∃ l, Hid (by8 (leafP 7) = l) := ⟨_, Lib.hid rfl⟩
  obtain ⟨L1, hL1⟩ : ∃ l, Hid (by8 (leafP 1) = l) := ⟨_, Lib.hid rfl⟩
  obtain ⟨LU, hLU⟩ : ∃ l, Hid (by8 kU = l) := ⟨_, Lib.hid rfl⟩
  obtain ⟨LZ, hLZ⟩ : ∃ l, Hid (by8 zeroP = l) := ⟨_, Lib.hid rfl⟩
  obtain ⟨LM, hLM⟩ : ∃ l, Hid (ghd kHd = l) := ⟨_, Lib.hid rfl⟩
  obtain ⟨LE, hLE⟩ : ∃ l, Hid (hdZl = l) := ⟨_, Lib.hid rfl⟩
  have hal := page_zero
  rw [hLZ.out] at hal
  have hal2 := head_zero
  rw [hLE.out] at hal2
  have hbu := wk_build
  rw [hLM.out] at hbu
  have HG := Lib.hid hg
  clear hg
  go_enter Tryd.func8, Tryd.ntmps8
  go_wp2_with fail
  refine (frames_New_ok 2 w (by omega) (by omega)).mono ?_
  rintro e w1 ⟨f, c, fb, pb, hb, rfl, hF, ho, hge⟩
  have hF : FramesAt w1 f c fb pb hb kF0 0 kP0 kH0 := hF
  have HO1 := Lib.hid ho
  have HGE := Lib.hid hge
  have HF1 := Lib.hid hF
  clear ho hge hF
  go_wp2_with (go_at_call 6; refine (frames_Clock HF1.out).mono ?_; rintro e w2 ⟨rfl, rfl⟩)
  refine (keep_Leaf 7 w1).mono ?_
  rintro e w2 ⟨rfl, ho⟩
  have HF2 := Lib.hid (HF1.out.only ho (by simp))
  have HO2 := Lib.hid (HO1.out.trans ho (by simp))
  rw [hL7.out]
  clear ho
  go_wp2_with fail
  refine (hL7.out ▸ wk_Hold HF2.out).mono ?_
  rintro e w3 ⟨rfl, hF, ho⟩
  have HF3 := Lib.hid hF
  have HO3 := Lib.hid (HO2.out.trans ho (fun b hb => .inr (HGE.out b (by simp [ffp] at hb ⊢; omega))))
  clear ho hF HF1 HF2 HO1 HO2
  go_wp2_with fail
  refine (wk_Write (HF3.out.only ((Only.refl [] w3).alloc (.cells #[.int .u8 9] 5)) (by simp)) _ (readsB1 w3 9)).mono ?_
  rintro e w4 ⟨rfl, hF, ho⟩
  have HF4 := Lib.hid hF
  have HO4 := Lib.hid ((HO3.out.alloc (.cells #[.int .u8 9] 5)).trans ho (fun b hb => .inr (HGE.out b (by simp [ffp] at hb ⊢; omega))))
  clear ho hF HF3 HO3
  go_wp2_with fail
  refine (wk_Write6 (HF4.out.only ((Only.refl [] w4).alloc (.cells #[.int .u8 9] 5)) (by simp)) _).mono ?_
  rintro e w5 ⟨rfl, ho⟩
  have HF5 := Lib.hid ((HF4.out.only ((Only.refl [] w4).alloc (.cells #[.int .u8 9] 5)) (by simp)).only ho (by simp))
  have HO5 := Lib.hid ((HO4.out.alloc (.cells #[.int .u8 9] 5)).trans ho (by simp))
  clear ho HF4 HO4
  go_wp2_with fail
  refine (wk_WriteL (HF5.out.only ((Only.refl [] w5).alloc (.cells #[.int .u8 9] 5)) (by simp)) (HG.out.only (HO5.out.alloc (.cells #[.int .u8 9] 5))) _ _).mono ?_
  rintro e w6 ⟨rfl, ho⟩
  have HF6 := Lib.hid ((HF5.out.only ((Only.refl [] w5).alloc (.cells #[.int .u8 9] 5)) (by simp)).only ho (by simp))
  have HO6 := Lib.hid ((HO5.out.alloc (.cells #[.int .u8 9] 5)).trans ho (by simp))
  clear ho HF5 HO5
  go_wp2_with fail
  refine (hLU.out ▸ hL7.out ▸ wk_Page HF6.out).mono ?_
  rintro e w7 ⟨rfl, ho⟩
  have HF7 := Lib.hid (HF6.out.only ho (by simp))
  have HO7 := Lib.hid (HO6.out.trans ho (by simp))
  clear ho HF6 HO6
  have LL7 : Hid (L7.length = 32) := by rw [← hL7.out]; rfl
  have LLU : Hid (LU.length = 32) := by rw [← hLU.out]; rfl
  have LLZ : Hid (LZ.length = 32) := by rw [← hLZ.out]; rfl
  have one7 : Hid (L7.toArray.all (·.oneCell') = true) := by rw [← hL7.out]; exact by8_one _
  have oneU : Hid (LU.toArray.all (·.oneCell') = true) := by rw [← hLU.out]; exact by8_one _
  obtain ⟨w8, hw8⟩ : ∃ x, Hid ((((w7.alloc (.cells LZ.toArray 32)).alloc (.cells LZ.toArray 32)).setCells w7.heap.size 0 L7).setCells (w7.heap.size + 1) 0 LU = x) := ⟨_, Lib.hid rfl⟩
  have hA3 : Blk ((w7.alloc (.cells LZ.toArray 32)).alloc (.cells LZ.toArray 32)) w7.heap.size 32 LZ.toArray := (Blk.new w7 _ _).alloc _
  have hA4 : Blk ((w7.alloc (.cells LZ.toArray 32)).alloc (.cells LZ.toArray 32)) (w7.heap.size + 1) 32 LZ.toArray := blk_new1 w7 _ _ _
  have HA3 := Lib.hid hA3
  have hA4' : Blk (((w7.alloc (.cells LZ.toArray 32)).alloc (.cells LZ.toArray 32)).setCells w7.heap.size 0 L7) (w7.heap.size + 1) 32 LZ.toArray := hA4.only (setCells_only (b := w7.heap.size) L7 0 _) (by simp)
  have HA4 := Lib.hid hA4'
  have HB3 : Hid (Blk w8 w7.heap.size 32 L7.toArray) := by rw [← hw8.out]; exact (hA3.whole L7 (by rw [LLZ.out, LL7.out])).only (setCells_only (b := w7.heap.size + 1) LU 0 _) (by simp)
  have HB4 : Hid (Blk w8 (w7.heap.size + 1) 32 LU.toArray) := by rw [← hw8.out]; exact hA4'.whole LU (by rw [LLZ.out, LLU.out])
  have ho8 : Only [] w7 w8 := by rw [← hw8.out]; exact ((((Only.refl [] w7).alloc _).alloc _).setCells (.inr (Nat.le_refl _)) 0 _).setCells (.inr (Nat.le_succ _)) 0 _
  have HF8 := Lib.hid (HF7.out.only ho8 (by simp))
  have HO8 := Lib.hid (HO7.out.trans ho8 (by simp))
  clear hA3 hA4 hA4' ho8 HF7 HO7
  go_wp2_with (first | (refine wpList_alloc_as rfl 32 rfl LZ.toArray (hal _) ?_) | (refine wpList_store_mid rfl 32 _ _ rfl w7.heap.size 0 L7.toArray rfl rfl (HA3.out.there_ (by simp [LL7.out, LLZ.out])) (by rw [gpage_size]; simp [LL7.out]) one7.out ?_) | (refine wpList_store_mid rfl 32 _ _ rfl (w7.heap.size + 1) 0 LU.toArray (by go_simp) (by go_simp) (HA4.out.there_ (by simp [LLU.out, LLZ.out])) (by rw [gpage_size]; simp [LLU.out]) oneU.out ?_; simp only [List.toList_toArray]; rw [hw8.out]))
  refine (wk_Dirty HF8.out).mono ?_
  rintro e w9 ⟨dv, rfl, hown, ho, hnew⟩
  have HF9 := Lib.hid (HF8.out.only ho (by simp))
  have HO9 := Lib.hid (HO8.out.trans ho (by simp))
  have HB39 := Lib.hid (HB3.out.only ho (by simp))
  have HB49 := Lib.hid (HB4.out.only ho (by simp))
  have HOwn9 := Lib.hid hown
  clear ho hown hnew HF8 HO8 HB3 HB4 HA3 HA4 hal
  go_wp2_with fail
  refine (keep_Leaf 1 w9).mono ?_
  rintro e wa ⟨rfl, ho⟩
  have HFa := Lib.hid (HF9.out.only ho (by simp))
  have HOa := Lib.hid (HO9.out.trans ho (by simp))
  have HB3a := Lib.hid (HB39.out.only ho (by simp))
  have HB4a := Lib.hid (HB49.out.only ho (by simp))
  have HOwna := Lib.hid (HOwn9.out.only ho (by simp))
  rw [hL1.out]
  clear ho HF9 HO9 HB39 HB49 HOwn9
  go_wp2_with fail
  refine (hL1.out ▸ wk_Hold6 HFa.out).mono ?_
  rintro e wb ⟨rfl, ho⟩
  have HFb := Lib.hid (HFa.out.only ho (by simp))
  have HOb := Lib.hid (HOa.out.trans ho (by simp))
  have HB3b := Lib.hid (HB3a.out.only ho (by simp))
  have HB4b := Lib.hid (HB4a.out.only ho (by simp))
  have HOwnb := Lib.hid (HOwna.out.only ho (by simp))
  clear ho HFa HOa HB3a HB4a HOwna
  go_wp2_with fail
  refine (wk_Clean HFb.out).mono ?_
  rintro e wc ⟨rfl, hF, ho⟩
  have HB3c := Lib.hid (HB3b.out.only ho (by simpa using HB3b.out.ne_ HFb.out.hp (by decide)))
  have HB4c := Lib.hid (HB4b.out.only ho (by simpa using HB4b.out.ne_ HFb.out.hp (by decide)))
  have HOwnc := Lib.hid (HOwnb.out.only ho (by simpa using HOwnb.out.ne_ HFb.out.hp (by decide)))
  have HOc := Lib.hid (HOb.out.trans ho (fun b hb => .inr (HGE.out b (by simp [ffp] at hb ⊢; omega))))
  have HFc := Lib.hid hF
  clear ho hF HFb HOb HB3b HB4b HOwnb
  go_wp2_with fail
  refine (wk_HoldMap HFc.out).mono ?_
  rintro e wd ⟨rfl, hF, ho⟩
  have HB3d := Lib.hid (HB3c.out.only ho (by simpa using ⟨HB3c.out.ne_ HFc.out.hc.hf (by decide), HB3c.out.ne_ HFc.out.hh (by decide)⟩))
  have HB4d := Lib.hid (HB4c.out.only ho (by simpa using ⟨HB4c.out.ne_ HFc.out.hc.hf (by decide), HB4c.out.ne_ HFc.out.hh (by decide)⟩))
  have HOwnd := Lib.hid (HOwnc.out.only ho (by simpa using ⟨HOwnc.out.ne_ HFc.out.hc.hf (by decide), HOwnc.out.ne_ HFc.out.hh (by decide)⟩))
  have HOd := Lib.hid (HOc.out.trans ho (fun b hb => .inr (HGE.out b (by simp [ffp] at hb ⊢; omega))))
  have HFd := Lib.hid hF
  clear ho hF HFc HOc HB3c HB4c HOwnc
  go_wp2_with fail
  refine (hLM.out ▸ wk_Map HFd.out).mono ?_
  rintro e we ⟨rfl, ho⟩
  have LLM : Hid (LM.length = 8) := by rw [← hLM.out]; rfl
  have LLE : Hid (LE.length = 8) := by rw [← hLE.out]; rfl
  have oneM : Hid (LM.toArray.all (·.oneCell') = true) := by rw [← hLM.out]; exact ghd_one _
  obtain ⟨wf, hwf⟩ : ∃ x, Hid ((we.alloc (.cells LE.toArray 52)).setCells we.heap.size 0 LM = x) := ⟨_, Lib.hid rfl⟩
  have HA9 := Lib.hid (Blk.new we 52 LE.toArray)
  have hof : Only [] we wf := by rw [← hwf.out]; exact ((Only.refl [] we).alloc _).setCells (.inr (Nat.le_refl _)) 0 _
  have HB9f : Hid (Blk wf we.heap.size 52 LM.toArray) := by rw [← hwf.out]; exact HA9.out.whole LM (by rw [LLE.out, LLM.out])
  have hod := ho.trans hof (by simp)
  have HFf := Lib.hid (HFd.out.only hod (by simp))
  have HOf := Lib.hid (HOd.out.trans hod (by simp))
  have HB3f := Lib.hid (HB3d.out.only hod (by simp))
  have HB4f := Lib.hid (HB4d.out.only hod (by simp))
  have HOwnf := Lib.hid (HOwnd.out.only hod (by simp))
  clear ho hof hod HFd HOd HB3d HB4d HOwnd
  go_wp2_with (first | (refine wpList_alloc_as rfl 52 rfl LE.toArray (hal2 _) ?_) | (refine wpList_store_mid rfl 52 _ _ rfl we.heap.size 0 LM.toArray rfl rfl (HA9.out.there_ (by simp [LLE.out, LLM.out])) (by rw [ghd_info]; simp [LLM.out]) oneM.out ?_; rw [List.toList_toArray, hwf.out]))
  have HS9 : Hid (LU[1]? = some (.int .u8 9) ∧ LU[0]? = some (.int .u8 7) ∧ LM[0]? = some (.int .i64 4)) := by rw [← hLU.out, ← hLM.out]; exact ⟨rfl, rfl, rfl⟩
  have hSof : Hid (∀ W, Blk W w7.heap.size 32 L7.toArray → Blk W (w7.heap.size + 1) 32 LU.toArray → Blk W we.heap.size 52 LM.toArray →
      W.rangeAt w7.heap.size 0 L7 ∧ W.cell? ⟨w7.heap.size + 1, 1, none⟩ = some (.int .u8 9) ∧ W.cell? ⟨w7.heap.size + 1, 0, none⟩ = some (.int .u8 7) ∧ W.cell? ⟨we.heap.size, 0, none⟩ = some (.int .i64 4)) :=
    fun W h3 h4 h9 => ⟨h3.range0, by rw [h4.cell]; simpa using HS9.out.1, by rw [h4.cell]; simpa using HS9.out.2.1, by rw [h9.cell]; simpa using HS9.out.2.2⟩
  have HEq : Hid (∀ W, (binOp .eql 32 (.agg L7.toArray) (.agg L7.toArray)).run Tryd.prog W = .ok (.bool true) W) := by
    intro W
    rw [← hL7.out]
    have h := run_eql_arr (P := Tryd.prog) W 32 5 32 .u8 Tryd.underlying32 Tryd.underlying5 gu8_size (leafP 7) (leafP 7) rfl rfl
    rw [show decide (leafP 7 = leafP 7) = true from by simp] at h
    exact h
  have hd : Only [] wf wf.drew := (Only.refl _ _).drew
  have HFg := Lib.hid (HFf.out.only hd (by simp))
  have HOwng := Lib.hid (HOwnf.out.only hd (by simp))
  have HB3g := Lib.hid (HB3f.out.only hd (by simp))
  have HB4g := Lib.hid (HB4f.out.only hd (by simp))
  have HB9g := Lib.hid (HB9f.out.only hd (by simp))
  have HOg := Lib.hid (HOf.out.trans hd (by simp))
  have hSg := hSof.out _ HB3g.out HB4g.out HB9g.out
  clear hd HFf HOwnf HOf HB3f HB4f HB9f HA9 hal2 hbu
  refine wp_region_C 51 (fun W => W.rangeAt w7.heap.size 0 L7 ∧ W.cell? ⟨w7.heap.size + 1, 1, none⟩ = some (.int .u8 9) ∧ W.cell? ⟨w7.heap.size + 1, 0, none⟩ = some (.int .u8 7) ∧ W.cell? ⟨we.heap.size, 0, none⟩ = some (.int .i64 4)) (by kernel_rfl) ?_
  refine wpAnyC_one (i := 0) (by kernel_rfl) rfl (fun K hK => ?_)
  go_simp
  refine hK _ _ (fun h => hSg) ?_; clear hK K
  refine wpAnyC_one (i := 1) (by kernel_rfl) rfl (fun K hK => ?_)
  go_simp
  refine hK _ _ (fun h => hSg) ?_; clear hK K
  refine wpAnyC_take 2 (v := .agg L7.toArray) rfl (by kernel_rfl) (fun _ _ _ h => h) (by rfl) ?_ hSg ?_
  · exact fun w hS => exec_load_mid 32 _ rfl w7.heap.size 0 (by go_simp) _ _ hS.1 Tryd.underlying32 rfl (by rw [gpage_size, LL7.out])
  refine wpAnyC_one (i := 3) (by kernel_rfl) rfl (fun K hK => ?_)
  go_simp
  go_wp2_with fail
  refine (keep_Leaf 7 _).mono ?_
  rintro e wh ⟨rfl, ho⟩
  rw [hL7.out]
  have HB3h := Lib.hid (HB3g.out.only ho (by simp))
  have HB4h := Lib.hid (HB4g.out.only ho (by simp))
  have HB9h := Lib.hid (HB9g.out.only ho (by simp))
  have HOh := Lib.hid (HOg.out.trans ho (by simp))
  have hSh := hSof.out _ HB3h.out HB4h.out HB9h.out
  have HFh := Lib.hid (HFg.out.only ho (by simp))
  have HOwnh := Lib.hid (HOwng.out.only ho (by simp))
  clear ho HFg HOwng HB3g HB4g HB9g HOg hSg
  refine hK _ _ (fun h => hSh) ?_; clear hK K
  refine wpAnyC_take 4 (v := .bool true) rfl (by kernel_rfl) (fun _ _ _ h => h) (by rfl) ?_ hSh ?_
  · exact fun w hS => exec_bin .eql 32 _ _ _ rfl (.agg L7.toArray) (.agg L7.toArray) _ (by go_simp) (by go_simp) rfl (HEq.out w)
  refine wpAnyC_one (i := 5) (by kernel_rfl) rfl (fun K hK => ?_)
  go_simp
  refine hK _ _ (fun h => hSh) ?_; clear hK K
  refine wpAnyC_one (i := 6) (by kernel_rfl) rfl (fun K hK => ?_)
  go_simp
  refine hK _ _ (fun h => hSh) ?_; clear hK K
  refine wpAnyC_one (i := 7) (by kernel_rfl) rfl (fun K hK => ?_)
  go_simp
  refine hK _ _ (fun h => hSh) ?_; clear hK K
  refine wpAnyC_take 8 (v := ?_) rfl (by kernel_rfl) (fun _ _ _ h => h) (by rfl) ?_ hSh ?_
  rotate_left
  · ((intro w hS; obtain ⟨-, h2, h3, h4⟩ := hS; go_simp) <;> with_reducible rfl)
  refine wpAnyC_one (i := 9) (by kernel_rfl) rfl (fun K hK => ?_)
  go_simp
  refine hK _ _ (fun h => hSh) ?_; clear hK K
  refine wpAnyC_one (i := 10) (by kernel_rfl) rfl (fun K hK => ?_)
  go_simp
  refine hK _ _ (fun h => hSh) ?_; clear hK K
  refine wpAnyC_one (i := 11) (by kernel_rfl) rfl (fun K hK => ?_)
  go_simp
  refine hK _ _ (fun h => hSh) ?_; clear hK K
  refine wpAnyC_one (i := 12) (by kernel_rfl) rfl (fun K hK => ?_)
  go_simp
  refine hK _ _ (fun h => hSh) ?_; clear hK K
  refine wpAnyC_take 13 (v := ?_) rfl (by kernel_rfl) (fun _ _ _ h => h) (by rfl) ?_ hSh ?_
  rotate_left
  · ((intro w hS; obtain ⟨-, h2, h3, h4⟩ := hS; go_simp) <;> with_reducible rfl)
  refine wpAnyC_one (i := 14) (by kernel_rfl) rfl (fun K hK => ?_)
  go_simp
  refine hK _ _ (fun h => hSh) ?_; clear hK K
  refine wpAnyC_one (i := 15) (by kernel_rfl) rfl (fun K hK => ?_)
  go_simp
  refine hK _ _ (fun h => hSh) ?_; clear hK K
  refine wpAnyC_one (i := 16) (by kernel_rfl) rfl (fun K hK => ?_)
  go_simp
  refine hK _ _ (fun h => hSh) ?_; clear hK K
  refine wpAnyC_take 17 (v := ?_) rfl (by kernel_rfl) (fun _ _ _ h => h) (by rfl) ?_ hSh ?_
  rotate_left
  · ((intro w hS; clear hS; go_simp) <;> with_reducible rfl)
  refine wpAnyC_one (i := 18) (by kernel_rfl) rfl (fun K hK => ?_)
  have ho := (Only.refl [] wh).alloc (.cells #[.int .i64 5] 3)
  have HB3i := Lib.hid (HB3h.out.only ho (by simp))
  have HB4i := Lib.hid (HB4h.out.only ho (by simp))
  have HB9i := Lib.hid (HB9h.out.only ho (by simp))
  have HOi := Lib.hid (HOh.out.trans ho (by simp))
  have hSi := hSof.out _ HB3i.out HB4i.out HB9i.out
  have HFi := Lib.hid (HFh.out.only ho (by simp))
  have HOwni := Lib.hid (HOwnh.out.only ho (by simp))
  clear ho HFh HOwnh HB3h HB4h HB9h HOh
  go_simp
  refine hK _ _ (fun h => hSi) ?_; clear hK K
  refine wpAnyC_one (i := 19) (by kernel_rfl) rfl (fun K hK => ?_)
  go_simp
  go_wp2_with fail
  refine (ints_alike HOwni.out.reads (readsI1 wh 5) (by simp) (by simp)).mono ?_
  rintro e wj ⟨he, ho⟩
  rw [show decide (([5] : List Int) = [5]) = true from by decide] at he
  subst he
  have HB3j := Lib.hid (HB3i.out.only ho (by simp))
  have HB4j := Lib.hid (HB4i.out.only ho (by simp))
  have HB9j := Lib.hid (HB9i.out.only ho (by simp))
  have HOj := Lib.hid (HOi.out.trans ho (by simp))
  have hSj := hSof.out _ HB3j.out HB4j.out HB9j.out
  have HFj := Lib.hid (HFi.out.only ho (by simp))
  clear ho HFi HOwni HB3i HB4i HB9i HOi hSi
  refine hK _ _ (fun h => hSj) ?_; clear hK K
  refine wpAnyC_one (i := 20) (by kernel_rfl) rfl (fun K hK => ?_)
  go_simp
  refine hK _ _ (fun h => hSj) ?_; clear hK K
  refine wpAnyC_one (i := 21) (by kernel_rfl) rfl (fun K hK => ?_)
  go_simp
  refine hK _ _ (fun h => hSj) ?_; clear hK K
  refine wpAnyC_one (i := 22) (by kernel_rfl) rfl (fun K hK => ?_)
  go_simp
  refine hK _ _ (fun h => hSj) ?_; clear hK K
  refine wpAnyC_one (i := 23) (by kernel_rfl) rfl (fun K hK => ?_)
  go_simp
  refine hK _ _ (fun h => hSj) ?_; clear hK K
  refine wpAnyC_one (i := 24) (by kernel_rfl) rfl (fun K hK => ?_)
  go_simp
  refine hK _ _ (fun h => hSj) ?_; clear hK K
  refine wpAnyC_one (i := 25) (by kernel_rfl) rfl (fun K hK => ?_)
  go_simp
  refine hK _ _ (fun h => hSj) ?_; clear hK K
  refine wpAnyC_one (i := 26) (by kernel_rfl) rfl (fun K hK => ?_)
  go_simp
  refine hK _ _ (fun h => hSj) ?_; clear hK K
  refine wpAnyC_one (i := 27) (by kernel_rfl) rfl (fun K hK => ?_)
  go_simp
  go_wp2_with fail
  refine (wk_Dirty0 HFj.out).mono ?_
  rintro e wk ⟨v2, rfl, hown, ho, -⟩
  obtain ⟨A2, c2, rfl⟩ := hown.slice
  have HB3k := Lib.hid (HB3j.out.only ho (by simp))
  have HB4k := Lib.hid (HB4j.out.only ho (by simp))
  have HB9k := Lib.hid (HB9j.out.only ho (by simp))
  have HOk := Lib.hid (HOj.out.trans ho (by simp))
  have hSk := hSof.out _ HB3k.out HB4k.out HB9k.out
  have HFk := Lib.hid (HFj.out.only ho (by simp))
  clear ho hown HFj HB3j HB4j HB9j HOj hSj
  refine hK _ _ (fun h => hSk) ?_; clear hK K
  refine wpAnyC_one (i := 28) (by kernel_rfl) rfl (fun K hK => ?_)
  go_simp
  refine hK _ _ (fun h => hSk) ?_; clear hK K
  refine wpAnyC_one (i := 29) (by kernel_rfl) rfl (fun K hK => ?_)
  go_simp
  refine hK _ _ (fun h => hSk) ?_; clear hK K
  refine wpAnyC_one (i := 30) (by kernel_rfl) rfl (fun K hK => ?_)
  go_simp
  refine hK _ _ (fun h => hSk) ?_; clear hK K
  refine wpAnyC_one (i := 31) (by kernel_rfl) rfl (fun K hK => ?_)
  go_simp
  refine hK _ _ (fun h => hSk) ?_; clear hK K
  refine wpAnyC_one (i := 32) (by kernel_rfl) rfl (fun K hK => ?_)
  go_simp
  refine hK _ _ (fun h => hSk) ?_; clear hK K
  refine wpAnyC_one (i := 33) (by kernel_rfl) rfl (fun K hK => ?_)
  go_simp
  refine hK _ _ (fun h => hSk) ?_; clear hK K
  refine wpAnyC_one (i := 34) (by kernel_rfl) rfl (fun K hK => ?_)
  go_simp
  refine hK _ _ (fun h => hSk) ?_; clear hK K
  refine wpAnyC_one (i := 35) (by kernel_rfl) rfl (fun K hK => ?_)
  go_simp
  refine hK _ _ (fun h => hSk) ?_; clear hK K
  refine wpAnyC_one (i := 36) (by kernel_rfl) rfl (fun K hK => ?_)
  go_simp
  refine hK _ _ (fun h => hSk) ?_; clear hK K
  refine wpAnyC_one (i := 37) (by kernel_rfl) rfl (fun K hK => ?_)
  go_simp
  refine hK _ _ (fun h => hSk) ?_; clear hK K
  refine wpAnyC_one (i := 38) (by kernel_rfl) rfl (fun K hK => ?_)
  go_simp
  refine hK _ _ (fun h => hSk) ?_; clear hK K
  refine wpAnyC_take 39 (v := ?_) rfl (by kernel_rfl) (fun _ _ _ h => h) (by rfl) ?_ hSk ?_
  rotate_left
  · ((intro w hS; obtain ⟨-, h2, h3, h4⟩ := hS; go_simp) <;> with_reducible rfl)
  refine wpAnyC_one (i := 40) (by kernel_rfl) rfl (fun K hK => ?_)
  go_simp
  refine hK _ _ (fun h => hSk) ?_; clear hK K
  refine wpAnyC_one (i := 41) (by kernel_rfl) rfl (fun K hK => ?_)
  go_simp
  refine hK _ _ (fun h => hSk) ?_; clear hK K
  refine wpAnyC_one (i := 42) (by kernel_rfl) rfl (fun K hK => ?_)
  go_simp
  refine hK _ _ (fun h => hSk) ?_; clear hK K
  refine wpAnyC_one (i := 43) (by kernel_rfl) rfl (fun K hK => ?_)
  go_simp
  refine hK _ _ (fun h => hSk) ?_; clear hK K
  refine wpAnyC_one (i := 44) (by kernel_rfl) rfl (fun K hK => ?_)
  go_simp
  go_wp2_with fail
  refine (wk_Forget HFk.out).mono ?_
  rintro e wl ⟨rfl, hF, ho⟩
  have HB3l := Lib.hid (HB3k.out.only ho (by simpa using HB3k.out.ne_ HFk.out.hc.hf (by decide)))
  have HB4l := Lib.hid (HB4k.out.only ho (by simpa using HB4k.out.ne_ HFk.out.hc.hf (by decide)))
  have HB9l := Lib.hid (HB9k.out.only ho (by simpa using HB9k.out.ne_ HFk.out.hc.hf (by decide)))
  have HOm := Lib.hid (HOk.out.trans ho (fun b hb => .inr (HGE.out b (by simp [ffp] at hb ⊢; omega))))
  have hSl := hSof.out _ HB3l.out HB4l.out HB9l.out
  have HFl := Lib.hid hF
  clear ho hF HFk HB3k HB4k HB9k HOk hSk
  refine hK _ _ (fun h => hSl) ?_; clear hK K
  refine wpAnyC_one (i := 45) (by kernel_rfl) rfl (fun K hK => ?_)
  go_simp
  refine hK _ _ (fun h => hSl) ?_; clear hK K
  refine wpAnyC_one (i := 46) (by kernel_rfl) rfl (fun K hK => ?_)
  go_simp
  refine hK _ _ (fun h => hSl) ?_; clear hK K
  refine wpAnyC_one (i := 47) (by kernel_rfl) rfl (fun K hK => ?_)
  go_simp
  refine hK _ _ (fun h => hSl) ?_; clear hK K
  refine wpAnyC_one (i := 48) (by kernel_rfl) rfl (fun K hK => ?_)
  go_simp
  go_wp2_with fail
  refine (wk_Forget2 HFl.out).mono ?_
  rintro e wm ⟨rfl, ho⟩
  have HOl := Lib.hid (HOm.out.trans ho (by simp))
  have hSm := hSof.out _ (HB3l.out.only ho (by simp)) (HB4l.out.only ho (by simp)) (HB9l.out.only ho (by simp))
  clear ho HFl HB3l HB4l HB9l HOm hSl
  refine hK _ _ (fun h => hSm) ?_; clear hK K
  refine wpAnyC_one (i := 49) (by kernel_rfl) rfl (fun K hK => ?_)
  go_simp
  refine hK _ _ (fun h => hSm) ?_; clear hK K
  refine wpAnyC_one (i := 50) (by kernel_rfl) rfl (fun K hK => ?_)
  go_simp
  refine hK _ _ (fun h => hSm) ?_; clear hK K
  refine wpAnyC_one (i := 51) (by kernel_rfl) rfl (fun K hK => ?_)
  go_simp
  refine hK _ _ (fun h => absurd h (by decide)) ?_; clear hK K
  refine wpAnyC_done (by kernel_rfl) ?_ _
  go_wp2_with fail
  go_ret
  exact ⟨rfl, HOl.out⟩
end Go.Proofs.YtbfgpghfofmanaaDoor
