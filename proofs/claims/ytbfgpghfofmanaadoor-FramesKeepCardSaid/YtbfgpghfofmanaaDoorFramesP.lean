/-
  FramesKeep: the law's walk. Printed by gen_framesP.py.
-/
import Derived.Test.YtbfgpghfofmanaaDoorFramesQ
import Derived.Deep.LoopGhost
import Derived.Deep.DeepCutAuto
import Derived.Deep.CutBlock
namespace Go.Proofs.YtbfgpghfofmanaaDoor
open Go.RowKit

set_option maxRecDepth 100000 in
set_option maxHeartbeats 8000000 in
theorem framesKeep_walk (w : World) (va : Value) (l : List Stp) (h : ReadsS w va l) (hl : l.length ≤ maxLen) (hg : GlobE w) :
    Calls Tryd.prog 3 #[va] w fun e w' => e = .returned (.bool true) ∧ Only [] w w' := by
  have HG := Lib.hid hg
  have HS := Lib.hid h
  have HLen := Lib.hid hl
  obtain ⟨A, cp, rfl, -⟩ := h
  obtain ⟨ln, hln⟩ : ∃ n, Hid (l.length = n) := ⟨_, Lib.hid rfl⟩
  rw [hln.out] at HS ⊢
  clear hg hl
  obtain ⟨ZP, hZP⟩ : ∃ l, Hid ((flat gB (List.replicate 8 bZ)).toArray = l) := ⟨_, Lib.hid rfl⟩
  obtain ⟨ZB, hZB⟩ : ∃ l, Hid (((List.replicate 8 false).map Value.bool).toArray = l) := ⟨_, Lib.hid rfl⟩
  have hzp := pages_zero
  rw [hZP.out] at hzp
  have hzb := bools_zero
  rw [hZB.out] at hzb
  have HZP := Lib.hid hzp
  have HZB := Lib.hid hzb
  clear hzp hzb
  go_enter Tryd.func3, Tryd.ntmps3
  go_wp2_with fail
  refine (frames_New_ok 4 w (by omega) (by omega)).mono ?_
  rintro e w1 ⟨f, c, fb, pb, hb, rfl, hF, ho, hge⟩
  have HF := Lib.hid hF
  have HO := Lib.hid ho
  have HGE := Lib.hid hge
  clear hF ho hge
  go_wp2_with (go_at_call 6; refine (frames_Clock HF.out).mono ?_; rintro e wc ⟨rfl, rfl⟩)
  refine (fair_tells w1 _ l (HS.out.only HO.out) HLen.out).mono ?_
  rintro e w2 ⟨rfl, ho⟩
  have HF2 := Lib.hid (HF.out.only ho (by simp))
  have HO2 := Lib.hid (HO.out.trans ho (by simp))
  clear ho HF HO
  obtain ⟨fr, hfr⟩ : ∃ b, Hid (fairL l = b) := ⟨_, Lib.hid rfl⟩
  rw [hfr.out]
  cases fr with
  | false =>
    go_wp2_with (go_at_call 6; refine (frames_Clock HF2.out).mono ?_; rintro e wc ⟨rfl, rfl⟩)
    refine (wakes_holds w2 (HG.out.only HO2.out)).mono ?_
    rintro e w3 ⟨rfl, ho⟩
    have HO3 := Lib.hid (HO2.out.trans ho (by simp))
    clear ho
    go_wp2_with fail
    go_ret
    exact ⟨rfl, HO3.out⟩
  | true =>
    have HL150 : Hid (ln ≤ 150) := by
      have h1 := hfr.out
      have h2 := hln.out
      unfold fairL at h1
      rw [Bool.and_eq_true] at h1
      have h3 := of_decide_eq_true h1.2
      exact Lib.hid (by omega)
    go_wp2_with fail
    obtain ⟨w3, hw3⟩ : ∃ x, Hid (((w2.alloc (.cells Tryd.zeroCells33 33)).alloc (.cells Tryd.zeroCells33 33)).alloc (.cells #[.bool false, .bool false, .bool false, .bool false, .bool false, .bool false, .bool false, .bool false] 34) = x) := ⟨_, Lib.hid rfl⟩
    obtain ⟨B, hB⟩ : ∃ B, Hid (B = (⟨f, c, fb, pb, hb, w2.heap.size, w2.heap.size + 1, w2.heap.size + 1 + 1⟩ : Bks)) := ⟨_, Lib.hid rfl⟩
    have HST : Hid (St w w3 B (newFs 4) (List.replicate 4 pgZ) (List.replicate 8 false) (List.replicate 8 bZ) (List.replicate 8 bZ)) := by
      have e : Tryd.zeroCells33 = (flat gB (List.replicate 8 bZ)).toArray := by kernel_rfl
      have e2 : #[Value.bool false, .bool false, .bool false, .bool false, .bool false, .bool false, .bool false, .bool false] = ((List.replicate 8 false).map Value.bool).toArray := by rfl
      have s2 := HO2.out.size
      have ho3 : Only [] w2 w3 := by rw [← hw3.out]; exact (((Only.refl _ _).alloc _).alloc _).alloc _
      have lt5 : ∀ b ∈ ffp f c fb pb hb, b < w2.heap.size := by
        intro b hb
        simp only [ffp, List.mem_cons, List.not_mem_nil, or_false] at hb
        rcases hb with rfl | rfl | rfl | rfl | rfl
        · exact HF2.out.hf.lt
        · exact HF2.out.hc.hc.lt
        · exact HF2.out.hc.hf.lt
        · exact HF2.out.hp.lt
        · exact HF2.out.hh.lt
      rw [hB.out]
      refine Lib.hid ⟨⟨0, _, HF2.out.only ho3 (by simp)⟩, ?_, HO2.out.trans ho3 (by simp), HGE.out, s2, by simp only; omega, by simp only; omega, fun b hb => by have := lt5 b hb; simp only; omega, by simp only; omega⟩
      rw [← hw3.out, e, e2]
      exact ⟨((Blk.new w2 _ _).alloc _).alloc _, (blk_new1 w2 _ _ _).alloc _, blk_new2 w2 _ _ _ _⟩
    have HI : Hid (Inv (newFs 4) (List.replicate 4 pgZ) (List.replicate 8 false) (List.replicate 8 bZ) (List.replicate 8 bZ)) := Lib.hid (Inv.start _ _ rfl rfl)
    have hBf : f = B.f := by rw [hB.out]
    have hBc : c = B.c := by rw [hB.out]
    have hB5 : w2.heap.size = B.q5 := by rw [hB.out]
    have hB6 : w2.heap.size + 1 = B.q6 := by rw [hB.out]
    have hB7 : w2.heap.size + 1 + 1 = B.q7 := by rw [hB.out]
    rw [hw3.out, hB7, hB6, hB5, hBf]
    clear hBf hBc hB5 hB6 hB7 hB hw3 HF2 HO2 HGE
    go_loopg [8] ln (fun g i wr => ∃ (k : Nat) (fs : List CF) (ps : List PG) (held : List Bool) (base now : List B32), g = ln - k ∧ k ≤ ln ∧ i = .int .i64 k ∧ St w wr B fs ps held base now ∧ Inv fs ps held base now)
    case atStart => exact ⟨0, _, _, _, _, _, rfl, by omega, rfl, HST.out, HI.out⟩
    case round =>
      clear HST HI
      obtain ⟨k, fs, ps, held, base, now, hgk, hk, rfl, hst, hinv⟩ := hrel
      have HST := Lib.hid hst
      have HI := Lib.hid hinv
      have HGK := Lib.hid hgk
      clear hst hinv hgk
      by_cases hlt : k < ln
      · obtain ⟨x, hx⟩ : ∃ x, l[k]? = some x := ⟨_, List.getElem?_eq_getElem (by have := hln.out; omega)⟩
        obtain ⟨A', cp', hA', hAx⟩ := HS.out.only HST.out.on
        obtain ⟨bb, off, rfl, c0, c1, c2, c3, c4, c5⟩ := hAx k x hx
        injection hA' with hA1 hA2 hA3
        subst hA1
        have hk0 : (0 : Int) ≤ k := by omega
        have hk1 : (k : Int) < ln := by omega
        have hk9 : (k : Int) < 1000 := by have := HL150.out; omega
        have HLt := Lib.hid hlt
        clear hA2 hA3 hAx hx hlt
        go_wp2_with fail
        refine (some_Mod _ 8 _ (by omega) (by omega)).mono ?_
        rintro e wm ⟨p, hp, rfl, rfl⟩
        clear hk9 hk0 hk1 hk
        go_wp2_with fail
        refine (some_Mod _ 4 _ (by omega) (by omega)).mono ?_
        rintro e wm ⟨q, hq, rfl, rfl⟩
        obtain ⟨xk, xf, xkey, xo, xv, xda, xdn, xdc⟩ := x
        simp only at c0 c1 c2 c3 c4 c5 ⊢
        obtain ⟨q9, hq9⟩ : ∃ q, Hid (wr.heap.size = q) := ⟨_, Lib.hid rfl⟩
        obtain ⟨wb, hwb⟩ : ∃ x, Hid (wr.alloc (.cells #[.int .i64 xk, .int .i64 xf, .int .i64 xkey, .int .i64 xo, .int .u8 xv, .slice xda xdn xdc] 37) = x) := ⟨_, Lib.hid rfl⟩
        have hbx : Blk wb q9 37 #[.int .i64 xk, .int .i64 xf, .int .i64 xkey, .int .i64 xo, .int .u8 xv, .slice xda xdn xdc] := by rw [← hwb.out, ← hq9.out]; exact Blk.new wr _ _
        have hS1 : St w wb B fs ps held base now := HST.out.only (by rw [← hwb.out]; exact (Only.refl _ _).alloc _)
        have HQ9 := Lib.hid (hS1.ofNe hbx)
        have HS1 := Lib.hid hS1
        have d0 : wb.cell? ⟨q9, 0, none⟩ = some (.int .i64 xk) := hbx.cell 0
        have d4 : wb.cell? ⟨q9, 4, none⟩ = some (.int .u8 xv) := hbx.cell 4
        rw [hwb.out, hq9.out]
        clear c0 c1 c2 c3 c4 c5 hS1 hbx HST hwb
        go_upto_block 2 with (fail)
        go_cut [8] (fun s8 wx => s8 = .int .i64 k ∧ ∃ (fs : List CF) (ps : List PG) (held : List Bool) (base now : List B32), St w wx B fs ps held base now ∧ Inv fs ps held base now)
        case first =>
          refine switch_walk (by rfl) (fun _ _ d _ _ h => by cases d <;> exact h) HS1.out HI.out hp hq HQ9.out d4 ?_
          rintro u12 u13 u14 u15 u75 u76 u77 u78 u79 u80 u81 u82 u83 u84 u85 u86 u87 u88 u89 u90 u91 u92 u93 u94 u95 u96 u97 u98 u99 u100 u101 u102 u103 u104 u105 u106 u107 u108 u109 u110 u111 u112 u113 u114 u115 u116 u117 u118 u119 u120 u121 u122 u123 u124 u125 u126 u127 u128 u129 u130 u131 u132 u133 u134 u135 u136 u137 u138 u139 u140 u141 u142 u143 u144 u145 u146 u147 u148 u149 u150 u151 u152 u153 u154 u155 u156 u157 u158 u159 u160 u161 u162 u163 u164 u165 u166 u167 u168 wz ⟨fs2, ps2, held2, base2, now2, hst, hinv⟩
          go_wp2_with fail
          go_meet
          case rel => exact ⟨rfl, fs2, ps2, held2, base2, now2, hst, hinv⟩
        case rest =>
          clear HI
          obtain ⟨rfl, fs, ps, held, base, now, hst, hinv⟩ := hcut
          have HST := Lib.hid hst
          have HI := Lib.hid hinv
          clear hst hinv d0 d4 HQ9 HS1
          obtain ⟨wo, hwo⟩ : ∃ wo : World, wo = wc := ⟨_, rfl⟩
          rw [← hwo] at HST ⊢
          clear hwo
          go_wp2_with fail
          go_loopg [16] 8 (fun g j wx => ∃ m : Nat, g = 8 - m ∧ m ≤ 8 ∧ j = .int .i64 m ∧ Only [] wo wx)
          case atStart => exact ⟨0, rfl, by omega, rfl, Only.refl _ _⟩
          case round =>
            obtain ⟨m, hgm, hm, rfl, hon⟩ := hrel
            have HGM := Lib.hid hgm
            have HON := Lib.hid hon
            have HS2 := Lib.hid (HST.out.only hon)
            clear hon hgm
            by_cases hm8 : m < 8
            · have hm0 : (0 : Int) ≤ m := by omega
              have hm1 : (m : Int) < 8 := by omega
              have hhp : m < held.length := by rw [HI.out.hl]; exact hm8
              obtain ⟨b, hb⟩ : ∃ b, base[m]? = some b := ⟨base[m]'(by rw [HI.out.bl]; exact hm8), List.getElem?_eq_getElem _⟩
              obtain ⟨n, hn⟩ : ∃ n, now[m]? = some n := ⟨now[m]'(by rw [HI.out.nl]; exact hm8), List.getElem?_eq_getElem _⟩
              obtain ⟨LZ, hLZ⟩ : ∃ l, Hid (by8 zeroP = l) := ⟨_, Lib.hid rfl⟩
              have LLZ : Hid (LZ.length = 32) := by rw [← hLZ.out]; rfl
              have hal := page_zero
              rw [hLZ.out] at hal
              have HB := Lib.hid hb
              have HN := Lib.hid hn
              clear hb hn
              cases hh : held[m] with
              | false =>
                have hh' : held[m]? = some false := by rw [List.getElem?_eq_getElem hhp, hh]
                have HH := Lib.hid hh'
                have oneZ : Hid (LZ.toArray.all (·.oneCell') = true) := by rw [← hLZ.out]; exact by8_one _
                have HPage := Lib.hid (st_Page_no HS2.out HI.out hm8 hh')
                rw [hLZ.out] at HPage
                clear hh hh' hhp hm8
                go_wp2_with fail
                refine HPage.out.mono ?_
                rintro e w4 ⟨rfl, ho⟩
                have HO4 := Lib.hid (HON.out.trans ho (by simp))
                have HT := Lib.hid (twoP_spec w4 LZ LZ LZ LLZ.out LLZ.out LLZ.out)
                obtain ⟨w5, hw5⟩ : ∃ x, Hid (twoP w4 LZ LZ LZ = x) := ⟨_, Lib.hid rfl⟩
                have hw5' : Hid ((((w4.alloc (.cells LZ.toArray 32)).alloc (.cells LZ.toArray 32)).setCells w4.heap.size 0 LZ).setCells (w4.heap.size + 1) 0 LZ = w5) := hw5
                rw [hw5.out] at HT
                have HS5 := Lib.hid (HST.out.only (HO4.out.trans HT.out.on (by simp)))
                have HO5 := Lib.hid (HO4.out.trans HT.out.on (by simp))
                have c7 := HS5.out.ar.held_ HH.out
                clear ho HPage hw5
                go_wp2_with (first | (refine wpList_alloc_as rfl 32 rfl LZ.toArray (hal _) ?_) | (refine wpList_store_mid rfl 32 _ _ rfl w4.heap.size 0 LZ.toArray rfl rfl HT.out.t0 (by rw [gpage_size]; simp [LLZ.out]) oneZ.out ?_) | (refine wpList_store_mid rfl 32 _ _ rfl (w4.heap.size + 1) 0 LZ.toArray (by go_simp) (by go_simp) HT.out.t1 (by rw [gpage_size]; simp [LLZ.out]) oneZ.out ?_; simp only [List.toList_toArray]; rw [hw5'.out]))
                clear hal
                go_quiet (fail)
                go_wp2_with fail
                go_roundg (8 - (m + 1))
                case measure => have := HGM.out; omega
                case rel => exact ⟨m + 1, rfl, by omega, by go_num, HO5.out.drewN _⟩
              | true =>
                have hh' : held[m]? = some true := by rw [List.getElem?_eq_getElem hhp, hh]
                have HH := Lib.hid hh'
                have HPage := Lib.hid (st_Page_ok HS2.out HI.out hm8 hh' b n HB.out HN.out)
                have LB : Hid ((by8 b.l).length = 32) := Lib.hid (by simp [by8, b.h])
                have LN : Hid ((by8 n.l).length = 32) := Lib.hid (by simp [by8, n.h])
                clear hh hh' hhp hm8
                go_wp2_with fail
                refine HPage.out.mono ?_
                rintro e w4 ⟨rfl, ho⟩
                have HO4 := Lib.hid (HON.out.trans ho (by simp))
                have HT := Lib.hid (twoP_spec w4 LZ (by8 b.l) (by8 n.l) LLZ.out LB.out LN.out)
                obtain ⟨w5, hw5⟩ : ∃ x, Hid (twoP w4 LZ (by8 b.l) (by8 n.l) = x) := ⟨_, Lib.hid rfl⟩
                have hw5' : Hid ((((w4.alloc (.cells LZ.toArray 32)).alloc (.cells LZ.toArray 32)).setCells w4.heap.size 0 (by8 b.l)).setCells (w4.heap.size + 1) 0 (by8 n.l) = w5) := hw5
                rw [hw5.out] at HT
                have HS5 := Lib.hid (HST.out.only (HO4.out.trans HT.out.on (by simp)))
                have HO5 := Lib.hid (HO4.out.trans HT.out.on (by simp))
                have c7 := HS5.out.ar.held_ HH.out
                clear ho HPage hw5
                go_wp2_with (first | (refine wpList_alloc_as rfl 32 rfl LZ.toArray (hal _) ?_) | (refine wpList_store_mid rfl 32 _ _ rfl w4.heap.size 0 (by8 b.l).toArray rfl rfl HT.out.t0 (by rw [gpage_size]; simp [LB.out]) (by8_one _) ?_) | (refine wpList_store_mid rfl 32 _ _ rfl (w4.heap.size + 1) 0 (by8 n.l).toArray (by go_simp) (by go_simp) HT.out.t1 (by rw [gpage_size]; simp [LN.out]) (by8_one _) ?_; simp only [List.toList_toArray]; rw [hw5'.out]))
                clear hal
                refine wp_region_quiet_lit (by kernel_rfl) (by kernel_rfl) ?_
                iterate 8 (quiet_step (fail))
                refine wpQuiet_run (.agg (by8 b.l).toArray) (by rfl) (fun w2 hC => ?_) ?_
                · obtain ⟨nq, rfl⟩ := hC
                  exact exec_load_mid 32 _ rfl w4.heap.size 0 rfl _ _ HT.out.b0.range0 Tryd.underlying32 rfl (by rw [gpage_size, LB.out])
                iterate 2 (quiet_step (fail))
                refine wpQuiet_run (.agg (by8 b.l).toArray) (by rfl) (fun w2 hC => ?_) ?_
                · obtain ⟨nq, rfl⟩ := hC
                  exact exec_load_mid 32 _ rfl B.q5 (m * 32) rfl _ _ (HS5.out.ar.base_ HB.out) Tryd.underlying32 rfl (by rw [gpage_size, LB.out])
                refine wpQuiet_run (.bool false) (by rfl) (fun w2 hC => ?_) ?_
                · exact exec_bin .neq 32 _ _ _ rfl (.agg (by8 b.l).toArray) (.agg (by8 b.l).toArray) _ (by rfl) (by rfl) rfl (page_neq b.l b.l b.h b.h false (by simp) _)
                quiet_step (fail)
                refine wpQuiet_run (.agg (by8 n.l).toArray) (by rfl) (fun w2 hC => ?_) ?_
                · obtain ⟨nq, rfl⟩ := hC
                  exact exec_load_mid 32 _ rfl (w4.heap.size + 1) 0 rfl _ _ HT.out.b1.range0 Tryd.underlying32 rfl (by rw [gpage_size, LN.out])
                iterate 2 (quiet_step (fail))
                refine wpQuiet_run (.agg (by8 n.l).toArray) (by rfl) (fun w2 hC => ?_) ?_
                · obtain ⟨nq, rfl⟩ := hC
                  exact exec_load_mid 32 _ rfl B.q6 (m * 32) rfl _ _ (HS5.out.ar.now_ HN.out) Tryd.underlying32 rfl (by rw [gpage_size, LN.out])
                refine wpQuiet_run (.bool false) (by rfl) (fun w2 hC => ?_) ?_
                · exact exec_bin .neq 32 _ _ _ rfl (.agg (by8 n.l).toArray) (.agg (by8 n.l).toArray) _ (by rfl) (by rfl) rfl (page_neq n.l n.l n.h n.h false (by simp) _)
                repeat (quiet_step (fail))
                refine wpQuiet_nil ?_
                intro _ hw'
                obtain ⟨nq, rfl⟩ := hw'
                go_wp2_with fail
                go_roundg (8 - (m + 1))
                case measure => have := HGM.out; omega
                case rel => exact ⟨m + 1, rfl, by omega, by go_num, HO5.out.drewN _⟩
            · obtain rfl : m = 8 := by omega
              go_wp2_with fail
              refine (st_Dirty HS2.out HI.out).mono ?_
              rintro e w4 ⟨dv, rfl, hown, ho⟩
              have HO4 := Lib.hid (HON.out.trans ho (by simp))
              have HS4 := Lib.hid (HST.out.only HO4.out)
              have HR := Lib.hid hown.reads
              obtain ⟨A2, cp2, rfl⟩ := hown.slice
              obtain ⟨dn, hdn⟩ : ∃ n, Hid ((wantL held base now).length = n) := ⟨_, Lib.hid rfl⟩
              rw [hdn.out] at HR ⊢
              clear ho hown HS2 HON
              go_wp2_with fail
              go_loopg [21, 22] 8 (fun g s21 s22 wx => ∃ m : Nat, g = 8 - m ∧ m ≤ 8 ∧ s22 = .int .i64 m ∧ s21 = .int .i64 (wantP held base now m).length ∧ Only [] w4 wx)
              case atStart => exact ⟨0, rfl, by omega, rfl, rfl, Only.refl _ _⟩
              case round =>
                obtain ⟨m, hgm, hm, rfl, rfl, hon⟩ := hrel
                have HGM2 := Lib.hid hgm
                have HON := Lib.hid hon
                have HS5 := Lib.hid (HS4.out.only hon)
                clear hon hgm
                obtain ⟨an, han⟩ : ∃ n, Hid ((wantP held base now m).length = n) := ⟨_, Lib.hid rfl⟩
                rw [han.out]
                by_cases hm8 : m < 8
                · have hm0 : (0 : Int) ≤ m := by omega
                  have hm1 : (m : Int) < 8 := by omega
                  have hhp : m < held.length := by rw [HI.out.hl]; exact hm8
                  obtain ⟨b, hb⟩ : ∃ b, base[m]? = some b := ⟨base[m]'(by rw [HI.out.bl]; exact hm8), List.getElem?_eq_getElem _⟩
                  obtain ⟨n, hn⟩ : ∃ n, now[m]? = some n := ⟨now[m]'(by rw [HI.out.nl]; exact hm8), List.getElem?_eq_getElem _⟩
                  have LB : Hid ((by8 b.l).length = 32) := Lib.hid (by simp [by8, b.h])
                  have LN : Hid ((by8 n.l).length = 32) := Lib.hid (by simp [by8, n.h])
                  have HB := Lib.hid hb
                  have HN := Lib.hid hn
                  have HM8 := Lib.hid hm8
                  cases hh : held[m] with
                  | false =>
                    have hh' : held[m]? = some false := by rw [List.getElem?_eq_getElem hhp, hh]
                    have HD : Hid ((wantP held base now (m + 1)).length = an) := Lib.hid (by
                      rw [← han.out, wantP_succ, show isD held base now m = false from by unfold isD; rw [hh']]; simp)
                    have c7 := HS5.out.ar.held_ hh'
                    clear hh hh' hhp hm8 hb hn
                    go_wp2_with fail
                    go_quiet (fail)
                    go_wp2_with fail
                    go_roundg (8 - (m + 1))
                    case measure => have := HGM2.out; omega
                    case rel => exact ⟨m + 1, rfl, by omega, by go_num, by rw [HD.out], HON.out.drewN _⟩
                  | true =>
                    have hh' : held[m]? = some true := by rw [List.getElem?_eq_getElem hhp, hh]
                    have hisd : isD held base now m = decide (b.l ≠ n.l) := by unfold isD; rw [hh', hb, hn]
                    have HIsD := Lib.hid hisd
                    obtain ⟨dd, hdd⟩ : ∃ d, Hid (decide (b.l ≠ n.l) = d) := ⟨_, Lib.hid rfl⟩
                    have c7 := HS5.out.ar.held_ hh'
                    clear hh hh' hhp hb hn hisd hm8
                    go_wp2_with fail
                    refine wp_region_quiet_lit (by kernel_rfl) (by kernel_rfl) ?_
                    iterate 6 (quiet_step (fail))
                    refine wpQuiet_run (.agg (by8 b.l).toArray) (by rfl) (fun w2 hC => ?_) ?_
                    · obtain ⟨nq, rfl⟩ := hC
                      exact exec_load_mid 32 _ rfl B.q5 (m * 32) rfl _ _ (HS5.out.ar.base_ HB.out) Tryd.underlying32 rfl (by rw [gpage_size, LB.out])
                    iterate 2 (quiet_step (fail))
                    refine wpQuiet_run (.agg (by8 n.l).toArray) (by rfl) (fun w2 hC => ?_) ?_
                    · obtain ⟨nq, rfl⟩ := hC
                      exact exec_load_mid 32 _ rfl B.q6 (m * 32) rfl _ _ (HS5.out.ar.now_ HN.out) Tryd.underlying32 rfl (by rw [gpage_size, LN.out])
                    refine wpQuiet_run (.bool dd) (by rfl) (fun w2 hC => ?_) ?_
                    · exact exec_bin .neq 32 _ _ _ rfl (.agg (by8 b.l).toArray) (.agg (by8 n.l).toArray) _ (by rfl) (by rfl) rfl (page_neq b.l n.l b.h n.h dd hdd.out _)
                    repeat (quiet_step (fail))
                    refine wpQuiet_nil ?_
                    intro _ hw'
                    obtain ⟨nq, rfl⟩ := hw'
                    cases dd with
                    | false =>
                      have HD : Hid ((wantP held base now (m + 1)).length = an) := Lib.hid (by
                        rw [← han.out, wantP_succ, HIsD.out, hdd.out]; simp)
                      go_wp2_with fail
                      go_roundg (8 - (m + 1))
                      case measure => have := HGM2.out; omega
                      case rel => exact ⟨m + 1, rfl, by omega, by go_num, by rw [HD.out], HON.out.drewN _⟩
                    | true =>
                      have HD : Hid ((wantP held base now (m + 1)).length = an + 1) := Lib.hid (by
                        rw [← han.out, wantP_succ, HIsD.out, hdd.out]; simp)
                      obtain ⟨hlt1, hat⟩ := wantP_at held base now HM8.out (HIsD.out.trans hdd.out)
                      rw [han.out] at hlt1 hat
                      obtain ⟨A3, cp3, he, hall⟩ := HR.out
                      obtain ⟨bk, of, hA3, hcl⟩ := hall an hlt1
                      rw [List.getD_eq_getElem?_getD, hat, Option.getD_some] at hcl
                      rw [hdn.out] at hlt1 he
                      injection he with he1 he2 he3
                      rw [hA3] at he1
                      subst he1
                      have hcl5 : wr.cell? ⟨bk, of + an, none⟩ = some (.int .i64 m) := (HON.out.cell (p := ⟨bk, of + an, none⟩) (World.block_lt_of_cell? _ _ hcl) (by simp)).trans hcl
                      have ha0 : (0 : Int) ≤ an := by omega
                      have ha1 : (an : Int) < dn := by omega
                      have hdl : (dn : Int) ≤ 8 := by
                        have h1 := hdn.out
                        have h2 : (wantL held base now).length ≤ 8 := by unfold wantL; rw [List.length_map]; exact Nat.le_trans (List.length_filter_le _ _) (by simp)
                        omega
                      clear hat hall hA3 he2 he3 hcl
                      go_wp2_with fail
                      go_roundg (8 - (m + 1))
                      case measure => have := HGM2.out; omega
                      case rel => exact ⟨m + 1, rfl, by omega, by go_num, by rw [HD.out]; go_num, HON.out.drewN _⟩
                · obtain rfl : m = 8 := by omega
                  obtain rfl : an = dn := by rw [← han.out, ← hdn.out]; rfl
                  have hk9 : (k : Int) < 1000 := by have := HL150.out; have := HLt.out; omega
                  go_wp2_with fail
                  go_roundg (ln - (k + 1))
                  case measure => have := HGK.out; have := HLt.out; omega
                  case rel => exact ⟨k + 1, fs, ps, held, base, now, rfl, HLt.out, by go_num, HS5.out, HI.out⟩
      · obtain rfl : k = ln := by omega
        go_wp2_with fail
        refine (wakes_holds wr (HG.out.only HST.out.on)).mono ?_
        rintro e w3 ⟨rfl, ho⟩
        have HO3 := Lib.hid (HST.out.on.trans ho (by simp))
        clear ho
        go_wp2_with fail
        go_ret
        exact ⟨rfl, HO3.out⟩
end Go.Proofs.YtbfgpghfofmanaaDoor
