/-
  FramesKeep: the round's switch. Printed by gen_framesP.py.
-/
import Derived.Test.YtbfgpghfofmanaaDoorFramesO
import Derived.Deep.LoopGhost
import Derived.Deep.DeepCutAuto
import Derived.Deep.CutBlock
namespace Go.Proofs.YtbfgpghfofmanaaDoor
open Go.RowKit

def findBlk (n : Nat) : Code → Option Code
  | .block k c => if k == n then some (.block k c) else findBlk n c
  | .seq a b => match findBlk n a with
    | some c => some c
    | none => findBlk n b
  | .loop c => findBlk n c
  | .scope c => findBlk n c
  | .cond _ a b => match findBlk n a with
    | some c => some c
    | none => findBlk n b
  | _ => none
noncomputable def keepSwitch : Code := ((Tryd.f3.body.bind (findBlk 2)).getD .skip)

set_option maxRecDepth 100000 in
set_option maxHeartbeats 8000000 in
theorem switch_walk {code : Code} (hcode : code = keepSwitch) {w wb : World} {B : Bks} {fs : List CF} {ps : List PG} {held : List Bool} {base now : List B32} {p q q9 : Nat} {xk xv : Int} {K' : Act → World → Prop} {Q' : Exit → Act → World → Prop}
    {v0 v1 v2 v4 v8 v12 v13 v14 v15 v16 v17 v18 v19 v20 v21 v22 v23 v24 v25 v26 v27 v28 v29 v30 v31 v32 v33 v34 v35 v36 v37 v38 v39 v40 v41 v42 v43 v44 v45 v46 v47 v48 v49 v50 v51 v52 v53 v54 v55 v56 v57 v58 v59 v60 v61 v62 v63 v64 v65 v66 v67 v68 v69 v70 v71 v72 v73 v75 v76 v77 v78 v79 v80 v81 v82 v83 v84 v85 v86 v87 v88 v89 v90 v91 v92 v93 v94 v95 v96 v97 v98 v99 v100 v101 v102 v103 v104 v105 v106 v107 v108 v109 v110 v111 v112 v113 v114 v115 v116 v117 v118 v119 v120 v121 v122 v123 v124 v125 v126 v127 v128 v129 v130 v131 v132 v133 v134 v135 v136 v137 v138 v139 v140 v141 v142 v143 v144 v145 v146 v147 v148 v149 v150 v151 v152 v153 v154 v155 v156 v157 v158 v159 v160 v161 v162 v163 v164 v165 v166 v167 v168 v169 v170 v171 v172 v173 v174 v175 v176 v177 v178 v179 v180 v181 v182 v183 v184 v185 v186 v187 v188 v189 v190 v191 v192 v193 v194 v195 v196 v197 v198 v199 v200 v201 v202 v203 v204 v205 v206 v207 v208 v209 v210 v211 v212 v213 v214 v215 v216 v217 v218 v219 v220 v221 v222 v223 v224 v225 v226 v227 v228 v229 v230 v231 v232 v233 v234 v235 v236 v237 v238 : Value}
    (hQP : ∀ c (a : Act) d v wz, Q' (.panic c) (a.put d v) wz → Q' (.panic c) a wz) (hst : St w wb B fs ps held base now) (hinv : Inv fs ps held base now) (hp : p < 8) (hq : q < 4) (hq9 : q9 ≠ B.q5 ∧ q9 ≠ B.q6 ∧ q9 ≠ B.q7 ∧ q9 ≠ B.fb ∧ q9 ≠ B.pb) (d4 : wb.cell? ⟨q9, 4, none⟩ = some (.int .u8 xv))
    (hK : ∀ (u12 u13 u14 u15 u75 u76 u77 u78 u79 u80 u81 u82 u83 u84 u85 u86 u87 u88 u89 u90 u91 u92 u93 u94 u95 u96 u97 u98 u99 u100 u101 u102 u103 u104 u105 u106 u107 u108 u109 u110 u111 u112 u113 u114 u115 u116 u117 u118 u119 u120 u121 u122 u123 u124 u125 u126 u127 u128 u129 u130 u131 u132 u133 u134 u135 u136 u137 u138 u139 u140 u141 u142 u143 u144 u145 u146 u147 u148 u149 u150 u151 u152 u153 u154 u155 u156 u157 u158 u159 u160 u161 u162 u163 u164 u165 u166 u167 u168 : Value) (wz : World), (∃ (fs : List CF) (ps : List PG) (held : List Bool) (base now : List B32), St w wz B fs ps held base now ∧ Inv fs ps held base now) → K' ⟨#[v0, v1, v2, .pointer (some ⟨B.f, 0, none⟩), v4, .pointer (some ⟨B.q5, 0, none⟩), .pointer (some ⟨B.q6, 0, none⟩), .pointer (some ⟨B.q7, 0, none⟩), v8, .pointer (some ⟨q9, 0, none⟩), .int .i64 p, .int .i64 q, u12, u13, u14, u15, v16, v17, v18, v19, v20, v21, v22, v23, v24, v25, v26, v27, v28, v29, v30, v31, v32, v33, v34, v35, v36, v37, v38, v39, v40, v41, v42, v43, v44, v45, v46, v47, v48, v49, v50, v51, v52, v53, v54, v55, v56, v57, v58, v59, v60, v61, v62, v63, v64, v65, v66, v67, v68, v69, v70, v71, v72, v73, .int .i64 xk, u75, u76, u77, u78, u79, u80, u81, u82, u83, u84, u85, u86, u87, u88, u89, u90, u91, u92, u93, u94, u95, u96, u97, u98, u99, u100, u101, u102, u103, u104, u105, u106, u107, u108, u109, u110, u111, u112, u113, u114, u115, u116, u117, u118, u119, u120, u121, u122, u123, u124, u125, u126, u127, u128, u129, u130, u131, u132, u133, u134, u135, u136, u137, u138, u139, u140, u141, u142, u143, u144, u145, u146, u147, u148, u149, u150, u151, u152, u153, u154, u155, u156, u157, u158, u159, u160, u161, u162, u163, u164, u165, u166, u167, u168, v169, v170, v171, v172, v173, v174, v175, v176, v177, v178, v179, v180, v181, v182, v183, v184, v185, v186, v187, v188, v189, v190, v191, v192, v193, v194, v195, v196, v197, v198, v199, v200, v201, v202, v203, v204, v205, v206, v207, v208, v209, v210, v211, v212, v213, v214, v215, v216, v217, v218, v219, v220, v221, v222, v223, v224, v225, v226, v227, v228, v229, v230, v231, v232, v233, v234, v235, v236, v237, v238], []⟩ wz) :
    code.wp Tryd.prog (Exit.then K' Q') ⟨#[v0, v1, v2, .pointer (some ⟨B.f, 0, none⟩), v4, .pointer (some ⟨B.q5, 0, none⟩), .pointer (some ⟨B.q6, 0, none⟩), .pointer (some ⟨B.q7, 0, none⟩), v8, .pointer (some ⟨q9, 0, none⟩), .int .i64 p, .int .i64 q, v12, v13, v14, v15, v16, v17, v18, v19, v20, v21, v22, v23, v24, v25, v26, v27, v28, v29, v30, v31, v32, v33, v34, v35, v36, v37, v38, v39, v40, v41, v42, v43, v44, v45, v46, v47, v48, v49, v50, v51, v52, v53, v54, v55, v56, v57, v58, v59, v60, v61, v62, v63, v64, v65, v66, v67, v68, v69, v70, v71, v72, v73, .int .i64 xk, v75, v76, v77, v78, v79, v80, v81, v82, v83, v84, v85, v86, v87, v88, v89, v90, v91, v92, v93, v94, v95, v96, v97, v98, v99, v100, v101, v102, v103, v104, v105, v106, v107, v108, v109, v110, v111, v112, v113, v114, v115, v116, v117, v118, v119, v120, v121, v122, v123, v124, v125, v126, v127, v128, v129, v130, v131, v132, v133, v134, v135, v136, v137, v138, v139, v140, v141, v142, v143, v144, v145, v146, v147, v148, v149, v150, v151, v152, v153, v154, v155, v156, v157, v158, v159, v160, v161, v162, v163, v164, v165, v166, v167, v168, v169, v170, v171, v172, v173, v174, v175, v176, v177, v178, v179, v180, v181, v182, v183, v184, v185, v186, v187, v188, v189, v190, v191, v192, v193, v194, v195, v196, v197, v198, v199, v200, v201, v202, v203, v204, v205, v206, v207, v208, v209, v210, v211, v212, v213, v214, v215, v216, v217, v218, v219, v220, v221, v222, v223, v224, v225, v226, v227, v228, v229, v230, v231, v232, v233, v234, v235, v236, v237, v238], []⟩ wb := by
  subst hcode
  have HQP := Lib.hid hQP
  have HK := Lib.hid hK
  have HS1 := Lib.hid hst
  have HI := Lib.hid hinv
  have HQ9 := Lib.hid hq9
  clear hst hinv hq9 hK hQP
  conv => arg 2; whnf
  have hp0 : (0 : Int) ≤ p := by omega
  have hp1 : (p : Int) < 8 := by omega
  have hq0 : (0 : Int) ≤ q := by omega
  have hq1 : (q : Int) < 4 := by omega
  have HP := Lib.hid hp
  have HQ := Lib.hid hq
  obtain ⟨b, hb⟩ : ∃ b, base[p]? = some b := ⟨base[p]'(by rw [HI.out.bl]; exact hp), List.getElem?_eq_getElem _⟩
  obtain ⟨n, hn⟩ : ∃ n, now[p]? = some n := ⟨now[p]'(by rw [HI.out.nl]; exact hp), List.getElem?_eq_getElem _⟩
  obtain ⟨hd, hh⟩ : ∃ h, held[p]? = some h := ⟨held[p]'(by rw [HI.out.hl]; exact hp), List.getElem?_eq_getElem _⟩
  have HB := Lib.hid hb
  have HN := Lib.hid hn
  have HH := Lib.hid hh
  clear hp hq hb hn hh
  by_cases k0 : xk = 0
  · subst k0
    obtain ⟨LV, hLV⟩ : ∃ l, Hid (by8 (leafP xv) = l) := ⟨_, Lib.hid rfl⟩
    have LLV : Hid (LV.length = 32) := by rw [← hLV.out]; simp [Hid, by8, leafP]
    have oneV : Hid (LV.toArray.all (·.oneCell') = true) := by rw [← hLV.out]; exact by8_one _
    obtain ⟨bV, hbV1⟩ : ∃ bV : B32, Hid (bV = ⟨leafP xv, by simp [leafP]⟩) := ⟨_, Lib.hid rfl⟩
    have hbV : Hid (by8 bV.l = LV) := by rw [hbV1.out]; exact hLV
    have HKey := Lib.hid (st_Key HS1.out q)
    rcases HI.out.keyR_cases (q : Int) with hkr | ⟨i, F, hqi, hF, hF0, hF8, hkr⟩
    · rw [hkr] at HKey
      have hkr0 := Lib.hid hkr
      clear hkr
      go_wp2_with fail
      refine (st_Clock HS1.out).mono ?_
      rintro e wz ⟨rfl, rfl⟩
      go_wp2_with fail
      refine HKey.out.mono ?_
      rintro e wz ⟨rfl, rfl⟩
      go_wp2_with fail
      refine (hLV.out ▸ keep_Leaf xv _).mono ?_
      rintro e w5 ⟨rfl, ho⟩
      have HS5 := Lib.hid (HS1.out.only ho)
      have e4 : w5.cell? ⟨q9, 4, none⟩ = some (.int .u8 xv) := (ho.cell (p := ⟨q9, 4, none⟩) (World.block_lt_of_cell? _ _ d4) (by simp)).trans d4
      clear ho HKey d4 HS1
      cases hH : holdF fs ps (q : Int) (p : Int) with
      | none =>
        have HHold := Lib.hid (st_Hold_no HS5.out q p (leafP xv) (by simp [leafP]) hH)
        rw [hLV.out] at HHold
        clear hH
        go_wp2_with fail
        refine HHold.out.mono ?_
        rintro e w6 ⟨rfl, ho⟩
        have HS6 := Lib.hid (HS5.out.only ho)
        clear ho
        go_wp2_with fail
        go_quiet (fail)
        go_wp2_with fail
        exact HK.out _ _ _ _ _ _ _ _ _ _ _ _ _ _ _ _ _ _ _ _ _ _ _ _ _ _ _ _ _ _ _ _ _ _ _ _ _ _ _ _ _ _ _ _ _ _ _ _ _ _ _ _ _ _ _ _ _ _ _ _ _ _ _ _ _ _ _ _ _ _ _ _ _ _ _ _ _ _ _ _ _ _ _ _ _ _ _ _ _ _ _ _ _ _ _ _ _ _ _ ⟨fs, ps, held, base, now, HS6.out.only ((Only.refl _ _).drewN _), HI.out⟩
      | some kF =>
        have HHold := Lib.hid (st_Hold_ok HS5.out q p (leafP xv) (by simp [leafP]) kF hH)
        rw [hLV.out] at HHold
        obtain ⟨hg1, -, hg3⟩ := HI.out.holdF_spec HP.out hH
        have hk1 : kF.key = -1 := by
          have hx := hkr0.out
          unfold keyR at hx
          rw [hg1] at hx
          simp only at hx
          split at hx
          · assumption
          · injection hx with hx; have := congrArg (fun a => a[1]?) hx; simp at this
        have hof : heldOff held kF.key = held := by unfold heldOff; rw [if_pos hk1]
        have hFq : fs[q]? = some kF := by obtain ⟨n', hn', hF', _⟩ := getF_some hg1; obtain rfl : q = n' := (by omega); exact hF'
        have hinv := HI.out.hold (b := bV) (Q := ⟨leafP xv, leafP xv, by simp [leafP], by simp [leafP]⟩) HP.out hFq (fun j G h1 h2 => by have := hg3 j G h1 h2; omega) (by rw [hbV1.out]) (by rw [hbV1.out])
        rw [hof] at hinv
        rw [Int.toNat_natCast] at HHold
        obtain ⟨fs2, hfs2⟩ : ∃ l, Hid (fs.set q ⟨(p : Int), true, kF.pins⟩ = l) := ⟨_, Lib.hid rfl⟩
        obtain ⟨ps2, hps2⟩ : ∃ l, Hid (ps.set q ⟨leafP xv, leafP xv, by simp [leafP], by simp [leafP]⟩ = l) := ⟨_, Lib.hid rfl⟩
        obtain ⟨hl2, hhl2⟩ : ∃ l, Hid (held = l) := ⟨_, Lib.hid rfl⟩
        rw [hfs2.out, hps2.out] at HHold
        rw [hfs2.out, hps2.out, hhl2.out] at hinv
        have HInv := Lib.hid hinv
        clear hH hg1 hg3 hk1 hof hFq hinv
        go_wp2_with fail
        refine HHold.out.mono ?_
        rintro e w6 ⟨rfl, hst, ho⟩
        have e6 : w6.cell? ⟨q9, 4, none⟩ = some (.int .u8 xv) := (ho.cell (p := ⟨q9, 4, none⟩) (World.block_lt_of_cell? _ _ e4) (by simpa using HQ9.out.2.2.2)).trans e4
        have HS6 := Lib.hid hst
        clear ho hst e4
        go_wp2_with fail
        go_quiet (fail)
        go_wp2_with fail
        have hS0 : (w6.drewN nq).drew.cell? ⟨q9, 4, none⟩ = some (.int .u8 xv) := e6
        have HS7 : Hid (St w (w6.drewN nq).drew B fs2 ps2 hl2 base now) := Lib.hid (by have := HS6.out.only ((Only.refl [] w6).drewN nq).drew; rw [hhl2.out] at this; exact this)
        rw [hhl2.out] at HH
        refine wp_region_C 15 (fun wz => wz.cell? ⟨q9, 4, none⟩ = some (.int .u8 xv)) (by kernel_rfl) ?_
        refine wpAnyC_take 0 (v := ?_) rfl (by kernel_rfl) (fun _ _ _ h => HQP.out _ _ _ _ _ h) (by rfl) ?_ hS0 ?_
        rotate_left
        · ((intro w hS; clear hS; go_simp) <;> with_reducible rfl)
        refine wpAnyC_take 1 (v := ?_) rfl (by kernel_rfl) (fun _ _ _ h => HQP.out _ _ _ _ _ h) (by rfl) ?_ hS0 ?_
        rotate_left
        · ((intro w hS; clear hS; go_simp) <;> with_reducible rfl)
        refine wpAnyC_take 2 (v := ?_) rfl (by kernel_rfl) (fun _ _ _ h => HQP.out _ _ _ _ _ h) (by rfl) ?_ hS0 ?_
        rotate_left
        · ((intro w hS; clear hS; go_simp) <;> with_reducible rfl)
        refine wpAnyC_take 3 (v := ?_) rfl (by kernel_rfl) (fun _ _ _ h => HQP.out _ _ _ _ _ h) (by rfl) ?_ hS0 ?_
        rotate_left
        · ((intro w hS; clear hS; go_simp) <;> with_reducible rfl)
        refine wpAnyC_take 4 (v := ?_) rfl (by kernel_rfl) (fun _ _ _ h => HQP.out _ _ _ _ _ h) (by rfl) ?_ hS0 ?_
        rotate_left
        · ((intro w hS; obtain h1 := hS; go_simp) <;> with_reducible rfl)
        refine wpAnyC_take 6 (v := ?_) rfl (by kernel_rfl) (fun _ _ _ h => HQP.out _ _ _ _ _ h) (by rfl) ?_ hS0 ?_
        rotate_left
        · ((intro w hS; clear hS; go_simp) <;> with_reducible rfl)
        refine wpAnyC_take 7 (v := ?_) rfl (by kernel_rfl) (fun _ _ _ h => HQP.out _ _ _ _ _ h) (by rfl) ?_ hS0 ?_
        rotate_left
        · ((intro w hS; obtain h1 := hS; go_simp) <;> with_reducible rfl)
        refine wpAnyC_take 9 (v := ?_) rfl (by kernel_rfl) (fun _ _ _ h => HQP.out _ _ _ _ _ h) (by rfl) ?_ hS0 ?_
        rotate_left
        · ((intro w hS; clear hS; go_simp) <;> with_reducible rfl)
        refine wpAnyC_one (i := 5) (by kernel_rfl) rfl (fun K hK => ?_)
        go_simp
        go_wp2_with fail
        refine (hLV.out ▸ keep_Leaf xv _).mono ?_
        rintro e wA ⟨rfl, hoL⟩
        have hSA : wA.cell? ⟨q9, 4, none⟩ = some (.int .u8 xv) := (hoL.cell (p := ⟨q9, 4, none⟩) (World.block_lt_of_cell? _ _ hS0) (by simp)).trans hS0
        have HSA := Lib.hid (HS7.out.only hoL)
        clear hoL
        refine hK _ _ (fun h => hSA) ?_; clear hK K
        refine wpAnyC_one (i := 8) (by kernel_rfl) rfl (fun K hK => ?_)
        go_simp
        go_wp2_with fail
        refine (hLV.out ▸ keep_Leaf xv _).mono ?_
        rintro e wB ⟨rfl, hoL⟩
        have hSB : wB.cell? ⟨q9, 4, none⟩ = some (.int .u8 xv) := (hoL.cell (p := ⟨q9, 4, none⟩) (World.block_lt_of_cell? _ _ hSA) (by simp)).trans hSA
        have HSB := Lib.hid (HSA.out.only hoL)
        clear hoL
        have h7 := HSB.out.cell7 HH.out
        have c7 := h7.1
        have f7 := h7.2
        clear h7
        refine hK _ _ (fun h => hSB) ?_; clear hK K
        refine wpAnyC_one (i := 10) (by kernel_rfl) rfl (fun K hK => ?_)
        go_simp
        have hSC : (wB.setCell ⟨B.q7, p, none⟩ (.bool true)).cell? ⟨q9, 4, none⟩ = some (.int .u8 xv) := (((Only.refl [B.q7] wB).setCell (.inl (by simp)) _).cell (p := ⟨q9, 4, none⟩) (World.block_lt_of_cell? _ _ hSB) (by simpa using HQ9.out.2.2.1)).trans hSB
        have HSC := Lib.hid (HSB.out.setHeld p true)
        obtain ⟨wC, hwC⟩ : ∃ x, Hid (wB.setCell ⟨B.q7, p, none⟩ (.bool true) = x) := ⟨_, Lib.hid rfl⟩
        rw [hwC.out] at hSC HSC ⊢
        have HSD : Hid (St w (wC.setCells B.q5 (p * 32) LV) B fs2 ps2 (hl2.set p true) (base.set p bV) now) := Lib.hid (by have := HSC.out.setBase HB.out bV; rw [hbV.out] at this; exact this)
        have hSD : (wC.setCells B.q5 (p * 32) LV).cell? ⟨q9, 4, none⟩ = some (.int .u8 xv) := ((setCells_only (b := B.q5) LV (p * 32) wC).cell (p := ⟨q9, 4, none⟩) (World.block_lt_of_cell? _ _ hSC) (by simpa using HQ9.out.1)).trans hSC
        have HSE : Hid (St w ((wC.setCells B.q5 (p * 32) LV).setCells B.q6 (p * 32) LV) B fs2 ps2 (hl2.set p true) (base.set p bV) (now.set p bV)) := Lib.hid (by have := HSD.out.setNow HN.out bV; rw [hbV.out] at this; exact this)
        have hSE : ((wC.setCells B.q5 (p * 32) LV).setCells B.q6 (p * 32) LV).cell? ⟨q9, 4, none⟩ = some (.int .u8 xv) := ((setCells_only (b := B.q6) LV (p * 32) _).cell (p := ⟨q9, 4, none⟩) (World.block_lt_of_cell? _ _ hSD) (by simpa using HQ9.out.2.1)).trans hSD
        refine hK _ _ (fun h => hSC) ?_; clear hK K
        clear c7 f7
        refine wpAnyC_take 11 (v := ?_) rfl (by kernel_rfl) (fun _ _ _ h => HQP.out _ _ _ _ _ h) (by rfl) ?_ hSC ?_
        rotate_left
        · ((intro w hS; clear hS; go_simp) <;> with_reducible rfl)
        refine wpAnyC_store 12 (by kernel_rfl) rfl (by rfl) 32 rfl B.q5 (p * 32) LV.toArray (by go_simp) (by go_simp) (by rw [show LV.toArray.size = 32 from by simp [LLV.out]]; exact HSC.out.there5 HB.out) (by rw [gpage_size]; simp [LLV.out]) oneV.out (fun h => hSD) ?_
        refine wpAnyC_take 13 (v := ?_) rfl (by kernel_rfl) (fun _ _ _ h => HQP.out _ _ _ _ _ h) (by rfl) ?_ hSD ?_
        rotate_left
        · ((intro w hS; clear hS; go_simp) <;> with_reducible rfl)
        refine wpAnyC_store 14 (by kernel_rfl) rfl (by rfl) 32 rfl B.q6 (p * 32) LV.toArray (by go_simp) (by go_simp) (by rw [show LV.toArray.size = 32 from by simp [LLV.out]]; exact HSD.out.there6 HN.out) (by rw [gpage_size]; simp [LLV.out]) oneV.out (fun h => hSE) ?_
        refine wpAnyC_done (by kernel_rfl) ?_ _
        go_wp2_with fail
        exact HK.out _ _ _ _ _ _ _ _ _ _ _ _ _ _ _ _ _ _ _ _ _ _ _ _ _ _ _ _ _ _ _ _ _ _ _ _ _ _ _ _ _ _ _ _ _ _ _ _ _ _ _ _ _ _ _ _ _ _ _ _ _ _ _ _ _ _ _ _ _ _ _ _ _ _ _ _ _ _ _ _ _ _ _ _ _ _ _ _ _ _ _ _ _ _ _ _ _ _ _ ⟨fs2, ps2, _, _, _, HSE.out, HInv.out⟩
    · obtain rfl : q = i := by omega
      rw [hkr] at HKey
      obtain ⟨m, hm⟩ : ∃ m : Nat, F.key = m := ⟨F.key.toNat, by omega⟩
      rw [hm] at HKey
      have hm0 : (0 : Int) ≤ m := by omega
      have hm8 : (m : Int) < 8 := by omega
      have hm9 : m < 8 := by omega
      obtain ⟨b2, hb2⟩ : ∃ b, base[m]? = some b := ⟨base[m]'(by rw [HI.out.bl]; exact hm9), List.getElem?_eq_getElem _⟩
      obtain ⟨n2, hn2⟩ : ∃ n, now[m]? = some n := ⟨now[m]'(by rw [HI.out.nl]; exact hm9), List.getElem?_eq_getElem _⟩
      obtain ⟨h2, hh2⟩ : ∃ h, held[m]? = some h := ⟨held[m]'(by rw [HI.out.hl]; exact hm9), List.getElem?_eq_getElem _⟩
      have HB2 := Lib.hid hb2
      have HN2 := Lib.hid hn2
      have HH2 := Lib.hid hh2
      have HF := Lib.hid hF
      have HM := Lib.hid hm
      clear hb2 hn2 hh2 hF hm hkr hF0 hF8 hqi hm9
      go_wp2_with fail
      refine (st_Clock HS1.out).mono ?_
      rintro e wz ⟨rfl, rfl⟩
      go_wp2_with fail
      refine HKey.out.mono ?_
      rintro e wz ⟨rfl, rfl⟩
      go_wp2_with fail
      refine (hLV.out ▸ keep_Leaf xv _).mono ?_
      rintro e w5 ⟨rfl, ho⟩
      have HS5 := Lib.hid (HS1.out.only ho)
      have e4 : w5.cell? ⟨q9, 4, none⟩ = some (.int .u8 xv) := (ho.cell (p := ⟨q9, 4, none⟩) (World.block_lt_of_cell? _ _ d4) (by simp)).trans d4
      clear ho HKey d4 HS1
      obtain ⟨dd, hdd⟩ : ∃ d, Hid (decide (b2.l ≠ n2.l) = d) := ⟨_, Lib.hid rfl⟩
      have LB2 : Hid ((by8 b2.l).length = 32) := Lib.hid (by simp [by8, b2.h])
      have LN2 : Hid ((by8 n2.l).length = 32) := Lib.hid (by simp [by8, n2.h])
      cases hH : holdF fs ps (q : Int) (p : Int) with
      | none =>
        have HHold := Lib.hid (st_Hold_no HS5.out q p (leafP xv) (by simp [leafP]) hH)
        rw [hLV.out] at HHold
        clear hH
        go_wp2_with fail
        refine HHold.out.mono ?_
        rintro e w6 ⟨rfl, ho⟩
        have HS6 := Lib.hid (HS5.out.only ho)
        clear ho
        go_wp2_with fail
        cases dd with
        | false =>
          refine wp_region_quiet_lit (by kernel_rfl) (by kernel_rfl) ?_
          iterate 4 (quiet_step (fail))
          refine wpQuiet_run (.agg (by8 b2.l).toArray) (by rfl) (fun w2 hC => ?_) ?_
          · obtain ⟨nq, rfl⟩ := hC
            exact exec_load_mid 32 _ rfl B.q5 (m * 32) rfl _ _ (HS6.out.ar.base_ HB2.out) Tryd.underlying32 rfl (by rw [gpage_size, LB2.out])
          iterate 2 (quiet_step (fail))
          refine wpQuiet_run (.agg (by8 n2.l).toArray) (by rfl) (fun w2 hC => ?_) ?_
          · obtain ⟨nq, rfl⟩ := hC
            exact exec_load_mid 32 _ rfl B.q6 (m * 32) rfl _ _ (HS6.out.ar.now_ HN2.out) Tryd.underlying32 rfl (by rw [gpage_size, LN2.out])
          refine wpQuiet_run (.bool false) (by rfl) (fun w2 hC => ?_) ?_
          · exact exec_bin .neq 32 _ _ _ rfl (.agg (by8 b2.l).toArray) (.agg (by8 n2.l).toArray) _ (by rfl) (by rfl) rfl (page_neq b2.l n2.l b2.h n2.h false hdd.out _)
          repeat (quiet_step (fail))
          refine wpQuiet_nil ?_
          intro _ hw'
          obtain ⟨nq, rfl⟩ := hw'
          go_wp2_with fail
          exact HK.out _ _ _ _ _ _ _ _ _ _ _ _ _ _ _ _ _ _ _ _ _ _ _ _ _ _ _ _ _ _ _ _ _ _ _ _ _ _ _ _ _ _ _ _ _ _ _ _ _ _ _ _ _ _ _ _ _ _ _ _ _ _ _ _ _ _ _ _ _ _ _ _ _ _ _ _ _ _ _ _ _ _ _ _ _ _ _ _ _ _ _ _ _ _ _ _ _ _ _ ⟨fs, ps, held, base, now, HS6.out.only ((Only.refl _ _).drewN _), HI.out⟩
        | true =>
          refine wp_region_quiet_lit (by kernel_rfl) (by kernel_rfl) ?_
          iterate 4 (quiet_step (fail))
          refine wpQuiet_run (.agg (by8 b2.l).toArray) (by rfl) (fun w2 hC => ?_) ?_
          · obtain ⟨nq, rfl⟩ := hC
            exact exec_load_mid 32 _ rfl B.q5 (m * 32) rfl _ _ (HS6.out.ar.base_ HB2.out) Tryd.underlying32 rfl (by rw [gpage_size, LB2.out])
          iterate 2 (quiet_step (fail))
          refine wpQuiet_run (.agg (by8 n2.l).toArray) (by rfl) (fun w2 hC => ?_) ?_
          · obtain ⟨nq, rfl⟩ := hC
            exact exec_load_mid 32 _ rfl B.q6 (m * 32) rfl _ _ (HS6.out.ar.now_ HN2.out) Tryd.underlying32 rfl (by rw [gpage_size, LN2.out])
          refine wpQuiet_run (.bool true) (by rfl) (fun w2 hC => ?_) ?_
          · exact exec_bin .neq 32 _ _ _ rfl (.agg (by8 b2.l).toArray) (.agg (by8 n2.l).toArray) _ (by rfl) (by rfl) rfl (page_neq b2.l n2.l b2.h n2.h true hdd.out _)
          repeat (quiet_step (fail))
          refine wpQuiet_nil ?_
          intro _ hw'
          obtain ⟨nq, rfl⟩ := hw'
          go_wp2_with fail
          exact HK.out _ _ _ _ _ _ _ _ _ _ _ _ _ _ _ _ _ _ _ _ _ _ _ _ _ _ _ _ _ _ _ _ _ _ _ _ _ _ _ _ _ _ _ _ _ _ _ _ _ _ _ _ _ _ _ _ _ _ _ _ _ _ _ _ _ _ _ _ _ _ _ _ _ _ _ _ _ _ _ _ _ _ _ _ _ _ _ _ _ _ _ _ _ _ _ _ _ _ _ ⟨fs, ps, held, base, now, HS6.out.only ((Only.refl _ _).drewN _), HI.out⟩
      | some kF =>
        have HHold := Lib.hid (st_Hold_ok HS5.out q p (leafP xv) (by simp [leafP]) kF hH)
        rw [hLV.out] at HHold
        obtain ⟨hg1, hg2, hg3⟩ := HI.out.holdF_spec HP.out hH
        have hFq : fs[q]? = some kF := by obtain ⟨n', hn', hF', _⟩ := getF_some hg1; obtain rfl : q = n' := (by omega); exact hF'
        obtain rfl : F = kF := by have h1 := HF.out; rw [hFq] at h1; injection h1 with h1; exact h1.symm
        have hkm : F.key.toNat = m := by rw [HM.out]; simp
        have hd0 : dd = false := by
          have h1 := HI.out.clean_ hFq (by rw [HM.out]; omega) (by rw [HM.out]; omega) hg2 b2 n2 (by rw [hkm]; exact HB2.out) (by rw [hkm]; exact HN2.out)
          rw [← hdd.out]; simp [h1]
        subst hd0
        have hof : heldOff held F.key = held.set m false := by unfold heldOff; rw [if_neg (by rw [HM.out]; omega), hkm]
        have hinv := HI.out.hold (b := bV) (Q := ⟨leafP xv, leafP xv, by simp [leafP], by simp [leafP]⟩) HP.out hFq (fun j G h1 h2 => by have := hg3 j G h1 h2; omega) (by rw [hbV1.out]) (by rw [hbV1.out])
        rw [hof] at hinv
        rw [Int.toNat_natCast] at HHold
        obtain ⟨fs2, hfs2⟩ : ∃ l, Hid (fs.set q ⟨(p : Int), true, F.pins⟩ = l) := ⟨_, Lib.hid rfl⟩
        obtain ⟨ps2, hps2⟩ : ∃ l, Hid (ps.set q ⟨leafP xv, leafP xv, by simp [leafP], by simp [leafP]⟩ = l) := ⟨_, Lib.hid rfl⟩
        obtain ⟨hl2, hhl2⟩ : ∃ l, Hid (held.set m false = l) := ⟨_, Lib.hid rfl⟩
        rw [hfs2.out, hps2.out] at HHold
        rw [hfs2.out, hps2.out, hhl2.out] at hinv
        have HInv := Lib.hid hinv
        have HH9 : Hid (∃ h, hl2[p]? = some h) := Lib.hid ⟨hl2[p]'(by rw [← hhl2.out, List.length_set, HI.out.hl]; exact HP.out), List.getElem?_eq_getElem _⟩
        clear hH hg1 hg2 hg3 hof hFq hinv hkm HH
        obtain ⟨h9, HH⟩ := HH9.out
        have HH := Lib.hid HH
        go_wp2_with fail
        refine HHold.out.mono ?_
        rintro e w6 ⟨rfl, hst, ho⟩
        have e6 : w6.cell? ⟨q9, 4, none⟩ = some (.int .u8 xv) := (ho.cell (p := ⟨q9, 4, none⟩) (World.block_lt_of_cell? _ _ e4) (by simpa using HQ9.out.2.2.2)).trans e4
        have HS6 := Lib.hid hst
        clear ho hst e4
        go_wp2_with fail
        refine wp_region_quiet_lit (by kernel_rfl) (by kernel_rfl) ?_
        iterate 4 (quiet_step (fail))
        refine wpQuiet_run (.agg (by8 b2.l).toArray) (by rfl) (fun w2 hC => ?_) ?_
        · obtain ⟨nq, rfl⟩ := hC
          exact exec_load_mid 32 _ rfl B.q5 (m * 32) rfl _ _ (HS6.out.ar.base_ HB2.out) Tryd.underlying32 rfl (by rw [gpage_size, LB2.out])
        iterate 2 (quiet_step (fail))
        refine wpQuiet_run (.agg (by8 n2.l).toArray) (by rfl) (fun w2 hC => ?_) ?_
        · obtain ⟨nq, rfl⟩ := hC
          exact exec_load_mid 32 _ rfl B.q6 (m * 32) rfl _ _ (HS6.out.ar.now_ HN2.out) Tryd.underlying32 rfl (by rw [gpage_size, LN2.out])
        refine wpQuiet_run (.bool false) (by rfl) (fun w2 hC => ?_) ?_
        · exact exec_bin .neq 32 _ _ _ rfl (.agg (by8 b2.l).toArray) (.agg (by8 n2.l).toArray) _ (by rfl) (by rfl) rfl (page_neq b2.l n2.l b2.h n2.h false hdd.out _)
        repeat (quiet_step (fail))
        refine wpQuiet_nil ?_
        intro _ hw'
        obtain ⟨nq, rfl⟩ := hw'
        obtain ⟨wd, hwd⟩ : ∃ x, Hid (w6.drewN nq = x) := ⟨_, Lib.hid rfl⟩
        have HSd : Hid (St w wd B fs2 ps2 held base now) := Lib.hid (HS6.out.only (by rw [← hwd.out]; exact (Only.refl [] w6).drewN nq))
        have e6d : wd.cell? ⟨q9, 4, none⟩ = some (.int .u8 xv) := by rw [← hwd.out]; exact e6
        rw [hwd.out]
        have h7 := HSd.out.cell7 HH2.out
        have c7 := h7.1
        have f7 := h7.2
        clear h7 e6
        go_wp2_with fail
        have hS0 : (wd.setCell ⟨B.q7, m, none⟩ (.bool false)).drew.cell? ⟨q9, 4, none⟩ = some (.int .u8 xv) := (((Only.refl [B.q7] wd).setCell (p := ⟨B.q7, m, none⟩) (.inl (by simp)) _).cell (p := ⟨q9, 4, none⟩) (World.block_lt_of_cell? _ _ e6d) (by simpa using HQ9.out.2.2.1)).trans e6d
        have HS7 : Hid (St w (wd.setCell ⟨B.q7, m, none⟩ (.bool false)).drew B fs2 ps2 hl2 base now) := Lib.hid (by have := (HSd.out.setHeld m false).only ((Only.refl [] _).drew); rw [hhl2.out] at this; exact this)
        clear c7 f7 e6d
        refine wp_region_C 15 (fun wz => wz.cell? ⟨q9, 4, none⟩ = some (.int .u8 xv)) (by kernel_rfl) ?_
        refine wpAnyC_take 0 (v := ?_) rfl (by kernel_rfl) (fun _ _ _ h => HQP.out _ _ _ _ _ h) (by rfl) ?_ hS0 ?_
        rotate_left
        · ((intro w hS; clear hS; go_simp) <;> with_reducible rfl)
        refine wpAnyC_take 1 (v := ?_) rfl (by kernel_rfl) (fun _ _ _ h => HQP.out _ _ _ _ _ h) (by rfl) ?_ hS0 ?_
        rotate_left
        · ((intro w hS; clear hS; go_simp) <;> with_reducible rfl)
        refine wpAnyC_take 2 (v := ?_) rfl (by kernel_rfl) (fun _ _ _ h => HQP.out _ _ _ _ _ h) (by rfl) ?_ hS0 ?_
        rotate_left
        · ((intro w hS; clear hS; go_simp) <;> with_reducible rfl)
        refine wpAnyC_take 3 (v := ?_) rfl (by kernel_rfl) (fun _ _ _ h => HQP.out _ _ _ _ _ h) (by rfl) ?_ hS0 ?_
        rotate_left
        · ((intro w hS; clear hS; go_simp) <;> with_reducible rfl)
        refine wpAnyC_take 4 (v := ?_) rfl (by kernel_rfl) (fun _ _ _ h => HQP.out _ _ _ _ _ h) (by rfl) ?_ hS0 ?_
        rotate_left
        · ((intro w hS; obtain h1 := hS; go_simp) <;> with_reducible rfl)
        refine wpAnyC_take 6 (v := ?_) rfl (by kernel_rfl) (fun _ _ _ h => HQP.out _ _ _ _ _ h) (by rfl) ?_ hS0 ?_
        rotate_left
        · ((intro w hS; clear hS; go_simp) <;> with_reducible rfl)
        refine wpAnyC_take 7 (v := ?_) rfl (by kernel_rfl) (fun _ _ _ h => HQP.out _ _ _ _ _ h) (by rfl) ?_ hS0 ?_
        rotate_left
        · ((intro w hS; obtain h1 := hS; go_simp) <;> with_reducible rfl)
        refine wpAnyC_take 9 (v := ?_) rfl (by kernel_rfl) (fun _ _ _ h => HQP.out _ _ _ _ _ h) (by rfl) ?_ hS0 ?_
        rotate_left
        · ((intro w hS; clear hS; go_simp) <;> with_reducible rfl)
        refine wpAnyC_one (i := 5) (by kernel_rfl) rfl (fun K hK => ?_)
        go_simp
        go_wp2_with fail
        refine (hLV.out ▸ keep_Leaf xv _).mono ?_
        rintro e wA ⟨rfl, hoL⟩
        have hSA : wA.cell? ⟨q9, 4, none⟩ = some (.int .u8 xv) := (hoL.cell (p := ⟨q9, 4, none⟩) (World.block_lt_of_cell? _ _ hS0) (by simp)).trans hS0
        have HSA := Lib.hid (HS7.out.only hoL)
        clear hoL
        refine hK _ _ (fun h => hSA) ?_; clear hK K
        refine wpAnyC_one (i := 8) (by kernel_rfl) rfl (fun K hK => ?_)
        go_simp
        go_wp2_with fail
        refine (hLV.out ▸ keep_Leaf xv _).mono ?_
        rintro e wB ⟨rfl, hoL⟩
        have hSB : wB.cell? ⟨q9, 4, none⟩ = some (.int .u8 xv) := (hoL.cell (p := ⟨q9, 4, none⟩) (World.block_lt_of_cell? _ _ hSA) (by simp)).trans hSA
        have HSB := Lib.hid (HSA.out.only hoL)
        clear hoL
        have h7 := HSB.out.cell7 HH.out
        have c7 := h7.1
        have f7 := h7.2
        clear h7
        refine hK _ _ (fun h => hSB) ?_; clear hK K
        refine wpAnyC_one (i := 10) (by kernel_rfl) rfl (fun K hK => ?_)
        go_simp
        have hSC : (wB.setCell ⟨B.q7, p, none⟩ (.bool true)).cell? ⟨q9, 4, none⟩ = some (.int .u8 xv) := (((Only.refl [B.q7] wB).setCell (.inl (by simp)) _).cell (p := ⟨q9, 4, none⟩) (World.block_lt_of_cell? _ _ hSB) (by simpa using HQ9.out.2.2.1)).trans hSB
        have HSC := Lib.hid (HSB.out.setHeld p true)
        obtain ⟨wC, hwC⟩ : ∃ x, Hid (wB.setCell ⟨B.q7, p, none⟩ (.bool true) = x) := ⟨_, Lib.hid rfl⟩
        rw [hwC.out] at hSC HSC ⊢
        have HSD : Hid (St w (wC.setCells B.q5 (p * 32) LV) B fs2 ps2 (hl2.set p true) (base.set p bV) now) := Lib.hid (by have := HSC.out.setBase HB.out bV; rw [hbV.out] at this; exact this)
        have hSD : (wC.setCells B.q5 (p * 32) LV).cell? ⟨q9, 4, none⟩ = some (.int .u8 xv) := ((setCells_only (b := B.q5) LV (p * 32) wC).cell (p := ⟨q9, 4, none⟩) (World.block_lt_of_cell? _ _ hSC) (by simpa using HQ9.out.1)).trans hSC
        have HSE : Hid (St w ((wC.setCells B.q5 (p * 32) LV).setCells B.q6 (p * 32) LV) B fs2 ps2 (hl2.set p true) (base.set p bV) (now.set p bV)) := Lib.hid (by have := HSD.out.setNow HN.out bV; rw [hbV.out] at this; exact this)
        have hSE : ((wC.setCells B.q5 (p * 32) LV).setCells B.q6 (p * 32) LV).cell? ⟨q9, 4, none⟩ = some (.int .u8 xv) := ((setCells_only (b := B.q6) LV (p * 32) _).cell (p := ⟨q9, 4, none⟩) (World.block_lt_of_cell? _ _ hSD) (by simpa using HQ9.out.2.1)).trans hSD
        refine hK _ _ (fun h => hSC) ?_; clear hK K
        clear c7 f7
        refine wpAnyC_take 11 (v := ?_) rfl (by kernel_rfl) (fun _ _ _ h => HQP.out _ _ _ _ _ h) (by rfl) ?_ hSC ?_
        rotate_left
        · ((intro w hS; clear hS; go_simp) <;> with_reducible rfl)
        refine wpAnyC_store 12 (by kernel_rfl) rfl (by rfl) 32 rfl B.q5 (p * 32) LV.toArray (by go_simp) (by go_simp) (by rw [show LV.toArray.size = 32 from by simp [LLV.out]]; exact HSC.out.there5 HB.out) (by rw [gpage_size]; simp [LLV.out]) oneV.out (fun h => hSD) ?_
        refine wpAnyC_take 13 (v := ?_) rfl (by kernel_rfl) (fun _ _ _ h => HQP.out _ _ _ _ _ h) (by rfl) ?_ hSD ?_
        rotate_left
        · ((intro w hS; clear hS; go_simp) <;> with_reducible rfl)
        refine wpAnyC_store 14 (by kernel_rfl) rfl (by rfl) 32 rfl B.q6 (p * 32) LV.toArray (by go_simp) (by go_simp) (by rw [show LV.toArray.size = 32 from by simp [LLV.out]]; exact HSD.out.there6 HN.out) (by rw [gpage_size]; simp [LLV.out]) oneV.out (fun h => hSE) ?_
        refine wpAnyC_done (by kernel_rfl) ?_ _
        go_wp2_with fail
        exact HK.out _ _ _ _ _ _ _ _ _ _ _ _ _ _ _ _ _ _ _ _ _ _ _ _ _ _ _ _ _ _ _ _ _ _ _ _ _ _ _ _ _ _ _ _ _ _ _ _ _ _ _ _ _ _ _ _ _ _ _ _ _ _ _ _ _ _ _ _ _ _ _ _ _ _ _ _ _ _ _ _ _ _ _ _ _ _ _ _ _ _ _ _ _ _ _ _ _ _ _ ⟨fs2, ps2, _, _, _, HSE.out, HInv.out⟩
  · have k0b : (xk == 0) = false := by simpa using k0
    by_cases k2 : xk = 2
    · subst k2
      clear k0
      have HWo : Hid (Only [] wb (wb.alloc (.cells #[.int .u8 xv] 5))) := Lib.hid ((Only.refl _ _).alloc _)
      cases hd with
      | false =>
        have HWr := Lib.hid (st_Write_no (HS1.out.only HWo.out) HI.out HP.out HH.out 3 (.slice (some ⟨wb.heap.size, 0, none⟩) 1 1))
        go_wp2_with fail
        refine HWr.out.mono ?_
        rintro e w5 ⟨rfl, ho⟩
        have HS5 := Lib.hid ((HS1.out.only HWo.out).only ho)
        have c7 := HS5.out.ar.held_ HH.out
        clear ho HWr
        go_wp2_with fail
        exact HK.out _ _ _ _ _ _ _ _ _ _ _ _ _ _ _ _ _ _ _ _ _ _ _ _ _ _ _ _ _ _ _ _ _ _ _ _ _ _ _ _ _ _ _ _ _ _ _ _ _ _ _ _ _ _ _ _ _ _ _ _ _ _ _ _ _ _ _ _ _ _ _ _ _ _ _ _ _ _ _ _ _ _ _ _ _ _ _ _ _ _ _ _ _ _ _ _ _ _ _ ⟨fs, ps, held, base, now, HS5.out, HI.out⟩
      | true =>
        have HWr := Lib.hid (st_Write_ok (HS1.out.only HWo.out) HI.out HP.out HH.out 3 (.slice (some ⟨wb.heap.size, 0, none⟩) 1 1) [xv] (readsB1 wb xv) (by unfold fitsP; simp) n HN.out)
        go_wp2_with fail
        refine HWr.out.mono ?_
        rintro e w5 ⟨rfl, ho, fs2, ps2, hst, hinv⟩
        have HS5 := Lib.hid hst
        have HInv := Lib.hid hinv
        have c7 := HS5.out.ar.held_ HH.out
        have hS0 : w5.drew.cell? ⟨q9, 4, none⟩ = some (.int .u8 xv) := (((HWo.out.mono (by simp)).trans ho (G := [B.pb, B.fb]) (F := [B.pb, B.fb]) (fun b hb => .inl hb)).cell (p := ⟨q9, 4, none⟩) (World.block_lt_of_cell? _ _ d4) (by simp; exact ⟨HQ9.out.2.2.2.2, HQ9.out.2.2.2.1⟩)).trans d4
        clear ho HWr hst hinv d4
        go_wp2_with fail
        have h6 := HS5.out.cell6 HN.out
        have c6 : w5.drew.cell? ⟨B.q6, p * 32 + 3, none⟩ = some (.int .u8 (n.l.getD 3 0)) := h6.1
        have f6 : w5.drew.frozen? ⟨B.q6, p * 32 + 3, none⟩ = false := h6.2
        clear h6 c7
        obtain ⟨ov, hov⟩ : ∃ x, Hid (n.l.getD 3 0 = x) := ⟨_, Lib.hid rfl⟩
        rw [hov.out] at c6
        have hS5 : (w5.drew.setCell ⟨B.q6, p * 32 + 3, none⟩ (.int .u8 xv)).cell? ⟨q9, 4, none⟩ = some (.int .u8 xv) := (((Only.refl [B.q6] w5.drew).setCell (p := ⟨B.q6, p * 32 + 3, none⟩) (.inl (by simp)) _).cell (p := ⟨q9, 4, none⟩) (World.block_lt_of_cell? _ _ hS0) (by simpa using HQ9.out.2.1)).trans hS0
        refine wp_region_C 6 (fun wz => wz.cell? ⟨q9, 4, none⟩ = some (.int .u8 xv)) (by kernel_rfl) ?_
        refine wpAnyC_take 0 (v := ?_) rfl (by kernel_rfl) (fun _ _ _ h => HQP.out _ _ _ _ _ h) (by rfl) ?_ hS0 ?_
        rotate_left
        · ((intro w hS; clear hS; go_simp) <;> with_reducible rfl)
        refine wpAnyC_take 1 (v := ?_) rfl (by kernel_rfl) (fun _ _ _ h => HQP.out _ _ _ _ _ h) (by rfl) ?_ hS0 ?_
        rotate_left
        · ((intro w hS; clear hS; go_simp) <;> with_reducible rfl)
        refine wpAnyC_take 2 (v := ?_) rfl (by kernel_rfl) (fun _ _ _ h => HQP.out _ _ _ _ _ h) (by rfl) ?_ hS0 ?_
        rotate_left
        · ((intro w hS; obtain h1 := hS; go_simp) <;> with_reducible rfl)
        refine wpAnyC_take 3 (v := ?_) rfl (by kernel_rfl) (fun _ _ _ h => HQP.out _ _ _ _ _ h) (by rfl) ?_ hS0 ?_
        rotate_left
        · ((intro w hS; clear hS; go_simp) <;> with_reducible rfl)
        refine wpAnyC_take 4 (v := ?_) rfl (by kernel_rfl) (fun _ _ _ h => HQP.out _ _ _ _ _ h) (by rfl) ?_ hS0 ?_
        rotate_left
        · ((intro w hS; clear hS; go_simp) <;> with_reducible rfl)
        refine wpAnyC_one (i := 5) (by kernel_rfl) rfl (fun K hK => ?_)
        go_simp
        refine hK _ _ (fun h => hS5) ?_; clear hK K
        refine wpAnyC_done (by kernel_rfl) ?_ _
        go_wp2_with fail
        exact HK.out _ _ _ _ _ _ _ _ _ _ _ _ _ _ _ _ _ _ _ _ _ _ _ _ _ _ _ _ _ _ _ _ _ _ _ _ _ _ _ _ _ _ _ _ _ _ _ _ _ _ _ _ _ _ _ _ _ _ _ _ _ _ _ _ _ _ _ _ _ _ _ _ _ _ _ _ _ _ _ _ _ _ _ _ _ _ _ _ _ _ _ _ _ _ _ _ _ _ _ ⟨fs2, ps2, held, base, _, (HS5.out.only ((Only.refl [] w5).drew)).setNow1 HN.out xv (by unfold fitsP; simp), HInv.out⟩
    · have k2b : (xk == 2) = false := by simpa using k2
      by_cases k3 : xk = 3
      · subst k3
        clear k0 k2
        go_wp2_with fail
        refine (st_Clean HS1.out HI.out HP.out n HN.out).mono ?_
        rintro e w5 ⟨rfl, ho, ps2, hst, hinv⟩
        have HS5 := Lib.hid hst
        have HI5 := Lib.hid hinv
        have LN : Hid ((by8 n.l).length = 32) := Lib.hid (by simp [by8, n.h])
        have HT : Hid (w5.there B.q5 (p * 32) (by8 n.l).toArray.size) := Lib.hid (by rw [show (by8 n.l).toArray.size = 32 from by simp [LN.out]]; exact HS5.out.there5 HB.out)
        clear hst hinv ho
        go_wp2_with (first | (refine wpList_load_mid rfl 32 _ rfl B.q6 (p * 32) rfl _ _ (HS5.out.ar.now_ HN.out) Tryd.underlying32 rfl (by rw [gpage_size, LN.out]) ?_) | (refine wpList_store_mid rfl 32 _ _ rfl B.q5 (p * 32) (by8 n.l).toArray (by go_simp) (by go_simp) HT.out (by rw [gpage_size]; simp [LN.out]) (by8_one _) ?_))
        exact HK.out _ _ _ _ _ _ _ _ _ _ _ _ _ _ _ _ _ _ _ _ _ _ _ _ _ _ _ _ _ _ _ _ _ _ _ _ _ _ _ _ _ _ _ _ _ _ _ _ _ _ _ _ _ _ _ _ _ _ _ _ _ _ _ _ _ _ _ _ _ _ _ _ _ _ _ _ _ _ _ _ _ _ _ _ _ _ _ _ _ _ _ _ _ _ _ _ _ _ _ ⟨fs, ps2, held, _, now, HS5.out.setBase HB.out n, HI5.out⟩
      · have k3b : (xk == 3) = false := by simpa using k3
        go_wp2_with fail
        exact HK.out _ _ _ _ _ _ _ _ _ _ _ _ _ _ _ _ _ _ _ _ _ _ _ _ _ _ _ _ _ _ _ _ _ _ _ _ _ _ _ _ _ _ _ _ _ _ _ _ _ _ _ _ _ _ _ _ _ _ _ _ _ _ _ _ _ _ _ _ _ _ _ _ _ _ _ _ _ _ _ _ _ _ _ _ _ _ _ _ _ _ _ _ _ _ _ _ _ _ _ ⟨fs, ps, held, base, now, HS1.out, HI.out⟩
end Go.Proofs.YtbfgpghfofmanaaDoor
