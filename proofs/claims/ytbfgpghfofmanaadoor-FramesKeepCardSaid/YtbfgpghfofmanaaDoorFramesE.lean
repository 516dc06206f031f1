/-
  Package delta: fits, Apply. Printed by gen_framesE.py.
-/
import Derived.Test.YtbfgpghfofmanaaDoorFramesD
import Derived.Test.YtbfgpghfofmanaaDoorAs
import Derived.Laws.CopyOwn
namespace Go.Proofs.YtbfgpghfofmanaaDoor
open Go.RowKit

/-- A slice of bytes that is read. -/
def ReadsB (w : World) (v : Value) (l : List Int) : Prop := ∃ (a : Option Addr) (c : Nat), v = .slice a l.length c ∧ ∀ j, j < l.length → ∃ ad, a = some ad ∧ w.cell? (ad.add j) = some (.int .u8 (l.getD j 0))
theorem addr_add_block (a : Addr) (j : Nat) : (a.add j).block = a.block := by unfold Addr.add; split <;> rfl
theorem ReadsB.only {w w2 : World} {v : Value} {l : List Int} (h : ReadsB w v l) (ho : Only [] w w2) : ReadsB w2 v l := by
  obtain ⟨a, c, rfl, hj⟩ := h
  refine ⟨a, c, rfl, fun j hlt => ?_⟩
  obtain ⟨ad, rfl, hc⟩ := hj j hlt
  exact ⟨ad, rfl, (ho.cell (World.block_lt_of_cell? w _ hc) (by simp)).trans hc⟩
theorem ReadsB.slice {w : World} {v : Value} {l : List Int} (h : ReadsB w v l) : ∃ a c, v = .slice a l.length c := by
  obtain ⟨a, c, rfl, _⟩ := h; exact ⟨_, _, rfl⟩

def fitsP (off n : Int) : Prop := 0 ≤ off ∧ 1 ≤ n ∧ n ≤ 32 ∧ off ≤ 32 - n

theorem delta_fits_ok (off : Int) (n c : Nat) (a : Option Addr) (w : World) (h : fitsP off n) :
    Calls Tryd.prog 54 #[.int .i64 off, .slice a n c] w fun e w' => e = .returned .nilIface ∧ w = w' := by
  obtain ⟨h1, h2, h3, h4⟩ := h
  go_enter Tryd.func54, Tryd.ntmps54
  go_wp2
  go_ret
  exact ⟨rfl, rfl⟩

theorem err2 (w : World) (k : Int) (s s2 : ByteArray) : ErrAt ((w.alloc (.cells #[.string s, .iface 24 (.int .i64 k), .bool false] 147)).alloc (.cells #[.string s2, .iface 145 (.pointer (some ⟨w.heap.size, 0, none⟩)), .bool true] 147)) k 2 (.iface 145 (.pointer (some ⟨w.heap.size + 1, 0, none⟩))) := by
  have h := (ErrAt.new_ w k s).wrap_ s2
  rw [show (w.alloc (.cells #[.string s, .iface 24 (.int .i64 k), .bool false] 147)).heap.size = w.heap.size + 1 from by simp] at h
  exact h

theorem delta_fits_bad (off : Int) (n c : Nat) (a : Option Addr) (w : World) (h : ¬ fitsP off n) (hn : n ≤ 1000000) :
    Calls Tryd.prog 54 #[.int .i64 off, .slice a n c] w fun e w' => ∃ v, e = .returned v ∧ ErrAt w' 1 2 v ∧ Only [] w w' := by
  unfold fitsP at h
  by_cases h1 : off < 0
  · clear h
    go_enter Tryd.func54, Tryd.ntmps54
    go_wp2_with (first | (go_at_call 63; refine (fault_new1 1 _ _ rfl).mono ?_; rintro e w1 ⟨rfl, rfl⟩) | (go_at_call 62; refine (fault_wrap1 _ _ _ _).mono ?_; rintro e w1 ⟨rfl, rfl⟩))
    go_ret
    exact ⟨_, rfl, err2 _ _ _ _, ((Only.refl _ _).alloc _).alloc _⟩
  · by_cases h2 : (n : Int) < 1
    · clear h
      go_enter Tryd.func54, Tryd.ntmps54
      go_wp2_with (first | (go_at_call 63; refine (fault_new1 1 _ _ rfl).mono ?_; rintro e w1 ⟨rfl, rfl⟩) | (go_at_call 62; refine (fault_wrap1 _ _ _ _).mono ?_; rintro e w1 ⟨rfl, rfl⟩))
      go_ret
      exact ⟨_, rfl, err2 _ _ _ _, ((Only.refl _ _).alloc _).alloc _⟩
    · by_cases h3 : 32 < (n : Int)
      · clear h
        go_enter Tryd.func54, Tryd.ntmps54
        go_wp2_with (first | (go_at_call 63; refine (fault_new1 1 _ _ rfl).mono ?_; rintro e w1 ⟨rfl, rfl⟩) | (go_at_call 62; refine (fault_wrap1 _ _ _ _).mono ?_; rintro e w1 ⟨rfl, rfl⟩))
        go_ret
        exact ⟨_, rfl, err2 _ _ _ _, ((Only.refl _ _).alloc _).alloc _⟩
      · have h4 : 32 - (n : Int) < off := by omega
        clear h
        go_enter Tryd.func54, Tryd.ntmps54
        go_wp2_with (first | (go_at_call 63; refine (fault_new1 1 _ _ rfl).mono ?_; rintro e w1 ⟨rfl, rfl⟩) | (go_at_call 62; refine (fault_wrap1 _ _ _ _).mono ?_; rintro e w1 ⟨rfl, rfl⟩))
        go_ret
        exact ⟨_, rfl, err2 _ _ _ _, ((Only.refl _ _).alloc _).alloc _⟩


theorem setRow_only (w : World) (g : Nat) (cs : Array Value) : Only [g] w (w.setRow g cs) := ⟨rfl, rfl, rfl, by simp [World.setRow], fun k _ hk => setRow_other w g k cs (by simpa using hk)⟩

/-- What Apply makes. -/
def updP (p : List Int) (off : Int) (d : List Int) : List Int := p.take off.toNat ++ d ++ p.drop (off.toNat + d.length)
theorem updP_len {p : List Int} {off : Int} {d : List Int} (hp : p.length = 32) (h : fitsP off d.length) : (updP p off d).length = 32 := by
  obtain ⟨h1, h2, h3, h4⟩ := h
  simp [updP]; omega

set_option maxRecDepth 100000 in
theorem delta_Apply_ok (p : List Int) (off : Int) (v : Value) (d : List Int) (w : World) (hp : p.length = 32) (hv : ReadsB w v d) (h : fitsP off d.length) :
    Calls Tryd.prog 39 #[.agg (by8 p).toArray, .int .i64 off, v] w fun e w' => e = .returned (.tuple #[.agg (by8 (updP p off d)).toArray, .int .i64 0]) ∧ Only [] w w' := by
  obtain ⟨L, hL⟩ : ∃ L, Hid (by8 zeroP = L) := ⟨_, Lib.hid rfl⟩
  obtain ⟨B, hB⟩ : ∃ B, Hid (by8 p = B) := ⟨_, Lib.hid rfl⟩
  have L0 : Hid (L.length = 32) := by rw [← hL.out]; rfl
  have L1 : Hid (B.length = 32) := Lib.hid (by rw [← hB.out]; simp [by8, hp])
  have hal := page_zero
  rw [hL.out] at hal
  obtain ⟨a, c, hvv, hc⟩ := hv
  subst hvv
  have HF := Lib.hid h
  obtain ⟨k, rfl⟩ : ∃ k : Nat, off = k := ⟨off.toNat, by have := h.1; omega⟩
  have hk1 : (k : Int) ≤ 32 := by have := h.2.1; have := h.2.2.2; omega
  have hk0 : (0 : Int) ≤ k := by omega
  have hk2 : ¬ 32 = k := by have := h.2.1; have := h.2.2.2; omega
  have HPL := Lib.hid hp
  have HK : Hid (k + d.length ≤ 32 ∧ 1 ≤ d.length) := by obtain ⟨h1, h2, h3, h4⟩ := h; exact ⟨by omega, by omega⟩
  obtain ⟨ad, rfl, -⟩ := hc 0 (by have := HK.out.2; omega)
  obtain ⟨m, hm⟩ : ∃ m, Hid (d.length = m) := ⟨_, Lib.hid rfl⟩
  obtain ⟨D, hD⟩ : ∃ D, Hid (by8 d = D) := ⟨_, Lib.hid rfl⟩
  have LD : Hid (D.length = m) := Lib.hid (by rw [← hD.out, ← hm.out]; simp [by8])
  have HONE : Hid (∀ v ∈ D, v.oneCell' = true) := by
    rw [← hD.out]
    intro v hv
    simp only [by8, List.mem_map] at hv
    obtain ⟨x, _, rfl⟩ := hv
    rfl
  obtain ⟨w3, hw3⟩ : ∃ w3, Hid (((w.alloc (.cells B.toArray 32)).alloc (.cells L.toArray 32)).alloc (.cells #[.int .i64 0] 24) = w3) := ⟨_, Lib.hid rfl⟩
  have HO3 : Hid (Only [] w w3) := by rw [← hw3.out]; exact ((((Only.refl [] w).alloc _).alloc _).alloc _)
  have HB3 : Hid (w3.heap[w.heap.size]? = some (.cells B.toArray 32 (0, 0))) := by
    rw [← hw3.out]; exact (((Blk.new w 32 B.toArray).alloc _).alloc _)
  have HL3 : Hid (Blk w3 (w.heap.size + 1) 32 L.toArray) := by
    rw [← hw3.out]
    have h := Blk.new (w.alloc (.cells B.toArray 32)) 32 L.toArray
    rw [show (w.alloc (.cells B.toArray 32)).heap.size = w.heap.size + 1 from by simp] at h
    exact h.alloc _
  have HS : Hid (∀ j v, D[j]? = some v → w3.cell? (ad.add j) = some v) := by
    intro j v hj
    have hlt : j < d.length := by rw [hm.out, ← LD.out]; exact (List.getElem?_eq_some_iff.1 hj).1
    obtain ⟨ad2, h2, h3⟩ := hc j hlt
    injection h2 with h2
    subst h2
    rw [HO3.out.cell (World.block_lt_of_cell? w _ h3) (by simp), h3, ← hj, ← hD.out]
    simp [by8, List.getD_eq_getElem?_getD, hlt]
  have HFin : Hid (B.take k ++ (D ++ B.drop (k + D.length)) = by8 (updP p k d)) := by
    have e : d.length = D.length := by rw [hm.out, LD.out]
    simp only [Hid, updP, by8, List.map_append, List.map_take, List.map_drop, Int.toNat_natCast]
    rw [e, ← hB.out, ← hD.out]; simp [by8]
  have HUL : Hid ((by8 (updP p k d)).length = 32) := Lib.hid (by simp [by8, updP_len hp h])
  rw [hm.out] at HK HF
  rw [hm.out, hB.out]
  obtain ⟨U, hU⟩ : ∃ U, Hid (by8 (updP p k d) = U) := ⟨_, Lib.hid rfl⟩
  have HU1 : Hid (U.toArray.all (·.oneCell') = true) := by rw [← hU.out]; exact by8_one _
  rw [hU.out] at HUL HFin
  rw [hU.out]
  have HL4 : Hid (Blk (w3.setRow w.heap.size U.toArray) (w.heap.size + 1) 32 L.toArray) := (setRow_other w3 _ _ _ (by omega)).trans HL3.out
  clear h hc hp
  go_enter Tryd.func39, Tryd.ntmps39
  go_wp2_with (first | (refine wpList_box_as rfl 32 _ rfl B.toArray rfl ?_) | (refine wpList_alloc_as rfl 32 rfl L.toArray (hal _) ?_) | (go_at_call 54; rw [hw3.out]; refine (delta_fits_ok _ _ _ _ _ HF.out).mono ?_; rintro e w1 ⟨rfl, rfl⟩) | (go_at_call 53; refine (errors_As_nil _ _).mono ?_; rintro e w1 ⟨rfl, rfl⟩) | (refine wpList_copy_own rfl (.tmp 17) (.tmp 18) 35 35 rfl 5 Tryd.underlying35 gu8_size w.heap.size k _ _ ad _ _ rfl rfl B.toArray 32 HB3.out D (by have := HK.out; rw [LD.out]; exact (Nat.min_eq_left (by omega)).symm) HS.out (by have := HK.out; simp [L1.out, LD.out]; omega) HONE.out ?_; rw [List.toList_toArray, HFin.out]) | (refine wpList_load_row rfl 32 _ rfl _ rfl 32 U.toArray (0, 0) _ (setRow_heap _ _ _ _ _ _ HB3.out) Tryd.underlying32 rfl (by rw [gpage_size]; simp [HUL.out]) ?_) | refine wpList_store_mid rfl 32 _ _ rfl (w.heap.size + 1) 0 U.toArray rfl rfl (HL4.out.there_ (by simp [HUL.out, L0.out])) (by rw [gpage_size]; simp [HUL.out]) HU1.out ?_)
  (try simp only [Exit.inBlock, Exit.then])
  refine bodyPost_ret (results_ct rfl _ _ (w.heap.size + 1) U _ rfl ((HL4.out.whole U (by rw [L0.out, HUL.out])).range0) Tryd.underlying32 rfl (by rw [gpage_size, HUL.out])) rfl ?_
  exact ⟨rfl, (HO3.out.trans (setRow_only w3 w.heap.size U.toArray) (by simp)).setCells (.inr (Nat.le_succ _)) 0 U⟩

set_option maxRecDepth 100000 in
theorem delta_Apply_bad (p : List Int) (off : Int) (n c : Nat) (a : Option Addr) (w : World) (hg : w.cell? ⟨0, 0, none⟩ = some (.iface 132 (.agg #[.pointer (some ⟨1, 100, none⟩)]))) (h : ¬ fitsP off n) (hn : n ≤ 1000000) :
    Calls Tryd.prog 39 #[.agg (by8 p).toArray, .int .i64 off, .slice a n c] w fun e w' => e = .returned (.tuple #[.agg (by8 zeroP).toArray, .int .i64 1]) ∧ Only [] w w' := by
  obtain ⟨L, hL⟩ : ∃ L, Hid (by8 zeroP = L) := ⟨_, Lib.hid rfl⟩
  obtain ⟨B, hB⟩ : ∃ B, Hid (by8 p = B) := ⟨_, Lib.hid rfl⟩
  have L0 : Hid (L.length = 32) := by rw [← hL.out]; rfl
  have hal := page_zero
  have hbu := Lib.hid page_build0
  have hone : Hid (L.toArray.all (·.oneCell') = true) := by rw [← hL.out]; exact by8_one _
  rw [hL.out] at hal hbu
  rw [hL.out, hB.out]
  obtain ⟨w3, hw3⟩ : ∃ w3, Hid (((w.alloc (.cells B.toArray 32)).alloc (.cells L.toArray 32)).alloc (.cells #[.int .i64 0] 24) = w3) := ⟨_, Lib.hid rfl⟩
  have HO3 : Hid (Only [] w w3) := by rw [← hw3.out]; exact ((((Only.refl [] w).alloc _).alloc _).alloc _)
  have HL3 : Hid (Blk w3 (w.heap.size + 1) 32 L.toArray) := by
    rw [← hw3.out]
    have h := Blk.new (w.alloc (.cells B.toArray 32)) 32 L.toArray
    rw [show (w.alloc (.cells B.toArray 32)).heap.size = w.heap.size + 1 from by simp] at h
    exact h.alloc _
  have HE3 : Hid (Blk w3 (w.heap.size + 1 + 1) 24 #[.int .i64 0]) := by
    rw [← hw3.out]
    have h := Blk.new ((w.alloc (.cells B.toArray 32)).alloc (.cells L.toArray 32)) 24 #[.int .i64 0]
    rw [show ((w.alloc (.cells B.toArray 32)).alloc (.cells L.toArray 32)).heap.size = w.heap.size + 1 + 1 from by simp] at h
    exact h
  have HG := Lib.hid hg
  have HX := Lib.hid h
  have HN := Lib.hid hn
  clear h hg hn
  go_enter Tryd.func39, Tryd.ntmps39
  go_wp2_with (first | (refine wpList_box_as rfl 32 _ rfl B.toArray rfl ?_) | (refine wpList_alloc_as rfl 32 rfl L.toArray (hal _) ?_))
  rw [hw3.out]
  refine (delta_fits_bad _ _ _ _ _ HX.out HN.out).mono ?_
  rintro e w4 ⟨v, rfl, hv, ho4⟩
  have HO4 : Hid (Only [] w w4) := HO3.out.trans ho4 (by simp)
  have HE4 : Hid (Blk w4 (w.heap.size + 1 + 1) 24 #[.int .i64 0]) := HE3.out.only ho4 (by simp)
  have HL4 : Hid (Blk w4 (w.heap.size + 1) 32 L.toArray) := HL3.out.only ho4 (by simp)
  have HV := Lib.hid hv
  clear hv ho4 hal
  go_wp2_with fail
  refine (errors_As_any 1 2 v ⟨w.heap.size + 1 + 1, 0, none⟩ (.int .i64 0) w4 (by rw [HO4.out.cell (World.block_lt_of_cell? w _ HG.out) (by simp)]; exact HG.out) HV.out (by rw [HE4.out.cell]; rfl) (HE4.out.frozen 0)).mono ?_
  rintro e w5 ⟨rfl, w6, ho6, rfl⟩
  obtain ⟨q2, hq2⟩ : ∃ q, Hid (w.heap.size + 1 + 1 = q) := ⟨_, Lib.hid rfl⟩
  obtain ⟨q, hq⟩ : ∃ q, Hid (w.heap.size + 1 = q) := ⟨_, Lib.hid rfl⟩
  have HNE : Hid (q2 ≠ q ∧ w.heap.size ≤ q ∧ w.heap.size ≤ q2) := by rw [← hq.out, ← hq2.out]; exact ⟨by omega, by omega, by omega⟩
  rw [hq2.out] at HE4
  rw [hq.out] at HL4
  rw [hq2.out, hq.out]
  have hE5 : Blk (w6.setCell ⟨q2, 0, none⟩ (.int .i64 1)) q2 24 #[.int .i64 1] := by
    have h := (HE4.out.only ho6 (by simp)).set_ 0 (.int .i64 1)
    exact h
  have hL5 : Blk (w6.setCell ⟨q2, 0, none⟩ (.int .i64 1)) q 32 L.toArray := (HL4.out.only ho6 (by simp)).far (by exact fun e => HNE.out.1 e.symm) _
  have HO6 : Hid (Only [] w (w6.setCell ⟨q2, 0, none⟩ (.int .i64 1))) := (HO4.out.trans ho6 (by simp)).setCell (.inr HNE.out.2.2) _
  obtain ⟨w7, hw7⟩ : ∃ w7, Hid (w6.setCell ⟨q2, 0, none⟩ (.int .i64 1) = w7) := ⟨_, Lib.hid rfl⟩
  rw [hw7.out] at hE5 hL5 HO6
  rw [hw7.out]
  have h1 : w7.cell? ⟨q2, 0, none⟩ = some (.int .i64 1) := by rw [hE5.cell]; rfl
  have HB0 : Hid (Blk w7.drew q 32 L.toArray) := hL5
  have hS1 : Hid ((w7.drew.setCells q 0 L).cell? ⟨q2, 0, none⟩ = some (.int .i64 1)) := by
    have h := Blk.only (w := w7.drew) hE5 (setCells_only (b := q) L 0 w7.drew) (by simpa using HNE.out.1)
    exact (h.cell 0).trans rfl
  clear hE5 hL5 ho6 hw7 HE3 HL3 HE4 HL4 HV
  go_wp2_with fail
  refine wp_region_C 3 (fun w' => w'.cell? ⟨q2, 0, none⟩ = some (.int .i64 1)) (by kernel_rfl) ?_
  have hS0 : w7.drew.cell? ⟨q2, 0, none⟩ = some (.int .i64 1) := h1
  refine wpAnyC_take 0 (v := .agg L.toArray) rfl (by kernel_rfl) (fun _ _ _ h => h) (by rfl) ?_ hS0 ?_
  · exact fun w hS => exec_built [] [] rfl rfl (hbu.out _)
  refine wpAnyC_take 1 (v := .int .i64 1) rfl (by kernel_rfl) (fun _ _ _ h => h) (by rfl) ?_ hS0 ?_
  · ((intro w hS; obtain h1 := hS; go_simp) <;> with_reducible rfl)
  refine wpAnyC_store 2 (by kernel_rfl) rfl (by rfl) 32 rfl q 0 L.toArray (by go_simp) (by go_simp) (HB0.out.there_ (by simp)) (by rw [gpage_size]; simp [L0.out]) hone.out (fun h => hS1.out) ?_
  refine wpAnyC_one (i := 3) (by kernel_rfl) rfl (fun K hK => ?_)
  go_simp
  refine hK _ _ (fun h => absurd h (by decide)) ?_; clear hK K
  refine wpAnyC_done (by kernel_rfl) ?_ _
  go_wp2_with fail
  (try simp only [Exit.inBlock, Exit.then])
  refine bodyPost_ret (results_ct rfl _ _ q L _ rfl (HB0.out.whole L rfl).range0 Tryd.underlying32 rfl (by rw [gpage_size, L0.out])) rfl ?_
  exact ⟨rfl, HO6.out.drew.setCells (.inr HNE.out.2.1) 0 L⟩

end Go.Proofs.YtbfgpghfofmanaaDoor
