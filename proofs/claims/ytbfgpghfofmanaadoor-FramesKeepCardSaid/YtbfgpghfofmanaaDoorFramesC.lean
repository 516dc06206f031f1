/-
  Package frames: takes, Hold, HoldMap, Clean, Forget. Printed by gen_framesC.py.
-/
import Derived.Test.YtbfgpghfofmanaaDoorFramesB
namespace Go.Proofs.YtbfgpghfofmanaaDoor
open Go.RowKit

theorem gpg_info : (Tryd.prog.info? 79).map (·.size) = some 64 := by kernel_rfl
theorem ghd_info : (Tryd.prog.info? 52).map (·.size) = some 8 := by kernel_rfl
def gpgZ : Value := .agg (by8 (zeroP ++ zeroP)).toArray
theorem gpg_zero : (Tryd.prog.info? 79).map (·.zero) = some (some gpgZ) := by kernel_rfl
theorem gpg_build (a b : List Value) (ha : a.length = 32) (hb : b.length = 32) (w : World) : (Instr.build 79 #[(0, .agg a.toArray), (1, .agg b.toArray)]).run Tryd.prog w = .ok (.agg (a ++ b).toArray) w :=
  built_two 79 32 _ gpgZ Tryd.underlying79 gpg_zero (by kernel_rfl) (by simp [gpgZ, Value.cells, by8, zeroP, leafP]) a b ha hb w
theorem gpg_one (p : PG) : (gpg p).toArray.all (·.oneCell') = true := by
  have := by8_one (p.base ++ p.now)
  simpa [gpg, by8] using this
theorem ghd_one (x : HD) : (ghd x).toArray.all (·.oneCell') = true := by
  rw [Array.all_eq_true_iff_forall_mem]
  intro v hv
  simp only [ghd, gi8, List.mem_toArray, List.mem_map] at hv
  obtain ⟨x, _, rfl⟩ := hv
  rfl

/-- Does a frame take a key? -/
def takesF (fs : List CF) (ps : List PG) (i key : Int) : Option CF := if dirtyB fs ps i then none else putOK fs i key
def holdF (fs : List CF) (ps : List PG) (i key : Int) : Option CF := if kindK key = 1 then takesF fs ps i key else none
def holdMF (fs : List CF) (ps : List PG) (i id : Int) : Option CF := if 0 ≤ id ∧ id < 8 then takesF fs ps i (64 + id) else none

section
variable {w : World} {f c fb pb hb : Nat} {fs : List CF} {hand : Int} {ps : List PG} {hs : List HD}

theorem FramesAt.fb_ne (h : FramesAt w f c fb pb hb fs hand ps hs) : fb ≠ f ∧ fb ≠ pb ∧ fb ≠ hb ∧ pb ≠ f ∧ pb ≠ hb ∧ pb ≠ c ∧ hb ≠ f ∧ hb ≠ c :=
  ⟨h.hc.hf.ne_ h.hf (by decide), h.hc.hf.ne_ h.hp (by decide), h.hc.hf.ne_ h.hh (by decide), h.hp.ne_ h.hf (by decide), h.hp.ne_ h.hh (by decide), h.hp.ne_ h.hc.hc (by decide), h.hh.ne_ h.hf (by decide), h.hh.ne_ h.hc.hc (by decide)⟩
theorem FramesAt.clock_ (h : FramesAt w f c fb pb hb fs hand ps hs) {w2 : World} {gs : List CF} {hand2 : Int} (hc : ClockAt w2 c fb gs hand2) (ho : Only [fb] w w2) (hl : gs.length = fs.length) : FramesAt w2 f c fb pb hb gs hand2 ps hs := by
  obtain ⟨n1, n2, n3, _⟩ := h.fb_ne
  exact ⟨by rw [hl]; exact h.hf.only ho (by simp; omega), hc, h.hp.only ho (by simp; omega), h.hh.only ho (by simp; omega), by rw [h.np, hl], by rw [h.nh, hl]⟩
theorem FramesAt.clock2_ (h : FramesAt w f c fb pb hb fs hand ps hs) {w2 : World} {gs : List CF} {hand2 : Int} (hc : ClockAt w2 c fb gs hand2) (ho : Only [c, fb] w w2) (hl : gs.length = fs.length) : FramesAt w2 f c fb pb hb gs hand2 ps hs := by
  obtain ⟨n1, n2, n3, _, _, n4, _, n5⟩ := h.fb_ne
  have n6 := h.hf.ne_ h.hc.hc (by decide)
  exact ⟨by rw [hl]; exact h.hf.only ho (by simp; omega), hc, h.hp.only ho (by simp; omega), h.hh.only ho (by simp; omega), by rw [h.np, hl], by rw [h.nh, hl]⟩
/-- The pages turned. -/
theorem FramesAt.pages_ (h : FramesAt w f c fb pb hb fs hand ps hs) {i : Nat} {p q : PG} (hp : ps[i]? = some p) (o : Nat) (vs : List Value) (ho : o + vs.length ≤ 64) (hy : gpg q = (gpg p).take o ++ vs ++ (gpg p).drop (o + vs.length)) :
    FramesAt (w.setCells pb (i * 64 + o) vs) f c fb pb hb fs hand (ps.set i q) hs := by
  obtain ⟨n1, n2, n3, n4, n5, n6, _⟩ := h.fb_ne
  have hO : Only [pb] w (w.setCells pb (i * 64 + o) vs) := setCells_only vs _ w
  exact ⟨h.hf.only hO (by simp; omega), h.hc.only hO (by simp; omega) (by simp; omega), h.hp.rec_set (g := gpg) gpg_len hp o vs ho hy, h.hh.only hO (by simp; omega), by simp [h.np], h.nh⟩
theorem FramesAt.heads_ (h : FramesAt w f c fb pb hb fs hand ps hs) {i : Nat} {x y : HD} (hx : hs[i]? = some x) :
    FramesAt (w.setCells hb (i * 8 + 0) (ghd y)) f c fb pb hb fs hand ps (hs.set i y) := by
  obtain ⟨n1, n2, n3, n4, n5, n6, n7, n8⟩ := h.fb_ne
  have hO : Only [hb] w (w.setCells hb (i * 8 + 0) (ghd y)) := setCells_only _ _ w
  exact ⟨h.hf.only hO (by simp; omega), h.hc.only hO (by simp; omega) (by simp; omega), h.hp.only hO (by simp; omega), h.hh.rec_set (g := ghd) ghd_len hx 0 (ghd y) (by simp [ghd_len]) (by rw [ghd_len, List.drop_of_length_le (by rw [ghd_len]; omega)]; simp), h.np, by simp [h.nh]⟩
theorem FramesAt.head_ (h : FramesAt w f c fb pb hb fs hand ps hs) {i : Nat} (hi : i < fs.length) : ∃ x, hs[i]? = some x := ⟨hs[i]'(by rw [h.nh]; exact hi), by simp⟩

theorem frames_takes_no (h : FramesAt w f c fb pb hb fs hand ps hs) (i key : Int) (ht : takesF fs ps i key = none) :
    Calls Tryd.prog 37 #[.pointer (some ⟨f, 0, none⟩), .int .i64 i, .int .i64 key] w fun e w' => e = .returned (.bool false) ∧ Only [] w w' := by
  unfold takesF at ht
  have H := Lib.hid (frames_dirty h i)
  have h0 := h.cell0
  have lf := h.hf.lt
  cases hd : dirtyB fs ps i with
  | true =>
    rw [hd] at H
    clear h ht hd
    go_enter Tryd.func37, Tryd.ntmps37
    go_wp2_with (go_at_call 41; refine H.out.mono ?_; rintro e w1 ⟨rfl, ho⟩)
    go_ret
    exact ⟨rfl, ho⟩
  | false =>
    rw [hd] at H ht
    simp only [Bool.false_eq_true, if_false] at ht
    have HC := Lib.hid h
    have HT := Lib.hid ht
    clear h ht hd
    go_enter Tryd.func37, Tryd.ntmps37
    go_wp2_with fail
    refine H.out.mono ?_
    rintro e w1 ⟨rfl, ho⟩
    have hc1 := (ho.cell (p := ⟨f, 0, none⟩) lf (by simp)).trans h0
    have HO := Lib.hid ho
    clear ho h0
    go_wp2_with fail
    refine (clock_Put_no (HC.out.hc.only HO.out (by simp) (by simp)) i key HT.out).mono ?_
    rintro e w2 ⟨rfl, ho2⟩
    go_wp2_with fail
    go_ret
    exact ⟨rfl, HO.out.trans ho2 (by simp)⟩

theorem frames_takes_ok (h : FramesAt w f c fb pb hb fs hand ps hs) (i key : Int) (F : CF) (ht : takesF fs ps i key = some F) :
    Calls Tryd.prog 37 #[.pointer (some ⟨f, 0, none⟩), .int .i64 i, .int .i64 key] w fun e w' => e = .returned (.bool true) ∧ FramesAt w' f c fb pb hb (fs.set i.toNat ⟨key, true, F.pins⟩) hand ps hs ∧ Only [fb] w w' := by
  unfold takesF at ht
  have H := Lib.hid (frames_dirty h i)
  have h0 := h.cell0
  have lf := h.hf.lt
  cases hd : dirtyB fs ps i with
  | true => rw [hd] at ht; cases ht
  | false =>
    rw [hd] at H ht
    simp only [Bool.false_eq_true, if_false] at ht
    have HC := Lib.hid h
    have HT := Lib.hid ht
    clear h ht hd
    go_enter Tryd.func37, Tryd.ntmps37
    go_wp2_with fail
    refine H.out.mono ?_
    rintro e w1 ⟨rfl, ho⟩
    have hc1 := (ho.cell (p := ⟨f, 0, none⟩) lf (by simp)).trans h0
    have HO := Lib.hid ho
    clear ho h0
    go_wp2_with fail
    refine (clock_Put_ok (HC.out.hc.only HO.out (by simp) (by simp)) i key F HT.out).mono ?_
    rintro e w2 ⟨rfl, hC2, ho2⟩
    have HC2 := Lib.hid hC2
    have HO2 := Lib.hid ho2
    clear hC2 ho2
    go_wp2_with fail
    go_ret
    exact ⟨rfl, (HC.out.only HO.out (by simp)).clock_ HC2.out HO2.out (by simp), (HO.out.mono (by simp)).trans HO2.out (by simp)⟩

set_option maxRecDepth 100000 in
theorem frames_Hold_no (h : FramesAt w f c fb pb hb fs hand ps hs) (i key : Int) (b : List Int) (_hb : b.length = 32) (ht : holdF fs ps i key = none) :
    Calls Tryd.prog 11 #[.pointer (some ⟨f, 0, none⟩), .int .i64 i, .int .i64 key, .agg (by8 b).toArray] w fun e w' => e = .returned (.bool false) ∧ Only [] w w' := by
  obtain ⟨B, hB⟩ : ∃ B, Hid ((by8 b).toArray = B) := ⟨_, Lib.hid rfl⟩
  rw [hB.out]
  unfold holdF at ht
  by_cases hk : kindK key = 1
  · rw [if_pos hk] at ht
    have H := Lib.hid (frames_takes_no (h.only ((Only.refl [] w).alloc (.cells B 32)) (by simp)) i key ht)
    have hkb : (kindK key != 1) = false := by simpa using hk
    clear h ht hk
    go_enter Tryd.func11, Tryd.ntmps11
    go_wp2_with (first | (refine wpList_box_as rfl 32 _ rfl B rfl ?_) | (go_at_call 36; refine (frames_kind key _).mono ?_; rintro e w1 ⟨rfl, rfl⟩) | (go_at_call 37; refine H.out.mono ?_; rintro e w2 ⟨rfl, ho⟩))
    go_ret
    exact ⟨rfl, ((Only.refl [] w).alloc _).trans ho (by simp)⟩
  · have hkb : (kindK key != 1) = true := by simpa using hk
    clear h ht hk
    go_enter Tryd.func11, Tryd.ntmps11
    go_wp2_with (first | (refine wpList_box_as rfl 32 _ rfl B rfl ?_) | (go_at_call 36; refine (frames_kind key _).mono ?_; rintro e w1 ⟨rfl, rfl⟩))
    go_ret
    exact ⟨rfl, ((Only.refl [] w).alloc _)⟩


set_option maxRecDepth 100000 in
set_option maxHeartbeats 1600000 in
theorem frames_Hold_ok (h : FramesAt w f c fb pb hb fs hand ps hs) (i key : Int) (b : List Int) (hbl : b.length = 32) (F : CF) (ht : holdF fs ps i key = some F) :
    Calls Tryd.prog 11 #[.pointer (some ⟨f, 0, none⟩), .int .i64 i, .int .i64 key, .agg (by8 b).toArray] w fun e w' => e = .returned (.bool true) ∧ FramesAt w' f c fb pb hb (fs.set i.toNat ⟨key, true, F.pins⟩) hand (ps.set i.toNat ⟨b, b, hbl, hbl⟩) hs ∧ Only [fb, pb] w w' := by
  obtain ⟨B, hB⟩ : ∃ B, Hid ((by8 b).toArray = B) := ⟨_, Lib.hid rfl⟩
  rw [hB.out]
  unfold holdF at ht
  by_cases hk : kindK key = 1
  rotate_left
  · rw [if_neg hk] at ht; cases ht
  rw [if_pos hk] at ht
  have hsp : getF fs i = some F := by
    unfold takesF at ht
    split at ht
    · cases ht
    · exact (putOK_spec ht).1
  obtain ⟨n, rfl, hf, hn⟩ := getF_some hsp
  obtain ⟨p, hp⟩ := h.page_ hn
  rw [Int.toNat_natCast]
  have L1 : Hid ((by8 b).length = 32) := by simp [Hid, by8, hbl]
  have L3 := Lib.hid hbl
  have H := Lib.hid (frames_takes_ok (h.only ((Only.refl [] w).alloc (.cells B 32)) (by simp)) n key F ht)
  have hkb : (kindK key != 1) = false := by simpa using hk
  have HP := Lib.hid hp
  have HNE := Lib.hid h.fb_ne
  have HQ : Hid (fb ≠ w.heap.size ∧ pb < w.heap.size) := by have := h.hc.hf.lt; exact ⟨by omega, h.hp.lt⟩
  have HL : Hid ((fs.set n ⟨key, true, F.pins⟩).length = fs.length) := by simp [Hid]
  have hn0 : (0 : Int) ≤ n := by omega
  have hn1 : (n : Int) < fs.length := by omega
  rw [Int.toNat_natCast] at H
  obtain ⟨gs, hgs⟩ : ∃ gs, Hid (fs.set n ⟨key, true, F.pins⟩ = gs) := ⟨_, Lib.hid rfl⟩
  rw [hgs.out] at H HL
  rw [hgs.out]
  clear h ht hk hsp hf hp hgs
  go_enter Tryd.func11, Tryd.ntmps11
  go_wp2_with (first | (refine wpList_box_as rfl 32 _ rfl B rfl ?_) | (go_at_call 36; refine (frames_kind key _).mono ?_; rintro e w1 ⟨rfl, rfl⟩))
  refine H.out.mono ?_
  rintro e w2 ⟨rfl, hF, ho⟩
  obtain ⟨q, hq⟩ : ∃ q, Hid (w.heap.size = q) := ⟨_, Lib.hid rfl⟩
  have hbx : Blk w2 q 32 (by8 b).toArray := by
    rw [hB.out, ← hq.out]
    exact (Blk.new w 32 B).only ho (by simp; exact fun e => HQ.out.1 e.symm)
  have h1 := hF.cell1
  rw [HL.out] at h1
  have h2 : w2.rangeAt q 0 (by8 b) := hbx.range_ fun j v hj => by rw [Nat.zero_add]; exact hj
  have HTh : Hid (w2.drew.there pb (n * 64) (by8 b ++ by8 b).toArray.size) := by
    have hl := L1.out
    have := hF.hp.rec_there (g := gpg) gpg_len HP.out 0 64 (by omega)
    have e : (by8 b ++ by8 b).toArray.size = 64 := by simp [hl]
    rw [e]; exact this
  have HO2 : Hid (Only [fb] w w2) := by
    exact ((Only.refl [fb] w).alloc (.cells B 32)).trans ho (by simp)
  have HF := Lib.hid hF
  rw [hq.out]
  clear hF ho hbx
  go_wp2_with fail
  refine wp_region_C 9 (fun w' => w'.cell? ⟨f, 1, none⟩ = some (.slice (some ⟨pb, 0, none⟩) fs.length fs.length) ∧ w'.rangeAt q 0 (by8 b)) (by kernel_rfl) ?_
  have hS0 : w2.drew.cell? ⟨f, 1, none⟩ = some (.slice (some ⟨pb, 0, none⟩) fs.length fs.length) ∧ w2.drew.rangeAt q 0 (by8 b) := ⟨h1, h2⟩
  refine wpAnyC_take 0 (v := ?_) rfl (by kernel_rfl) (fun _ _ _ h => h) (by rfl) ?_ hS0 ?_
  rotate_left
  · ((intro w hS; clear hS; go_simp) <;> with_reducible rfl)
  refine wpAnyC_take 1 (v := ?_) rfl (by kernel_rfl) (fun _ _ _ h => h) (by rfl) ?_ hS0 ?_
  rotate_left
  · ((intro w hS; clear hS; go_simp) <;> with_reducible rfl)
  refine wpAnyC_take 2 (v := ?_) rfl (by kernel_rfl) (fun _ _ _ h => h) (by rfl) ?_ hS0 ?_
  rotate_left
  · ((intro w hS; clear hS; go_simp) <;> with_reducible rfl)
  refine wpAnyC_take 3 (v := ?_) rfl (by kernel_rfl) (fun _ _ _ h => h) (by rfl) ?_ hS0 ?_
  rotate_left
  · ((intro w hS; obtain ⟨h1, h2⟩ := hS; go_simp) <;> with_reducible rfl)
  refine wpAnyC_take 4 (v := ?_) rfl (by kernel_rfl) (fun _ _ _ h => h) (by rfl) ?_ hS0 ?_
  rotate_left
  · ((intro w hS; clear hS; go_simp) <;> with_reducible rfl)
  refine wpAnyC_take 5 (v := .agg (by8 b).toArray) rfl (by kernel_rfl) (fun _ _ _ h => h) (by rfl) ?_ hS0 ?_
  · exact fun w hS => exec_load_mid 32 _ rfl q 0 (by go_simp) _ _ hS.2 Tryd.underlying32 rfl (by rw [gpage_size, L1.out])
  refine wpAnyC_take 6 (v := .agg (by8 b).toArray) rfl (by kernel_rfl) (fun _ _ _ h => h) (by rfl) ?_ hS0 ?_
  · exact fun w hS => exec_load_mid 32 _ rfl q 0 (by go_simp) _ _ hS.2 Tryd.underlying32 rfl (by rw [gpage_size, L1.out])
  refine wpAnyC_take 7 (v := .agg (by8 b ++ by8 b).toArray) rfl (by kernel_rfl) (fun _ _ _ h => h) (by rfl) ?_ hS0 ?_
  · exact fun w hS => exec_built _ [(0, .agg (by8 b).toArray), (1, .agg (by8 b).toArray)] rfl (by go_simp) (gpg_build (by8 b) (by8 b) L1.out L1.out w)
  refine wpAnyC_take 8 (v := ?_) rfl (by kernel_rfl) (fun _ _ _ h => h) (by rfl) ?_ hS0 ?_
  rotate_left
  · ((intro w hS; clear hS; go_simp) <;> with_reducible rfl)
  refine wpAnyC_store 9 (by kernel_rfl) rfl (by rfl) 79 rfl pb (n * 64) (by8 b ++ by8 b).toArray (by go_simp) (by go_simp) HTh.out (by rw [gpg_info]; simp [L1.out]) (gpg_one ⟨b, b, L3.out, L3.out⟩) (fun h => absurd h (by decide)) ?_
  refine wpAnyC_done (by kernel_rfl) ?_ _
  go_wp2_with fail
  go_ret
  have hl := L1.out
  refine ⟨rfl, (HF.out.only (F := []) (Only.refl _ _).drew (by simp)).pages_ (q := ⟨b, b, L3.out, L3.out⟩) HP.out 0 (by8 b ++ by8 b) (by simp [hl]) ?_, (HO2.out.drew.mono (by simp)).setCells (.inl (by simp)) _ _⟩
  rw [List.drop_of_length_le (by rw [gpg_len]; simp [hl])]
  simp [gpg]


theorem frames_Clean_no (h : FramesAt w f c fb pb hb fs hand ps hs) (key : Int) (ht : fndR fs key 1 = .tuple #[.int .i64 0, .bool false]) :
    Calls Tryd.prog 14 #[.pointer (some ⟨f, 0, none⟩), .int .i64 key] w fun e w' => e = .returned (.tuple #[]) ∧ Only [] w w' := by
  have H := Lib.hid (frames_find h key 1)
  rw [ht] at H
  clear h ht
  go_enter Tryd.func14, Tryd.ntmps14
  go_wp2_with (go_at_call 38; refine H.out.mono ?_; rintro e w1 ⟨rfl, ho⟩)
  go_end0
  exact ⟨rfl, ho⟩

set_option maxRecDepth 100000 in
set_option maxHeartbeats 1600000 in
theorem frames_Clean_ok (h : FramesAt w f c fb pb hb fs hand ps hs) (key : Int) (n : Nat) (p : PG) (ht : fndR fs key 1 = .tuple #[.int .i64 n, .bool true]) (hp : ps[n]? = some p) :
    Calls Tryd.prog 14 #[.pointer (some ⟨f, 0, none⟩), .int .i64 key] w fun e w' => e = .returned (.tuple #[]) ∧ FramesAt w' f c fb pb hb fs hand (ps.set n ⟨p.now, p.now, p.hn, p.hn⟩) hs ∧ Only [pb] w w' := by
  have H := Lib.hid (frames_find h key 1)
  rw [ht] at H
  have hn : n < fs.length := by rw [← h.np]; exact (List.getElem?_eq_some_iff.1 hp).1
  have hn0 : (0 : Int) ≤ n := by omega
  have hn1 : (n : Int) < fs.length := by omega
  have hnl := p.hn
  have L1 : Hid ((by8 p.now).length = 32) := by simp [Hid, by8, hnl]
  have HP := Lib.hid hp
  have HC := Lib.hid h
  clear h ht hp hnl hn
  go_enter Tryd.func14, Tryd.ntmps14
  go_wp2_with fail
  refine H.out.mono ?_
  rintro e w2 ⟨rfl, ho⟩
  have hF := HC.out.only ho (by simp)
  have h1 := hF.cell1
  have h2 := hF.now_ HP.out
  have HTh : Hid (w2.drew.there pb (n * 64) (by8 p.now).toArray.size) := by
    have hl := L1.out
    have := hF.hp.rec_there (g := gpg) gpg_len HP.out 0 32 (by omega)
    have e : (by8 p.now).toArray.size = 32 := by simp [hl]
    rw [e]; exact this
  have HO2 := Lib.hid ho
  have HF := Lib.hid hF
  have H2 := Lib.hid h2
  clear hF ho h2 HC H
  go_wp2_with fail
  refine wp_region_C 13 (fun w' => w'.cell? ⟨f, 1, none⟩ = some (.slice (some ⟨pb, 0, none⟩) fs.length fs.length) ∧ w'.rangeAt pb (n * 64 + 32) (by8 p.now)) (by kernel_rfl) ?_
  have hS0 : w2.drew.cell? ⟨f, 1, none⟩ = some (.slice (some ⟨pb, 0, none⟩) fs.length fs.length) ∧ w2.drew.rangeAt pb (n * 64 + 32) (by8 p.now) := ⟨h1, H2.out⟩
  refine wpAnyC_take 0 (v := ?_) rfl (by kernel_rfl) (fun _ _ _ h => h) (by rfl) ?_ hS0 ?_
  rotate_left
  · ((intro w hS; clear hS; go_simp) <;> with_reducible rfl)
  refine wpAnyC_take 1 (v := ?_) rfl (by kernel_rfl) (fun _ _ _ h => h) (by rfl) ?_ hS0 ?_
  rotate_left
  · ((intro w hS; clear hS; go_simp) <;> with_reducible rfl)
  refine wpAnyC_take 2 (v := ?_) rfl (by kernel_rfl) (fun _ _ _ h => h) (by rfl) ?_ hS0 ?_
  rotate_left
  · ((intro w hS; clear hS; go_simp) <;> with_reducible rfl)
  refine wpAnyC_take 3 (v := ?_) rfl (by kernel_rfl) (fun _ _ _ h => h) (by rfl) ?_ hS0 ?_
  rotate_left
  · ((intro w hS; obtain ⟨h1, -⟩ := hS; go_simp) <;> with_reducible rfl)
  refine wpAnyC_take 4 (v := ?_) rfl (by kernel_rfl) (fun _ _ _ h => h) (by rfl) ?_ hS0 ?_
  rotate_left
  · ((intro w hS; clear hS; go_simp) <;> with_reducible rfl)
  refine wpAnyC_take 5 (v := ?_) rfl (by kernel_rfl) (fun _ _ _ h => h) (by rfl) ?_ hS0 ?_
  rotate_left
  · ((intro w hS; clear hS; go_simp) <;> with_reducible rfl)
  refine wpAnyC_take 6 (v := ?_) rfl (by kernel_rfl) (fun _ _ _ h => h) (by rfl) ?_ hS0 ?_
  rotate_left
  · ((intro w hS; clear hS; go_simp) <;> with_reducible rfl)
  refine wpAnyC_take 7 (v := ?_) rfl (by kernel_rfl) (fun _ _ _ h => h) (by rfl) ?_ hS0 ?_
  rotate_left
  · ((intro w hS; clear hS; go_simp) <;> with_reducible rfl)
  refine wpAnyC_take 8 (v := ?_) rfl (by kernel_rfl) (fun _ _ _ h => h) (by rfl) ?_ hS0 ?_
  rotate_left
  · ((intro w hS; obtain ⟨h1, -⟩ := hS; go_simp) <;> with_reducible rfl)
  refine wpAnyC_take 9 (v := ?_) rfl (by kernel_rfl) (fun _ _ _ h => h) (by rfl) ?_ hS0 ?_
  rotate_left
  · ((intro w hS; clear hS; go_simp) <;> with_reducible rfl)
  refine wpAnyC_take 10 (v := ?_) rfl (by kernel_rfl) (fun _ _ _ h => h) (by rfl) ?_ hS0 ?_
  rotate_left
  · ((intro w hS; clear hS; go_simp) <;> with_reducible rfl)
  refine wpAnyC_take 11 (v := ?_) rfl (by kernel_rfl) (fun _ _ _ h => h) (by rfl) ?_ hS0 ?_
  rotate_left
  · ((intro w hS; clear hS; go_simp) <;> with_reducible rfl)
  refine wpAnyC_take 12 (v := .agg (by8 p.now).toArray) rfl (by kernel_rfl) (fun _ _ _ h => h) (by rfl) ?_ hS0 ?_
  · exact fun w hS => exec_load_mid 32 _ rfl pb (n * 64 + 32) (by go_simp) _ _ hS.2 Tryd.underlying32 rfl (by rw [gpage_size, L1.out])
  refine wpAnyC_one (i := 13) (by kernel_rfl) rfl (fun K hK => ?_)
  go_simp
  refine hK _ _ (fun h => absurd h (by decide)) ?_; clear hK K
  refine wpAnyC_one (i := 14) (by kernel_rfl) rfl (fun K hK => ?_)
  go_simp
  refine hK _ _ (fun h => absurd h (by decide)) ?_; clear hK K
  refine wpAnyC_store 15 (by kernel_rfl) rfl (by rfl) 32 rfl pb (n * 64) (by8 p.now).toArray (by go_simp) (by go_simp) HTh.out (by rw [gpage_size]; simp [L1.out]) (by8_one _) (fun h => absurd h (by decide)) ?_
  refine wpAnyC_done (by kernel_rfl) ?_ _
  go_wp2_with fail
  go_end0
  have hl := L1.out
  refine ⟨rfl, (HF.out.only (F := []) (Only.refl _ _).drew (by simp)).pages_ (q := ⟨p.now, p.now, p.hn, p.hn⟩) HP.out 0 (by8 p.now) (by simp [hl]) ?_, (HO2.out.drew.mono (by simp)).setCells (.inl (by simp)) _ _⟩
  simp only [hl, gpg, List.take_zero, List.nil_append, Nat.zero_add]
  rw [List.drop_left' (by simp [by8, p.hb])]

end
end Go.Proofs.YtbfgpghfofmanaaDoor
