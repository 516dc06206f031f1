/-
  The law PinsApart: its walk. (Printed by wip/gen_pinsF.py.)
-/
import Derived.Test.YtfcekldlgcdgnaaPinsE
namespace Go.Proofs.Ytfcekldlgcdgnaa
open Go.RowKit Go.Sort

theorem reads_at {w wr : World} {A : Option Addr} {l : List Stp} (HA : ∀ j x, l[j]? = some x → ∃ b off, A = some ⟨b, off, none⟩ ∧ w.cell? ⟨b, off + j * 3, none⟩ = some (.bool x.drop) ∧
    w.cell? ⟨b, off + j * 3 + 1, none⟩ = some (.int .i64 x.session) ∧ w.cell? ⟨b, off + j * 3 + 2, none⟩ = some (.int .i64 x.page)) (ho : Only [] w wr) {k : Nat} {x : Stp} (hk : l[k]? = some x) :
    ∃ b off, A = some ⟨b, off, none⟩ ∧ wr.cell? ⟨b, off + k * 3, none⟩ = some (.bool x.drop) ∧ wr.cell? ⟨b, off + k * 3 + 1, none⟩ = some (.int .i64 x.session) ∧ wr.cell? ⟨b, off + k * 3 + 2, none⟩ = some (.int .i64 x.page) := by
  obtain ⟨b, off, e, h0, h1, h2⟩ := HA k x hk
  have lt := World.block_lt_of_cell? _ _ h0
  exact ⟨b, off, e, (ho.cell (p := ⟨b, off + k * 3, none⟩) lt (by simp)).trans h0, (ho.cell (p := ⟨b, off + k * 3 + 1, none⟩) lt (by simp)).trans h1, (ho.cell (p := ⟨b, off + k * 3 + 2, none⟩) lt (by simp)).trans h2⟩

theorem pins_Add0 (p q : Nat) (ss : Nat → Value) (x y : List Int) (w : World) (h : PinsAt w p q ss (two x y)) (g : Int) :
    Calls Try.prog 7 #[.pointer (some ⟨p, 0, none⟩), .int .i64 0, .int .i64 g] w fun e w' => e = .returned (.int .i64 (addR x g)) ∧ PinsNext w w' p q ss (two (addL x g) y) :=
  (pins_Add_any p q ss (two x y) w h 0 g (by omega)).mono fun e w' ⟨he, hn⟩ => ⟨he, by rw [upd_two0] at hn; exact hn⟩

theorem pins_Add1 (p q : Nat) (ss : Nat → Value) (x y : List Int) (w : World) (h : PinsAt w p q ss (two x y)) (g : Int) :
    Calls Try.prog 7 #[.pointer (some ⟨p, 0, none⟩), .int .i64 1, .int .i64 g] w fun e w' => e = .returned (.int .i64 (addR y g)) ∧ PinsNext w w' p q ss (two x (addL y g)) :=
  (pins_Add_any p q ss (two x y) w h 1 g (by omega)).mono fun e w' ⟨he, hn⟩ => ⟨he, by rw [upd_two1] at hn; exact hn⟩

theorem pins_Drop0 (p q : Nat) (ss : Nat → Value) (x y : List Int) (w : World) (h : PinsAt w p q ss (two x y)) (g : Int) (hl : x.length ≤ 16) :
    Calls Try.prog 6 #[.pointer (some ⟨p, 0, none⟩), .int .i64 0, .int .i64 g] w fun e w' => e = .returned (.int .i64 (dropR x g)) ∧ PinsNext w w' p q ss (two (dropL x g) y) :=
  (pins_Drop_any p q ss (two x y) w h 0 g (by omega) hl).mono fun e w' ⟨he, hn⟩ => ⟨he, by rw [upd_two0] at hn; exact hn⟩

theorem pins_Drop1 (p q : Nat) (ss : Nat → Value) (x y : List Int) (w : World) (h : PinsAt w p q ss (two x y)) (g : Int) (hl : y.length ≤ 16) :
    Calls Try.prog 6 #[.pointer (some ⟨p, 0, none⟩), .int .i64 1, .int .i64 g] w fun e w' => e = .returned (.int .i64 (dropR y g)) ∧ PinsNext w w' p q ss (two x (dropL y g)) :=
  (pins_Drop_any p q ss (two x y) w h 1 g (by omega) hl).mono fun e w' ⟨he, hn⟩ => ⟨he, by rw [upd_two1] at hn; exact hn⟩

set_option maxRecDepth 100000 in
set_option maxHeartbeats 8000000 in
theorem pinsApart_walk (w : World) (va vb : Value) (a b : List Stp) (ha : ReadsS w va a) (hb : ReadsS w vb b) (hla : a.length ≤ 60) (hlb : b.length ≤ 60) :
    Calls Try.prog 3 #[va, vb] w fun e w' => e = .returned (.bool true) ∧ Only [] w w' := by
  obtain ⟨A, c, rfl, hA⟩ := ha
  obtain ⟨B, d, rfl, hB⟩ := hb
  have HA := Lib.hid hA
  have HB := Lib.hid hB
  clear hA hB
  obtain ⟨n, hn⟩ : ∃ n, Hid (a.length = n) := ⟨_, Lib.hid rfl⟩
  obtain ⟨m, hm⟩ : ∃ m, Hid (b.length = m) := ⟨_, Lib.hid rfl⟩
  rw [hn.out] at hla ⊢
  rw [hm.out] at hlb ⊢
  go_enter Try.func3, Try.ntmps3
  go_wp2_with fail
  refine (two_new w).mono ?_
  rintro e w1 ⟨p, q, rfl, hP⟩
  have HP := Lib.hid hP
  clear hP
  go_wp2_with fail
  refine (two_new w1).mono ?_
  rintro e w2 ⟨p2, q2, rfl, hP⟩
  have HT := Lib.hid (two_start HP.out hP)
  clear hP HP
  go_wp2_with fail
  go_loopw [9] (fun i wr => ∃ k : Nat, k ≤ max n m ∧ i = .int .i64 k ∧ Two w wr p q p2 q2 (two (runL (a.take k)) (runL (b.take k))) (two (runL (a.take k)) []) []) (fun i _ => max n m - (intOf i).toNat)
  case atStart => exact ⟨0, by omega, rfl, HT.out⟩
  case round =>
    clear HT
    obtain ⟨k, hk, rfl, hT⟩ := hrel
    have HT := Lib.hid hT
    clear hT
    have hk0 : (0 : Int) ≤ k := by omega
    by_cases hlt : k < n
    · obtain ⟨x, hx⟩ : ∃ x, a[k]? = some x := ⟨_, List.getElem?_eq_getElem (by have := hn.out; omega)⟩
      obtain ⟨bb, off, rfl, c0, c1, c2⟩ := reads_at HA.out HT.out.only hx
      have hk1 : (k : Int) < n := by omega
      have HX := Lib.hid hx
      clear hx
      obtain ⟨dr, se, pg⟩ := x
      simp only at c0 c1 c2
      cases dr with
      | true =>
        obtain ⟨r, hr⟩ : ∃ r, Hid (dropR (runL (a.take k)) pg = r) := ⟨_, Lib.hid rfl⟩
        go_wp2_with fail
        refine wp_region_C 9 (fun w' => w'.cell? ⟨wr.heap.size, 2, none⟩ = some (.int .i64 pg)) (by kernel_rfl) ?_
        have hS0 : (wr.alloc (.cells #[.bool true, .int .i64 se, .int .i64 pg] 29)).drew.cell? ⟨wr.heap.size, 2, none⟩ = some (.int .i64 pg) := (Blk.new wr 29 #[.bool true, .int .i64 se, .int .i64 pg]).cell 2
        refine wpAnyC_take 0 (v := ?_) rfl (by kernel_rfl) (fun _ _ _ h => h) (by rfl) ?_ hS0 ?_
        rotate_left
        · ((intro w hS; clear hS; go_simp) <;> with_reducible rfl)
        refine wpAnyC_take 1 (v := ?_) rfl (by kernel_rfl) (fun _ _ _ h => h) (by rfl) ?_ hS0 ?_
        rotate_left
        · ((intro w hS; clear hS; go_simp) <;> with_reducible rfl)
        refine wpAnyC_take 2 (v := ?_) rfl (by kernel_rfl) (fun _ _ _ h => h) (by rfl) ?_ hS0 ?_
        rotate_left
        · ((intro w hS; obtain h1 := hS; go_simp) <;> with_reducible rfl)
        refine wpAnyC_take 4 (v := ?_) rfl (by kernel_rfl) (fun _ _ _ h => h) (by rfl) ?_ hS0 ?_
        rotate_left
        · ((intro w hS; clear hS; go_simp) <;> with_reducible rfl)
        refine wpAnyC_take 5 (v := ?_) rfl (by kernel_rfl) (fun _ _ _ h => h) (by rfl) ?_ hS0 ?_
        rotate_left
        · ((intro w hS; clear hS; go_simp) <;> with_reducible rfl)
        refine wpAnyC_take 6 (v := ?_) rfl (by kernel_rfl) (fun _ _ _ h => h) (by rfl) ?_ hS0 ?_
        rotate_left
        · ((intro w hS; obtain h1 := hS; go_simp) <;> with_reducible rfl)
        refine wpAnyC_one (i := 3) (by kernel_rfl) rfl (fun K hK => ?_)
        go_simp
        go_wp2_with fail
        refine (Two.fst (r := .int .i64 r) ((HT.out.alloc _).same (Only.refl _ _).drew) (fun ss h => (pins_Drop0 _ _ ss _ _ _ h pg (runL_fine _).1).mono fun e w' ⟨he, hn⟩ => ⟨he.trans (by rw [hr.out]), hn⟩)).mono ?_
        rintro e w3 ⟨rfl, hT, hav⟩
        have HT3 := Lib.hid hT
        have hS3 : w3.cell? ⟨wr.heap.size, 2, none⟩ = some (.int .i64 pg) := (World.cell?_of_block (hav _ (by simp))).trans hS0
        clear hT hav
        refine hK _ _ (fun _ => hS3) ?_; clear hK K
        refine wpAnyC_one (i := 7) (by kernel_rfl) rfl (fun K hK => ?_)
        go_simp
        go_wp2_with fail
        refine (Two.snd (r := .int .i64 r) HT3.out (fun ss h => (pins_Drop0 _ _ ss _ _ _ h pg (runL_fine _).1).mono fun e w' ⟨he, hn⟩ => ⟨he.trans (by rw [hr.out]), hn⟩)).mono ?_
        rintro e w4 ⟨rfl, hT, hav⟩
        have HT4 := Lib.hid hT
        have hS4 : w4.cell? ⟨wr.heap.size, 2, none⟩ = some (.int .i64 pg) := (World.cell?_of_block (hav _ (by simp))).trans hS3
        clear hT hav
        refine hK _ _ (fun _ => hS4) ?_; clear hK K
        refine wpAnyC_take 8 (v := ?_) rfl (by kernel_rfl) (fun _ _ _ h => h) (by rfl) ?_ hS4 ?_
        rotate_left
        · ((intro w hS; clear hS; go_simp) <;> with_reducible rfl)
        refine wpAnyC_done (by kernel_rfl) ?_ _

        clear c0 c1 c2 hS0 hS3 hS4
        by_cases hltb : k < m
        · obtain ⟨y, hy⟩ : ∃ y, b[k]? = some y := ⟨_, List.getElem?_eq_getElem (by have := hm.out; omega)⟩
          obtain ⟨bb2, off2, rfl, d0, d1, d2⟩ := reads_at HB.out HT4.out.only hy
          have hkb : (k : Int) < m := by omega
          have HY := Lib.hid hy
          clear hy
          obtain ⟨dr2, se2, pg2⟩ := y
          simp only at d0 d1 d2
          cases dr2 with
          | true =>
            go_wp2_with fail
            refine (Two.fst (ls3 := two _ _) HT4.out (fun ss h => pins_Drop1 _ _ ss _ _ _ h pg2 (runL_fine _).1)).mono ?_
            rintro e w5 ⟨rfl, hT, -⟩
            have HT5 := Lib.hid hT
            clear hT d0 d1 d2
            go_wp2_with fail
            obtain ⟨ss, ss2, k1, k2, k3, k4, k5, k6, -⟩ := HT5.out
            have K2 := Lib.hid k2
            refine (pins_Of_ok p q ss _ _ k1 0 (by omega) (runL_len _ _ _ HX.out)).mono ?_
            rintro e w6 ⟨v, rfl, hO, ho⟩
            have HO := Lib.hid hO
            have HW := Lib.hid ho
            clear hO ho k1 k2 k3 k4 k5 k6
            go_wp2_with fail
            refine (pins_Of_ok p2 q2 ss2 _ _ (K2.out.only HW.out (by simp)) 0 (by omega) (runL_len _ _ _ HX.out)).mono ?_
            rintro e w7 ⟨v2, rfl, hO, ho⟩
            have HO2 := Lib.hid hO
            have HW2 := Lib.hid ho
            clear hO ho
            go_wp2_with fail
            refine (ints_alike (HO.out.only HW2.out (by simp)).reads HO2.out.reads (Nat.le_trans (runL_len _ _ _ HX.out) (by decide)) (Nat.le_trans (runL_len _ _ _ HX.out) (by decide))).mono ?_
            rintro e w8 ⟨he, ho⟩
            obtain rfl : e = .returned (.bool true) := he.trans (by simp [two])
            have HW3 := Lib.hid ho
            clear he ho
            go_wp2_with fail
            go_roundw
            case rel =>
              refine ⟨k + 1, by omega, by go_num, ?_⟩
              rw [runL_snoc a k _ HX.out, runL_snoc b k _ HY.out]
              exact ((HT5.out.less.same HW.out).same HW2.out).same HW3.out
            case measure => simp [intOf]; omega
          | false =>
            go_wp2_with fail
            refine (Two.fst (ls3 := two _ _) HT4.out (fun ss h => pins_Add1 _ _ ss _ _ _ h pg2)).mono ?_
            rintro e w5 ⟨rfl, hT, -⟩
            have HT5 := Lib.hid hT
            clear hT d0 d1 d2
            go_wp2_with fail
            obtain ⟨ss, ss2, k1, k2, k3, k4, k5, k6, -⟩ := HT5.out
            have K2 := Lib.hid k2
            refine (pins_Of_ok p q ss _ _ k1 0 (by omega) (runL_len _ _ _ HX.out)).mono ?_
            rintro e w6 ⟨v, rfl, hO, ho⟩
            have HO := Lib.hid hO
            have HW := Lib.hid ho
            clear hO ho k1 k2 k3 k4 k5 k6
            go_wp2_with fail
            refine (pins_Of_ok p2 q2 ss2 _ _ (K2.out.only HW.out (by simp)) 0 (by omega) (runL_len _ _ _ HX.out)).mono ?_
            rintro e w7 ⟨v2, rfl, hO, ho⟩
            have HO2 := Lib.hid hO
            have HW2 := Lib.hid ho
            clear hO ho
            go_wp2_with fail
            refine (ints_alike (HO.out.only HW2.out (by simp)).reads HO2.out.reads (Nat.le_trans (runL_len _ _ _ HX.out) (by decide)) (Nat.le_trans (runL_len _ _ _ HX.out) (by decide))).mono ?_
            rintro e w8 ⟨he, ho⟩
            obtain rfl : e = .returned (.bool true) := he.trans (by simp [two])
            have HW3 := Lib.hid ho
            clear he ho
            go_wp2_with fail
            go_roundw
            case rel =>
              refine ⟨k + 1, by omega, by go_num, ?_⟩
              rw [runL_snoc a k _ HX.out, runL_snoc b k _ HY.out]
              exact ((HT5.out.less.same HW.out).same HW2.out).same HW3.out
            case measure => simp [intOf]; omega
        · have HT5 := HT4
          go_wp2_with fail
          obtain ⟨ss, ss2, k1, k2, k3, k4, k5, k6, -⟩ := HT5.out
          have K2 := Lib.hid k2
          refine (pins_Of_ok p q ss _ _ k1 0 (by omega) (runL_len _ _ _ HX.out)).mono ?_
          rintro e w6 ⟨v, rfl, hO, ho⟩
          have HO := Lib.hid hO
          have HW := Lib.hid ho
          clear hO ho k1 k2 k3 k4 k5 k6
          go_wp2_with fail
          refine (pins_Of_ok p2 q2 ss2 _ _ (K2.out.only HW.out (by simp)) 0 (by omega) (runL_len _ _ _ HX.out)).mono ?_
          rintro e w7 ⟨v2, rfl, hO, ho⟩
          have HO2 := Lib.hid hO
          have HW2 := Lib.hid ho
          clear hO ho
          go_wp2_with fail
          refine (ints_alike (HO.out.only HW2.out (by simp)).reads HO2.out.reads (Nat.le_trans (runL_len _ _ _ HX.out) (by decide)) (Nat.le_trans (runL_len _ _ _ HX.out) (by decide))).mono ?_
          rintro e w8 ⟨he, ho⟩
          obtain rfl : e = .returned (.bool true) := he.trans (by simp [two])
          have HW3 := Lib.hid ho
          clear he ho
          go_wp2_with fail
          go_roundw
          case rel =>
            refine ⟨k + 1, by omega, by go_num, ?_⟩
            rw [runL_snoc a k _ HX.out, runL_stay b k (by have := hm.out; omega)]
            exact ((HT5.out.less.same HW.out).same HW2.out).same HW3.out
          case measure => simp [intOf]; omega
      | false =>
        obtain ⟨r, hr⟩ : ∃ r, Hid (addR (runL (a.take k)) pg = r) := ⟨_, Lib.hid rfl⟩
        go_wp2_with fail
        refine wp_region_C 9 (fun w' => w'.cell? ⟨wr.heap.size, 2, none⟩ = some (.int .i64 pg)) (by kernel_rfl) ?_
        have hS0 : (wr.alloc (.cells #[.bool false, .int .i64 se, .int .i64 pg] 29)).drew.cell? ⟨wr.heap.size, 2, none⟩ = some (.int .i64 pg) := (Blk.new wr 29 #[.bool false, .int .i64 se, .int .i64 pg]).cell 2
        refine wpAnyC_take 0 (v := ?_) rfl (by kernel_rfl) (fun _ _ _ h => h) (by rfl) ?_ hS0 ?_
        rotate_left
        · ((intro w hS; clear hS; go_simp) <;> with_reducible rfl)
        refine wpAnyC_take 1 (v := ?_) rfl (by kernel_rfl) (fun _ _ _ h => h) (by rfl) ?_ hS0 ?_
        rotate_left
        · ((intro w hS; clear hS; go_simp) <;> with_reducible rfl)
        refine wpAnyC_take 2 (v := ?_) rfl (by kernel_rfl) (fun _ _ _ h => h) (by rfl) ?_ hS0 ?_
        rotate_left
        · ((intro w hS; obtain h1 := hS; go_simp) <;> with_reducible rfl)
        refine wpAnyC_take 4 (v := ?_) rfl (by kernel_rfl) (fun _ _ _ h => h) (by rfl) ?_ hS0 ?_
        rotate_left
        · ((intro w hS; clear hS; go_simp) <;> with_reducible rfl)
        refine wpAnyC_take 5 (v := ?_) rfl (by kernel_rfl) (fun _ _ _ h => h) (by rfl) ?_ hS0 ?_
        rotate_left
        · ((intro w hS; clear hS; go_simp) <;> with_reducible rfl)
        refine wpAnyC_take 6 (v := ?_) rfl (by kernel_rfl) (fun _ _ _ h => h) (by rfl) ?_ hS0 ?_
        rotate_left
        · ((intro w hS; obtain h1 := hS; go_simp) <;> with_reducible rfl)
        refine wpAnyC_one (i := 3) (by kernel_rfl) rfl (fun K hK => ?_)
        go_simp
        go_wp2_with fail
        refine (Two.fst (r := .int .i64 r) ((HT.out.alloc _).same (Only.refl _ _).drew) (fun ss h => (pins_Add0 _ _ ss _ _ _ h pg).mono fun e w' ⟨he, hn⟩ => ⟨he.trans (by rw [hr.out]), hn⟩)).mono ?_
        rintro e w3 ⟨rfl, hT, hav⟩
        have HT3 := Lib.hid hT
        have hS3 : w3.cell? ⟨wr.heap.size, 2, none⟩ = some (.int .i64 pg) := (World.cell?_of_block (hav _ (by simp))).trans hS0
        clear hT hav
        refine hK _ _ (fun _ => hS3) ?_; clear hK K
        refine wpAnyC_one (i := 7) (by kernel_rfl) rfl (fun K hK => ?_)
        go_simp
        go_wp2_with fail
        refine (Two.snd (r := .int .i64 r) HT3.out (fun ss h => (pins_Add0 _ _ ss _ _ _ h pg).mono fun e w' ⟨he, hn⟩ => ⟨he.trans (by rw [hr.out]), hn⟩)).mono ?_
        rintro e w4 ⟨rfl, hT, hav⟩
        have HT4 := Lib.hid hT
        have hS4 : w4.cell? ⟨wr.heap.size, 2, none⟩ = some (.int .i64 pg) := (World.cell?_of_block (hav _ (by simp))).trans hS3
        clear hT hav
        refine hK _ _ (fun _ => hS4) ?_; clear hK K
        refine wpAnyC_take 8 (v := ?_) rfl (by kernel_rfl) (fun _ _ _ h => h) (by rfl) ?_ hS4 ?_
        rotate_left
        · ((intro w hS; clear hS; go_simp) <;> with_reducible rfl)
        refine wpAnyC_done (by kernel_rfl) ?_ _

        clear c0 c1 c2 hS0 hS3 hS4
        by_cases hltb : k < m
        · obtain ⟨y, hy⟩ : ∃ y, b[k]? = some y := ⟨_, List.getElem?_eq_getElem (by have := hm.out; omega)⟩
          obtain ⟨bb2, off2, rfl, d0, d1, d2⟩ := reads_at HB.out HT4.out.only hy
          have hkb : (k : Int) < m := by omega
          have HY := Lib.hid hy
          clear hy
          obtain ⟨dr2, se2, pg2⟩ := y
          simp only at d0 d1 d2
          cases dr2 with
          | true =>
            go_wp2_with fail
            refine (Two.fst (ls3 := two _ _) HT4.out (fun ss h => pins_Drop1 _ _ ss _ _ _ h pg2 (runL_fine _).1)).mono ?_
            rintro e w5 ⟨rfl, hT, -⟩
            have HT5 := Lib.hid hT
            clear hT d0 d1 d2
            go_wp2_with fail
            obtain ⟨ss, ss2, k1, k2, k3, k4, k5, k6, -⟩ := HT5.out
            have K2 := Lib.hid k2
            refine (pins_Of_ok p q ss _ _ k1 0 (by omega) (runL_len _ _ _ HX.out)).mono ?_
            rintro e w6 ⟨v, rfl, hO, ho⟩
            have HO := Lib.hid hO
            have HW := Lib.hid ho
            clear hO ho k1 k2 k3 k4 k5 k6
            go_wp2_with fail
            refine (pins_Of_ok p2 q2 ss2 _ _ (K2.out.only HW.out (by simp)) 0 (by omega) (runL_len _ _ _ HX.out)).mono ?_
            rintro e w7 ⟨v2, rfl, hO, ho⟩
            have HO2 := Lib.hid hO
            have HW2 := Lib.hid ho
            clear hO ho
            go_wp2_with fail
            refine (ints_alike (HO.out.only HW2.out (by simp)).reads HO2.out.reads (Nat.le_trans (runL_len _ _ _ HX.out) (by decide)) (Nat.le_trans (runL_len _ _ _ HX.out) (by decide))).mono ?_
            rintro e w8 ⟨he, ho⟩
            obtain rfl : e = .returned (.bool true) := he.trans (by simp [two])
            have HW3 := Lib.hid ho
            clear he ho
            go_wp2_with fail
            go_roundw
            case rel =>
              refine ⟨k + 1, by omega, by go_num, ?_⟩
              rw [runL_snoc a k _ HX.out, runL_snoc b k _ HY.out]
              exact ((HT5.out.less.same HW.out).same HW2.out).same HW3.out
            case measure => simp [intOf]; omega
          | false =>
            go_wp2_with fail
            refine (Two.fst (ls3 := two _ _) HT4.out (fun ss h => pins_Add1 _ _ ss _ _ _ h pg2)).mono ?_
            rintro e w5 ⟨rfl, hT, -⟩
            have HT5 := Lib.hid hT
            clear hT d0 d1 d2
            go_wp2_with fail
            obtain ⟨ss, ss2, k1, k2, k3, k4, k5, k6, -⟩ := HT5.out
            have K2 := Lib.hid k2
            refine (pins_Of_ok p q ss _ _ k1 0 (by omega) (runL_len _ _ _ HX.out)).mono ?_
            rintro e w6 ⟨v, rfl, hO, ho⟩
            have HO := Lib.hid hO
            have HW := Lib.hid ho
            clear hO ho k1 k2 k3 k4 k5 k6
            go_wp2_with fail
            refine (pins_Of_ok p2 q2 ss2 _ _ (K2.out.only HW.out (by simp)) 0 (by omega) (runL_len _ _ _ HX.out)).mono ?_
            rintro e w7 ⟨v2, rfl, hO, ho⟩
            have HO2 := Lib.hid hO
            have HW2 := Lib.hid ho
            clear hO ho
            go_wp2_with fail
            refine (ints_alike (HO.out.only HW2.out (by simp)).reads HO2.out.reads (Nat.le_trans (runL_len _ _ _ HX.out) (by decide)) (Nat.le_trans (runL_len _ _ _ HX.out) (by decide))).mono ?_
            rintro e w8 ⟨he, ho⟩
            obtain rfl : e = .returned (.bool true) := he.trans (by simp [two])
            have HW3 := Lib.hid ho
            clear he ho
            go_wp2_with fail
            go_roundw
            case rel =>
              refine ⟨k + 1, by omega, by go_num, ?_⟩
              rw [runL_snoc a k _ HX.out, runL_snoc b k _ HY.out]
              exact ((HT5.out.less.same HW.out).same HW2.out).same HW3.out
            case measure => simp [intOf]; omega
        · have HT5 := HT4
          go_wp2_with fail
          obtain ⟨ss, ss2, k1, k2, k3, k4, k5, k6, -⟩ := HT5.out
          have K2 := Lib.hid k2
          refine (pins_Of_ok p q ss _ _ k1 0 (by omega) (runL_len _ _ _ HX.out)).mono ?_
          rintro e w6 ⟨v, rfl, hO, ho⟩
          have HO := Lib.hid hO
          have HW := Lib.hid ho
          clear hO ho k1 k2 k3 k4 k5 k6
          go_wp2_with fail
          refine (pins_Of_ok p2 q2 ss2 _ _ (K2.out.only HW.out (by simp)) 0 (by omega) (runL_len _ _ _ HX.out)).mono ?_
          rintro e w7 ⟨v2, rfl, hO, ho⟩
          have HO2 := Lib.hid hO
          have HW2 := Lib.hid ho
          clear hO ho
          go_wp2_with fail
          refine (ints_alike (HO.out.only HW2.out (by simp)).reads HO2.out.reads (Nat.le_trans (runL_len _ _ _ HX.out) (by decide)) (Nat.le_trans (runL_len _ _ _ HX.out) (by decide))).mono ?_
          rintro e w8 ⟨he, ho⟩
          obtain rfl : e = .returned (.bool true) := he.trans (by simp [two])
          have HW3 := Lib.hid ho
          clear he ho
          go_wp2_with fail
          go_roundw
          case rel =>
            refine ⟨k + 1, by omega, by go_num, ?_⟩
            rw [runL_snoc a k _ HX.out, runL_stay b k (by have := hm.out; omega)]
            exact ((HT5.out.less.same HW.out).same HW2.out).same HW3.out
          case measure => simp [intOf]; omega
    · have hkm : k < max n m → k < m := by omega
      by_cases hltb : k < m
      · obtain ⟨y, hy⟩ : ∃ y, b[k]? = some y := ⟨_, List.getElem?_eq_getElem (by have := hm.out; omega)⟩
        obtain ⟨bb2, off2, rfl, d0, d1, d2⟩ := reads_at HB.out HT.out.only hy
        have hkb : (k : Int) < m := by omega
        have HY := Lib.hid hy
        clear hy hkm
        obtain ⟨dr2, se2, pg2⟩ := y
        simp only at d0 d1 d2
        cases dr2 with
        | true =>
          go_wp2_with fail
          refine (Two.fst (ls3 := two _ _) HT.out (fun ss h => pins_Drop1 _ _ ss _ _ _ h pg2 (runL_fine _).1)).mono ?_
          rintro e w5 ⟨rfl, hT, -⟩
          have HT5 := Lib.hid hT
          clear hT d0 d1 d2
          go_wp2_with fail
          obtain ⟨ss, ss2, k1, k2, k3, k4, k5, k6, -⟩ := HT5.out
          have K2 := Lib.hid k2
          refine (pins_Of_ok p q ss _ _ k1 0 (by omega) (runL_len0 _)).mono ?_
          rintro e w6 ⟨v, rfl, hO, ho⟩
          have HO := Lib.hid hO
          have HW := Lib.hid ho
          clear hO ho k1 k2 k3 k4 k5 k6
          go_wp2_with fail
          refine (pins_Of_ok p2 q2 ss2 _ _ (K2.out.only HW.out (by simp)) 0 (by omega) (runL_len0 _)).mono ?_
          rintro e w7 ⟨v2, rfl, hO, ho⟩
          have HO2 := Lib.hid hO
          have HW2 := Lib.hid ho
          clear hO ho
          go_wp2_with fail
          refine (ints_alike (HO.out.only HW2.out (by simp)).reads HO2.out.reads (Nat.le_trans (runL_len0 _) (by decide)) (Nat.le_trans (runL_len0 _) (by decide))).mono ?_
          rintro e w8 ⟨he, ho⟩
          obtain rfl : e = .returned (.bool true) := he.trans (by simp [two])
          have HW3 := Lib.hid ho
          clear he ho
          go_wp2_with fail
          go_roundw
          case rel =>
            refine ⟨k + 1, by omega, by go_num, ?_⟩
            rw [runL_stay a k (by have := hn.out; omega), runL_snoc b k _ HY.out]
            exact ((HT5.out.less.same HW.out).same HW2.out).same HW3.out
          case measure => simp [intOf]; omega
        | false =>
          go_wp2_with fail
          refine (Two.fst (ls3 := two _ _) HT.out (fun ss h => pins_Add1 _ _ ss _ _ _ h pg2)).mono ?_
          rintro e w5 ⟨rfl, hT, -⟩
          have HT5 := Lib.hid hT
          clear hT d0 d1 d2
          go_wp2_with fail
          obtain ⟨ss, ss2, k1, k2, k3, k4, k5, k6, -⟩ := HT5.out
          have K2 := Lib.hid k2
          refine (pins_Of_ok p q ss _ _ k1 0 (by omega) (runL_len0 _)).mono ?_
          rintro e w6 ⟨v, rfl, hO, ho⟩
          have HO := Lib.hid hO
          have HW := Lib.hid ho
          clear hO ho k1 k2 k3 k4 k5 k6
          go_wp2_with fail
          refine (pins_Of_ok p2 q2 ss2 _ _ (K2.out.only HW.out (by simp)) 0 (by omega) (runL_len0 _)).mono ?_
          rintro e w7 ⟨v2, rfl, hO, ho⟩
          have HO2 := Lib.hid hO
          have HW2 := Lib.hid ho
          clear hO ho
          go_wp2_with fail
          refine (ints_alike (HO.out.only HW2.out (by simp)).reads HO2.out.reads (Nat.le_trans (runL_len0 _) (by decide)) (Nat.le_trans (runL_len0 _) (by decide))).mono ?_
          rintro e w8 ⟨he, ho⟩
          obtain rfl : e = .returned (.bool true) := he.trans (by simp [two])
          have HW3 := Lib.hid ho
          clear he ho
          go_wp2_with fail
          go_roundw
          case rel =>
            refine ⟨k + 1, by omega, by go_num, ?_⟩
            rw [runL_stay a k (by have := hn.out; omega), runL_snoc b k _ HY.out]
            exact ((HT5.out.less.same HW.out).same HW2.out).same HW3.out
          case measure => simp [intOf]; omega
      · have hend : ¬ ((k : Int) < max (n : Int) (m : Int)) := by omega
        clear hkm
        obtain ⟨x, hx⟩ : ∃ x, Hid (runL (a.take k) = x) := ⟨_, Lib.hid rfl⟩
        obtain ⟨y, hy⟩ : ∃ y, Hid (runL (b.take k) = y) := ⟨_, Lib.hid rfl⟩
        have FX : Hid (Fine x) := by rw [← hx.out]; exact runL_fine _
        have FY : Hid (Fine y) := by rw [← hy.out]; exact runL_fine _
        have HT2 : Hid (Two w wr p q p2 q2 (two x y) (two x []) []) := by have h := HT.out; rw [hx.out, hy.out] at h; exact h
        clear HT
        have hfl : ∀ i, i < 2 → (two x y i).length ≤ 16 := by
          intro i hi
          have : i = 0 ∨ i = 1 := by omega
          rcases this with rfl | rfl
          · exact FX.out.1
          · exact FY.out.1
        have HFL := Lib.hid hfl
        clear hfl
        go_wp2_with fail
        go_loop [11, 12] (fun s g => ∃ j : Nat, j ≤ 64 ∧ g = .int .i64 j ∧ s = .int .i64 (tot (two x y) j)) (fun _ g => 64 - (intOf g).toNat)
        case atStart => exact ⟨0, by omega, rfl, rfl⟩
        case round =>
          obtain ⟨j, hj, rfl, rfl⟩ := hrel
          by_cases hjt : j < 64
          · have hj0 : (0 : Int) ≤ j := by omega
            have hj1 : (j : Int) < 64 := by omega
            have ht1 := tot_le (two x y) HFL.out j
            have ht2 := cnt_le (two x y) j HFL.out 2 (Nat.le_refl _)
            obtain ⟨s, hs⟩ : ∃ s, Hid (tot (two x y) j = s) := ⟨_, Lib.hid rfl⟩
            obtain ⟨cj, hcj⟩ : ∃ c, Hid (cnt (two x y) j 2 = c) := ⟨_, Lib.hid rfl⟩
            rw [hs.out] at ht1 ⊢
            rw [hcj.out] at ht2
            go_wp2_with fail
            obtain ⟨ss, ss2, k1, k2, k3, k4, k5, k6, -⟩ := HT2.out
            refine (pins_Count_ok p q ss _ _ k1 j HFL.out).mono ?_
            rw [hcj.out]
            rintro e w0 ⟨rfl, rfl⟩
            clear k1 k2 k3 k4 k5 k6
            go_wp2_with fail
            go_round
            case rel => exact ⟨j + 1, by omega, by go_num, by rw [tot, hs.out, hcj.out]; go_num⟩
            case measure => simp [intOf]; omega
          · obtain rfl : j = 64 := by omega
            have htot := tot_all x y FX.out FY.out
            rw [htot]
            have hlx := FX.out.1
            have hly := FY.out.1
            go_wp2_with fail
            obtain ⟨ss, ss2, k1, k2, k3, k4, k5, k6, -⟩ := HT2.out
            refine (pins_Of_ok p q ss _ _ k1 0 (by omega) FX.out.1).mono ?_
            rintro e w6 ⟨v, rfl, hO, ho⟩
            have HW := Lib.hid ho
            obtain ⟨A6, c6, rfl⟩ := OwnI.slice (l := x) hO
            clear hO ho k1 k2 k3 k4 k5 k6
            go_wp2_with fail
            obtain ⟨ss, ss2, k1, k2, k3, k4, k5, k6, -⟩ := HT2.out
            refine (pins_Of_ok p q ss _ _ (k1.only HW.out (by simp)) 1 (by omega) FY.out.1).mono ?_
            rintro e w7 ⟨v, rfl, hO, ho⟩
            have HW2 := Lib.hid ho
            obtain ⟨A7, c7, rfl⟩ := OwnI.slice (l := y) hO
            clear hO ho k1 k2 k3 k4 k5 k6
            go_wp2_with fail
            refine (wakes_true w7).mono ?_
            rintro e w8 ⟨rfl, ho⟩
            have HW3 := Lib.hid ho
            clear ho
            go_wp2_with fail
            go_ret
            exact ⟨rfl, ((HT2.out.only.trans HW.out (by simp)).trans HW2.out (by simp)).trans HW3.out (by simp)⟩
end Go.Proofs.Ytfcekldlgcdgnaa
