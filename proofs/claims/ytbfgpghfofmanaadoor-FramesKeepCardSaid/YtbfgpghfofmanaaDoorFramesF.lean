/-
  Package frames: Write, Forget. Printed by gen_framesF.py.
-/
import Derived.Test.YtbfgpghfofmanaaDoorFramesE
namespace Go.Proofs.YtbfgpghfofmanaaDoor
open Go.RowKit

section
variable {w : World} {f c fb pb hb : Nat} {fs : List CF} {hand : Int} {ps : List PG} {hs : List HD}

theorem frames_Write_none (h : FramesAt w f c fb pb hb fs hand ps hs) (key off : Int) (v : Value) (ht : fndR fs key 1 = .tuple #[.int .i64 0, .bool false]) :
    Calls Tryd.prog 13 #[.pointer (some ⟨f, 0, none⟩), .int .i64 key, .int .i64 off, v] w fun e w' => e = .returned (.int .i64 17) ∧ Only [] w w' := by
  have H := Lib.hid (frames_find h key 1)
  rw [ht] at H
  clear h ht
  go_enter Tryd.func13, Tryd.ntmps13
  go_wp2_with (go_at_call 38; refine H.out.mono ?_; rintro e w1 ⟨rfl, ho⟩)
  go_ret
  exact ⟨rfl, ho⟩

set_option maxRecDepth 100000 in
theorem frames_Write_bad (h : FramesAt w f c fb pb hb fs hand ps hs) (key off : Int) (n : Nat) (p : PG) (m cp : Nat) (a : Option Addr) (ht : fndR fs key 1 = .tuple #[.int .i64 n, .bool true]) (hp : ps[n]? = some p)
    (hg : w.cell? ⟨0, 0, none⟩ = some (.iface 132 (.agg #[.pointer (some ⟨1, 100, none⟩)]))) (hx : ¬ fitsP off m) (hm : m ≤ 1000000) :
    Calls Tryd.prog 13 #[.pointer (some ⟨f, 0, none⟩), .int .i64 key, .int .i64 off, .slice a m cp] w fun e w' => e = .returned (.int .i64 18) ∧ Only [] w w' := by
  have H := Lib.hid (frames_find h key 1)
  rw [ht] at H
  have hn : n < fs.length := by rw [← h.np]; exact (List.getElem?_eq_some_iff.1 hp).1
  have hn0 : (0 : Int) ≤ n := by omega
  have hn1 : (n : Int) < fs.length := by omega
  obtain ⟨L, hL⟩ : ∃ L, Hid (by8 zeroP = L) := ⟨_, Lib.hid rfl⟩
  have L0 : Hid (L.length = 32) := by rw [← hL.out]; rfl
  have L2 : Hid ((by8 p.now).length = 32) := Lib.hid (by simp [by8, p.hn])
  have hone : Hid (L.toArray.all (·.oneCell') = true) := by rw [← hL.out]; exact by8_one _
  have hal := page_zero
  rw [hL.out] at hal
  have HG := Lib.hid hg
  have HX := Lib.hid hx
  have HM := Lib.hid hm
  have HP := Lib.hid hp
  have HC := Lib.hid h
  clear h ht hp hn hg hx hm
  go_enter Tryd.func13, Tryd.ntmps13
  go_wp2_with fail
  refine H.out.mono ?_
  rintro e w2 ⟨rfl, ho⟩
  have hF := HC.out.only ho (by simp)
  have h1 := hF.cell1
  have H2 := Lib.hid (hF.now_ HP.out)
  have HO := Lib.hid ho
  have HG2 : Hid (w2.cell? ⟨0, 0, none⟩ = some (.iface 132 (.agg #[.pointer (some ⟨1, 100, none⟩)]))) := by rw [Hid, ho.cell (World.block_lt_of_cell? w _ HG.out) (by simp)]; exact HG.out
  clear hF ho H HC
  go_wp2_with (refine wpList_load_mid rfl 32 _ rfl pb (n * 64 + 32) rfl _ _ H2.out Tryd.underlying32 rfl (by rw [gpage_size, L2.out]) ?_)
  refine (delta_Apply_bad p.now off m cp a w2 HG2.out HX.out HM.out).mono ?_
  rintro e w3 ⟨rfl, ho3⟩
  rw [hL.out]
  have HO3 := Lib.hid (HO.out.trans ho3 (by simp))
  have HB3 := Lib.hid (Blk.new w3 32 L.toArray)
  clear ho3
  go_wp2_with (first | (refine wpList_alloc_as rfl 32 rfl L.toArray (hal _) ?_) | (refine wpList_store_mid rfl 32 _ _ rfl w3.heap.size 0 L.toArray rfl rfl (HB3.out.there_ (by simp)) (by rw [gpage_size]; simp [L0.out]) hone.out ?_))
  go_ret
  exact ⟨rfl, (HO3.out.alloc _).setCells (.inr HO3.out.size) 0 L⟩


set_option maxRecDepth 100000 in
theorem frames_Write_ok (h : FramesAt w f c fb pb hb fs hand ps hs) (key off : Int) (v : Value) (d : List Int) (n : Nat) (p : PG) (F : CF) (ht : fndR fs key 1 = .tuple #[.int .i64 n, .bool true]) (hp : ps[n]? = some p) (hF : fs[n]? = some F) (hk : F.key ≠ -1)
    (hv : ReadsB w v d) (hx : fitsP off d.length) :
    Calls Tryd.prog 13 #[.pointer (some ⟨f, 0, none⟩), .int .i64 key, .int .i64 off, v] w fun e w' => e = .returned (.int .i64 0) ∧ FramesAt w' f c fb pb hb (fs.set n ⟨F.key, true, F.pins⟩) hand (ps.set n ⟨p.base, updP p.now off d, p.hb, updP_len p.hn hx⟩) hs ∧ Only [pb, fb] w w' := by
  have H := Lib.hid (frames_find h key 1)
  rw [ht] at H
  have hn : n < fs.length := by rw [← h.np]; exact (List.getElem?_eq_some_iff.1 hp).1
  have hn0 : (0 : Int) ≤ n := by omega
  have hn1 : (n : Int) < fs.length := by omega
  obtain ⟨L, hL⟩ : ∃ L, Hid (by8 zeroP = L) := ⟨_, Lib.hid rfl⟩
  obtain ⟨U, hU⟩ : ∃ U, Hid (by8 (updP p.now off d) = U) := ⟨_, Lib.hid rfl⟩
  have L0 : Hid (L.length = 32) := by rw [← hL.out]; rfl
  have L2 : Hid ((by8 p.now).length = 32) := Lib.hid (by simp [by8, p.hn])
  have LU : Hid (U.length = 32) := Lib.hid (by rw [← hU.out]; simp [by8, updP_len p.hn hx])
  have hone : Hid (U.toArray.all (·.oneCell') = true) := by rw [← hU.out]; exact by8_one _
  have hal := page_zero
  rw [hL.out] at hal
  have HX := Lib.hid hx
  have HV := Lib.hid hv
  have HP := Lib.hid hp
  have HFk := Lib.hid (And.intro hF hk)
  have HC := Lib.hid h
  clear h ht hp hn hv hF hk
  go_enter Tryd.func13, Tryd.ntmps13
  go_wp2_with fail
  refine H.out.mono ?_
  rintro e w2 ⟨rfl, ho⟩
  have hFr := HC.out.only ho (by simp)
  have h1 := hFr.cell1
  have H2 := Lib.hid (hFr.now_ HP.out)
  have HO := Lib.hid ho
  have HV2 := Lib.hid (HV.out.only ho)
  clear hFr ho H
  go_wp2_with (refine wpList_load_mid rfl 32 _ rfl pb (n * 64 + 32) rfl _ _ H2.out Tryd.underlying32 rfl (by rw [gpage_size, L2.out]) ?_)
  refine (delta_Apply_ok p.now off v d w2 p.hn HV2.out HX.out).mono ?_
  rintro e w3 ⟨rfl, ho3⟩
  rw [hU.out]
  obtain ⟨q, hq⟩ : ∃ q, Hid (w3.heap.size = q) := ⟨_, Lib.hid rfl⟩
  have HO3 := Lib.hid (HO.out.trans ho3 (by simp))
  have HB3 : Hid (Blk (w3.alloc (.cells L.toArray 32)) q 32 L.toArray) := Lib.hid (by rw [← hq.out]; exact Blk.new w3 32 L.toArray)
  obtain ⟨w4, hw4⟩ : ∃ w4, Hid ((w3.alloc (.cells L.toArray 32)).setCells q 0 U = w4) := ⟨_, Lib.hid rfl⟩
  have HO4 : Hid (Only [] w w4) := by rw [← hw4.out]; exact (HO3.out.alloc _).setCells (.inr (by rw [← hq.out]; exact HO3.out.size)) 0 U
  have hF4 : FramesAt w4 f c fb pb hb fs hand ps hs := HC.out.only HO4.out (by simp)
  have hB4 : Blk w4 q 32 U.toArray := by rw [← hw4.out]; exact HB3.out.whole U (by rw [L0.out, LU.out])
  have h1' := hF4.cell1
  have h0' := Lib.hid hF4.cell0
  have h2' : Hid (w4.rangeAt q 0 U) := hB4.range0
  have HTh : Hid (w4.drew.there pb (n * 64 + 32) U.toArray.size) := by
    have := hF4.hp.rec_there (g := gpg) gpg_len HP.out 32 32 (by omega)
    have e : U.toArray.size = 32 := by simp [LU.out]
    rw [e]; exact this
  have HF4 := Lib.hid hF4
  clear ho3 hF4 hB4 h1
  go_wp2_with (first | (refine wpList_alloc_as rfl 32 rfl L.toArray (hal _) ?_; rw [hq.out]) | (refine wpList_store_mid rfl 32 _ _ rfl q 0 U.toArray rfl rfl (HB3.out.there_ (by simp [L0.out, LU.out])) (by rw [gpage_size]; simp [LU.out]) hone.out ?_; rw [List.toList_toArray, hw4.out]))
  refine wp_region_C 6 (fun w' => w'.cell? ⟨f, 1, none⟩ = some (.slice (some ⟨pb, 0, none⟩) fs.length fs.length) ∧ w'.rangeAt q 0 U) (by kernel_rfl) ?_
  have hS0 : w4.drew.cell? ⟨f, 1, none⟩ = some (.slice (some ⟨pb, 0, none⟩) fs.length fs.length) ∧ w4.drew.rangeAt q 0 U := ⟨h1', h2'.out⟩
  refine wpAnyC_take 0 (v := ?_) rfl (by kernel_rfl) (fun _ _ _ h => h) (by rfl) ?_ hS0 ?_
  rotate_left
  · ((intro w hS; clear hS; go_simp) <;> with_reducible rfl)
  refine wpAnyC_take 1 (v := ?_) rfl (by kernel_rfl) (fun _ _ _ h => h) (by rfl) ?_ hS0 ?_
  rotate_left
  · ((intro w hS; clear hS; go_simp) <;> with_reducible rfl)
  refine wpAnyC_take 2 (v := ?_) rfl (by kernel_rfl) (fun _ _ _ h => h) (by rfl) ?_ hS0 ?_
  rotate_left
  · ((intro w hS; clear hS; go_simp) <;> with_reducible rfl)
  refine wpAnyC_take 3 (v := ?_) rfl (by kernel_rfl) (fun _ _ _ h => h) (by rfl) ?_ hS0 ?_
  rotate_left
  · ((intro w hS; obtain ⟨h1, h2⟩ := hS; go_simp) <;> with_reducible rfl)
  refine wpAnyC_take 4 (v := ?_) rfl (by kernel_rfl) (fun _ _ _ h => h) (by rfl) ?_ hS0 ?_
  rotate_left
  · ((intro w hS; clear hS; go_simp) <;> with_reducible rfl)
  refine wpAnyC_take 5 (v := .agg U.toArray) rfl (by kernel_rfl) (fun _ _ _ h => h) (by rfl) ?_ hS0 ?_
  · exact fun w hS => exec_load_mid 32 _ rfl q 0 (by go_simp) _ _ hS.2 Tryd.underlying32 rfl (by rw [gpage_size, LU.out])
  refine wpAnyC_one (i := 6) (by kernel_rfl) rfl (fun K hK => ?_)
  go_simp
  refine hK _ _ (fun h => absurd h (by decide)) ?_; clear hK K
  refine wpAnyC_one (i := 7) (by kernel_rfl) rfl (fun K hK => ?_)
  go_simp
  refine hK _ _ (fun h => absurd h (by decide)) ?_; clear hK K
  refine wpAnyC_store 8 (by kernel_rfl) rfl (by rfl) 32 rfl pb (n * 64 + 32) U.toArray (by go_simp) (by go_simp) HTh.out (by rw [gpage_size]; simp [LU.out]) hone.out (fun h => absurd h (by decide)) ?_
  refine wpAnyC_done (by kernel_rfl) ?_ _
  rw [List.toList_toArray]
  have hF5 := (HF4.out.only (F := []) (Only.refl _ _).drew (by simp)).pages_ (q := ⟨p.base, updP p.now off d, p.hb, updP_len p.hn HX.out⟩) HP.out 32 U (by simp [LU.out]) (by
    rw [LU.out, List.drop_of_length_le (by rw [gpg_len]; omega)]
    simp only [gpg, hU.out, List.append_nil]
    rw [List.take_left' (by simp [by8, p.hb])])
  have HO5 : Hid (Only [pb, fb] w (w4.drew.setCells pb (n * 64 + 32) U)) := (HO4.out.drew.mono (by simp)).setCells (.inl (by simp)) _ _
  obtain ⟨w5, hw5⟩ : ∃ w5, Hid (w4.drew.setCells pb (n * 64 + 32) U = w5) := ⟨_, Lib.hid rfl⟩
  rw [hw5.out] at hF5 HO5
  rw [hw5.out]
  have h05 := hF5.cell0
  have HF5 := Lib.hid hF5
  clear hF5 hS0 h1'
  go_wp2_with fail
  refine (clock_Touch_ok HF5.out.hc n F HFk.out.1 HFk.out.2).mono ?_
  rintro e w6 ⟨rfl, hC6, ho6⟩
  have HC6 := Lib.hid hC6
  have HO6 := Lib.hid ho6
  clear hC6 ho6
  go_wp2_with fail
  go_ret
  exact ⟨rfl, HF5.out.clock_ HC6.out HO6.out (by simp), HO5.out.trans HO6.out (by simp)⟩


theorem frames_Forget (h : FramesAt w f c fb pb hb fs hand ps hs) (key : Int) (hk : 0 ≤ key) :
    Calls Tryd.prog 23 #[.pointer (some ⟨f, 0, none⟩), .int .i64 key] w fun e w' => match findK fs key with
      | none => e = .returned (.bool false) ∧ Only [] w w'
      | some n => match dropOK fs n with
        | none => e = .returned (.bool false) ∧ Only [] w w'
        | some F => e = .returned (.bool true) ∧ FramesAt w' f c fb pb hb (fs.set n ⟨-1, false, F.pins⟩) hand ps hs ∧ Only [fb] w w' := by
  have H := Lib.hid (clock_Find h.hc key)
  rw [if_neg (by omega)] at H
  unfold findR at H
  have h0 := h.cell0
  cases hf : findK fs key with
  | none =>
    rw [hf] at H
    clear h hk hf
    go_enter Tryd.func23, Tryd.ntmps23
    go_wp2_with (go_at_call 47; refine H.out.mono ?_; rintro e w1 ⟨rfl, ho⟩)
    go_ret
    exact ⟨rfl, ho⟩
  | some n =>
    rw [hf] at H
    have lf := h.hf.lt
    have HC := Lib.hid h
    clear h hk hf
    simp only
    have HD := Lib.hid (fun w1 (h1 : FramesAt w1 f c fb pb hb fs hand ps hs) => clock_Drop h1.hc (n : Int))
    cases hd : dropOK fs n with
    | none =>
      rw [hd] at HD
      clear hd
      go_enter Tryd.func23, Tryd.ntmps23
      go_wp2_with fail
      refine H.out.mono ?_
      rintro e w1 ⟨rfl, ho⟩
      have h1 := (ho.cell (p := ⟨f, 0, none⟩) lf (by simp)).trans h0
      have HC1 := Lib.hid (HC.out.only ho (by simp))
      have HO := Lib.hid ho
      clear ho h0
      go_wp2_with fail
      refine (HD.out w1 HC1.out).mono ?_
      rintro e w2 ⟨rfl, rfl⟩
      clear HD
      go_wp2_with fail
      go_ret
      exact ⟨rfl, HO.out⟩
    | some F =>
      rw [hd] at HD
      clear hd
      go_enter Tryd.func23, Tryd.ntmps23
      go_wp2_with fail
      refine H.out.mono ?_
      rintro e w1 ⟨rfl, ho⟩
      have h1 := (ho.cell (p := ⟨f, 0, none⟩) lf (by simp)).trans h0
      have HC1 := Lib.hid (HC.out.only ho (by simp))
      have HO := Lib.hid ho
      clear ho h0
      go_wp2_with fail
      refine (HD.out w1 HC1.out).mono ?_
      rintro e w2 ⟨rfl, hC, ho2⟩
      rw [Int.toNat_natCast] at hC
      have HC2 := Lib.hid hC
      have HO2 := Lib.hid ho2
      clear hC ho2 HD
      go_wp2_with fail
      go_ret
      exact ⟨rfl, HC1.out.clock_ HC2.out HO2.out (by simp), (HO.out.mono (by simp)).trans HO2.out (by simp)⟩

end
end Go.Proofs.YtbfgpghfofmanaaDoor
