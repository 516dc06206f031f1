/-
  Package pins: Add, Drop, Of, Count, New.
-/
import Derived.Test.YtfcekldlgcdgnaaPinsA
import Derived.Test.YtfcekldlgcdgnaaReg
import Derived.IntWalk
namespace Go.Proofs.Ytfcekldlgcdgnaa
open Go.RowKit Go.Sort

theorem int_info : (Try.prog.info? 3).map (fun i => (i.zero, i.size, i.bytes)) = some (some (.int .i64 0), 1, 8) := by kernel_rfl

theorem pins_Add_err (p : Nat) (w : World) (k i g : Int) (d : Nat) (hk : k = 1 ∨ k = 20 ∨ k = 16 ∨ k = 19)
    (h : Calls Try.prog 15 #[.pointer (some ⟨p, 0, none⟩), .int .i64 i, .int .i64 g] w fun e w' => ∃ v, e = .returned v ∧ ErrAt w' k d v ∧ Only [] w w') :
    Calls Try.prog 7 #[.pointer (some ⟨p, 0, none⟩), .int .i64 i, .int .i64 g] w fun e w' => e = .returned (.int .i64 k) ∧ Only [] w w' := by
  have H := Lib.hid h
  clear h
  have hk0 : (k != 0) = true := by rcases hk with rfl | rfl | rfl | rfl <;> rfl
  have HK := Lib.hid hk
  clear hk
  go_enter Try.func7, Try.ntmps7
  go_wp2_with fail
  refine H.out.mono ?_
  rintro e w1 ⟨v, rfl, hv, ho⟩
  have HV := Lib.hid hv
  have HO := Lib.hid ho
  clear hv ho H
  go_wp2_with (go_at_call 11; refine (pins_number_err k HK.out d _ _ HV.out).mono ?_; rintro e w2 ⟨rfl, ho2⟩)
  go_ret
  exact ⟨rfl, HO.out.trans ho2 (by simp)⟩

def upd {α : Type} (f : Nat → α) (i : Nat) (x : α) : Nat → α := fun j => if j = i then x else f j

theorem PinsAt.put {w w2 : World} {p q : Nat} {ss : Nat → Value} {ls : Nat → List Int} (h : PinsAt w p q ss ls) {i : Nat} (hi : i < 2) {v : Value} {l : List Int}
    {F : List Nat} (ho : Only F w w2) (hF : ∀ b ∈ F, b = q ∨ (ss i).ownBlock = some b)
    (hq : Blk w2 q 32 #[upd ss i v 0, upd ss i v 1]) (hv : OwnI w2 v l) (hb : v.ownBlock = (ss i).ownBlock ∨ ∃ b, v.ownBlock = some b ∧ w.heap.size ≤ b) :
    PinsAt w2 p q (upd ss i v) (upd ls i l) := by
  have hp := h.hp.lt
  have hne : ∀ j, j < 2 → j ≠ i → ∀ b, (ss i).ownBlock = some b → (ss j).ownBlock ≠ some b := by
    intro j hj hji b hb1 hb2
    have : (i = 0 ∧ j = 1) ∨ (i = 1 ∧ j = 0) := by omega
    rcases this with ⟨rfl, rfl⟩ | ⟨rfl, rfl⟩
    · exact h.ne b hb1 hb2
    · exact h.ne b hb2 hb1
  refine ⟨h.hp.only ho (fun hm => ?_), hq, fun j hj => ?_, ?_⟩
  · rcases hF p hm with e | e
    · exact h.hp.ne_ h.hq (by decide) e
    · exact (h.own i hi).ne_ h.hp (by decide) e
  · unfold upd
    by_cases hji : j = i
    · rw [if_pos hji, if_pos hji]; exact hv
    · rw [if_neg hji, if_neg hji]
      refine (h.own j hj).only ho (fun b hb e => ?_)
      rcases hF b hb with rfl | e2
      · exact (h.own j hj).ne_ h.hq (by decide) e
      · exact hne j hj hji b e2 e
  · have far : ∀ j, j < 2 → j ≠ i → ∀ b, v.ownBlock = some b → (ss j).ownBlock ≠ some b := by
      intro j hj hji b hb1 hb2
      rcases hb with e | ⟨b2, e, hlt⟩
      · exact hne j hj hji b (e ▸ hb1) hb2
      · rw [e] at hb1; injection hb1 with hb1; subst hb1
        have := (h.own j hj).lt hb2
        omega
    have : i = 0 ∨ i = 1 := by omega
    rcases this with rfl | rfl
    · intro b h1 h2; exact far 1 (by omega) (by omega) b h1 h2
    · intro b h1 h2; exact far 0 (by omega) (by omega) b h2 h1

set_option maxRecDepth 100000 in
set_option maxHeartbeats 1600000 in
theorem pins_Add_ok (p q : Nat) (ss : Nat → Value) (ls : Nat → List Int) (w : World) (h : PinsAt w p q ss ls) (i : Nat) (g : Int) (hi : i < 2) (hg0 : 0 ≤ g) (hg : g < 64) (hl : (ls i).length < 16) :
    Calls Try.prog 7 #[.pointer (some ⟨p, 0, none⟩), .int .i64 i, .int .i64 g] w fun e w' => ∃ v, e = .returned (.int .i64 0) ∧
      PinsAt w' p q (upd ss i v) (upd ls i (sortI (ls i ++ [g]))) ∧ Only (q :: (ss i).ownBlock.toList) w w' ∧ (v.ownBlock = (ss i).ownBlock ∨ ∃ b, v.ownBlock = some b ∧ w.heap.size ≤ b) := by
  obtain ⟨i0, hi0, hz0, hz1, hz2⟩ := info_parts int_info
  have HS := Lib.hid (pins_add_ok p q ss ls w h i g hi hg0 hg hl)
  have hown := (h.own i hi)
  have hc := h.cellq hi
  have hp := h.cellp
  have lp := h.hp.lt
  have lq := h.hq.lt
  have ap := hown.ne_ h.hp (by decide)
  have aq := hown.ne_ h.hq (by decide)
  have fq := h.hq.frozen i
  have hpq := h.hp.ne_ h.hq (by decide)
  have H := Lib.hid h
  have HO := Lib.hid hown
  have hi1 : (i : Int) < 2 := by omega
  have hi2 : (0 : Int) ≤ i := by omega
  clear h hown hg0 hg
  go_enter Try.func7, Try.ntmps7
  go_wp2_with fail
  refine HS.out.mono ?_
  rintro e w0 ⟨rfl, rfl⟩
  go_wp2_with fail
  refine (pins_number_nil w).mono ?_
  rintro e w1 ⟨rfl, ho1⟩
  have hp1 := (ho1.cell (p := ⟨p, 0, none⟩) lp (by simp)).trans hp
  have hc1 := (ho1.cell (p := ⟨q, i, none⟩) lq (by simp)).trans hc
  have fq1 := (ho1.frozen (p := ⟨q, i, none⟩) lq (by simp)).trans fq
  have lp1 : p < w1.heap.size := Nat.lt_of_lt_of_le lp ho1.size
  have lq1 : q < w1.heap.size := Nat.lt_of_lt_of_le lq ho1.size
  have HO1 := Lib.hid (HO.out.only ho1 (by simp))
  have HW1 := Lib.hid ho1
  clear hp hc fq ho1
  go_wp2_with fail
  refine wp_region_C 15 (fun w' => w'.cell? ⟨p, 0, none⟩ = some (.slice (some ⟨q, 0, none⟩) 2 2) ∧ w'.cell? ⟨q, i, none⟩ = some (ss i) ∧ w'.frozen? ⟨q, i, none⟩ = false) (by kernel_rfl) ?_
  have hS0 : w1.drew.cell? ⟨p, 0, none⟩ = some (.slice (some ⟨q, 0, none⟩) 2 2) ∧ w1.drew.cell? ⟨q, i, none⟩ = some (ss i) ∧ w1.drew.frozen? ⟨q, i, none⟩ = false := ⟨hp1, hc1, fq1⟩
  refine wpAnyC_take 0 (v := ?_) rfl (by kernel_rfl) (fun _ _ _ h => h) (by rfl) ?_ hS0 ?_
  rotate_left
  · ((intro w hS; clear hS; go_simp) <;> with_reducible rfl)
  refine wpAnyC_take 1 (v := ?_) rfl (by kernel_rfl) (fun _ _ _ h => h) (by rfl) ?_ hS0 ?_
  rotate_left
  · ((intro w hS; clear hS; go_simp) <;> with_reducible rfl)
  refine wpAnyC_take 2 (v := ?_) rfl (by kernel_rfl) (fun _ _ _ h => h) (by rfl) ?_ hS0 ?_
  rotate_left
  · ((intro w hS; clear hS; go_simp) <;> with_reducible rfl)
  refine wpAnyC_take 3 (v := ?_) rfl (by kernel_rfl) (fun _ _ _ h => h) (by rfl) ?_ hS0 ?_
  rotate_left
  · ((intro w hS; obtain ⟨h1, h2, h3⟩ := hS; go_simp) <;> with_reducible rfl)
  refine wpAnyC_take 4 (v := ?_) rfl (by kernel_rfl) (fun _ _ _ h => h) (by rfl) ?_ hS0 ?_
  rotate_left
  · ((intro w hS; clear hS; go_simp) <;> with_reducible rfl)
  refine wpAnyC_take 5 (v := ?_) rfl (by kernel_rfl) (fun _ _ _ h => h) (by rfl) ?_ hS0 ?_
  rotate_left
  · ((intro w hS; clear hS; go_simp) <;> with_reducible rfl)
  refine wpAnyC_take 6 (v := ?_) rfl (by kernel_rfl) (fun _ _ _ h => h) (by rfl) ?_ hS0 ?_
  rotate_left
  · ((intro w hS; clear hS; go_simp) <;> with_reducible rfl)
  refine wpAnyC_take 7 (v := ?_) rfl (by kernel_rfl) (fun _ _ _ h => h) (by rfl) ?_ hS0 ?_
  rotate_left
  · ((intro w hS; clear hS; go_simp) <;> with_reducible rfl)
  refine wpAnyC_take 8 (v := ?_) rfl (by kernel_rfl) (fun _ _ _ h => h) (by rfl) ?_ hS0 ?_
  rotate_left
  · ((intro w hS; obtain ⟨h1, h2, h3⟩ := hS; go_simp) <;> with_reducible rfl)
  refine wpAnyC_take 9 (v := ?_) rfl (by kernel_rfl) (fun _ _ _ h => h) (by rfl) ?_ hS0 ?_
  rotate_left
  · ((intro w hS; clear hS; go_simp) <;> with_reducible rfl)
  refine wpAnyC_take 10 (v := ?_) rfl (by kernel_rfl) (fun _ _ _ h => h) (by rfl) ?_ hS0 ?_
  rotate_left
  · ((intro w hS; clear hS; go_simp) <;> with_reducible rfl)
  refine wpAnyC_take 11 (v := ?_) rfl (by kernel_rfl) (fun _ _ _ h => h) (by rfl) ?_ hS0 ?_
  rotate_left
  · ((intro w hS; obtain ⟨h1, h2, h3⟩ := hS; go_simp) <;> with_reducible rfl)
  refine wpAnyC_take 12 (v := ?_) rfl (by kernel_rfl) (fun _ _ _ h => h) (by rfl) ?_ hS0 ?_
  rotate_left
  · ((intro w hS; clear hS; go_simp) <;> with_reducible rfl)
  refine wpAnyC_one (i := 13) (by kernel_rfl) rfl (fun K hK => ?_)
  go_simp
  have hS1 : w1.drew.heap.size = w1.heap.size := rfl
  refine hK _ _ (fun _ => ⟨(World.cell?_alloc_lt w1.drew _ ⟨p, 0, none⟩ lp1).trans hp1, (World.cell?_alloc_lt w1.drew _ ⟨q, i, none⟩ lq1).trans hc1, (frozen_alloc_lt w1.drew _ ⟨q, i, none⟩ lq1).trans fq1⟩) ?_; clear hK K
  refine wpAnyC_one (i := 14) (by kernel_rfl) rfl (fun K hK => ?_)
  refine step_append_lies _ (by rfl) _ _ _ (by rfl) 0 3 i0 _ 1 8 Try.underlying32 hi0 hz0 hz1 hz2 rfl (by omega) (ss i) (ls i).length ((ls i).map (Value.int .i64)) (by rfl) (HO1.out.drew_.alloc _)
        ⟨w1.heap.size, 0, none⟩ 1 1 [.int .i64 g] (by rfl) (by rfl) (World.news_of_block (cs := #[.int .i64 g]) (t := 3) (fr := (0, 0)) (heap_alloc_new w1.drew _)) (by simp [Value.oneCell'])
        (by omega) (by unfold maxLen; omega) (by omega) (by omega) (w1.heap.size + 1) (by simp) ?_
  intro gg cap w2 hown2 hgrow hat hlt
  have hc2 : w2.cell? ⟨q, i, none⟩ = some (ss i) := (hgrow.cell_far _ (by simp; omega) (Ne.symm aq)).trans ((World.cell?_alloc_lt w1.drew _ ⟨q, i, none⟩ lq1).trans hc1)
  have hp2 : w2.cell? ⟨p, 0, none⟩ = some (.slice (some ⟨q, 0, none⟩) 2 2) := (hgrow.cell_far _ (by simp; omega) (Ne.symm ap)).trans ((World.cell?_alloc_lt w1.drew _ ⟨p, 0, none⟩ lp1).trans hp1)
  have fq2 : w2.frozen? ⟨q, i, none⟩ = false := (World.frozen?_of_block (hgrow.block q (by simp; omega) (Ne.symm aq))).trans ((frozen_alloc_lt w1.drew _ ⟨q, i, none⟩ lq1).trans fq1)
  refine hK _ _ (fun _ => ⟨hp2, hc2, fq2⟩) ?_; clear hK K
  refine wpAnyC_one (i := 15) (by kernel_rfl) rfl (fun K hK => ?_)
  go_simp
  refine hK _ _ (fun h => absurd h (by decide)) ?_; clear hK K
  refine wpAnyC_one (i := 16) (by kernel_rfl) rfl (fun K hK => ?_)
  go_simp
  refine hK _ _ (fun h => absurd h (by decide)) ?_; clear hK K
  refine wpAnyC_done (by kernel_rfl) ?_ _

  have HOW := Lib.hid hown2
  have HGR := Lib.hid hgrow
  have HAT := Lib.hid hat
  clear hown2 hgrow hat hS0 hp1 hc1 fq1
  go_wp2_with fail
  have hl2 : ((ls i).map (Value.int .i64) ++ [Value.int .i64 g]) = (ls i ++ [g]).map (Value.int .i64) := by simp
  have hO2 : OwnI w2 (.slice (some ⟨gg, 0, none⟩) ((ls i).length + 1) cap) (ls i ++ [g]) := by
    have := HOW.out
    rw [hl2] at this
    unfold OwnI
    rw [List.length_append]
    exact this
  have hG : Only ((ss i).ownBlock.toList) w w2 := (HW1.out.mono (by simp)).trans (((Only.refl (ss i).ownBlock.toList _).drew.alloc _).trans (Only.grown HGR.out) (fun b hb => .inl hb)) (fun b hb => .inl hb)
  have hqg : q ≠ gg := by
    rcases HAT.out with e | e
    · rintro rfl; exact aq e
    · omega
  have hO3 := hO2.only (w2 := w2.setCell ⟨q, i, none⟩ (.slice (some ⟨gg, 0, none⟩) ((ls i).length + 1) cap)) ((Only.refl [q] _).setCell (.inl (by simp)) _) (by intro b hb; simp at hb; subst hb; simp [Value.ownBlock]; exact fun e => hqg e.symm)
  refine (sort_own hO3 (by simp; omega)).mono ?_
  rintro e w3 ⟨rfl, hO4, ho4⟩
  go_wp2_with fail
  go_ret
  refine ⟨.slice (some ⟨gg, 0, none⟩) ((ls i).length + 1) cap, rfl, ?_⟩
  have hset : Only (q :: (ss i).ownBlock.toList) w (w2.setCell ⟨q, i, none⟩ (.slice (some ⟨gg, 0, none⟩) ((ls i).length + 1) cap)) := (hG.mono (by intro b hb; exact .inl (List.mem_cons_of_mem _ hb))).setCell (.inl (by simp)) _
  have hgg : (ss i).ownBlock = some gg ∨ w.heap.size ≤ gg := by
    rcases HAT.out with e | e
    · exact .inl e
    · right; have := HW1.out.size; omega
  have hall : Only (q :: (ss i).ownBlock.toList) w w3 := hset.trans ho4 (by
    intro b hb
    simp [Value.ownBlock] at hb
    subst hb
    rcases hgg with e | e
    · left; simp [e]
    · right; exact e)
  have hbb : (Value.slice (some ⟨gg, 0, none⟩) ((ls i).length + 1) cap).ownBlock = (ss i).ownBlock ∨ ∃ b, (Value.slice (some ⟨gg, 0, none⟩) ((ls i).length + 1) cap).ownBlock = some b ∧ w.heap.size ≤ b := by
    rcases hgg with e | e
    · left; rw [e]; rfl
    · right; exact ⟨gg, rfl, e⟩
  refine ⟨H.out.put hi hall (by intro b hb; simp at hb; rcases hb with rfl | hb; exact .inl rfl; exact .inr hb) ?_ hO4 hbb, hall, hbb⟩
  have hq0 : Blk w2 q 32 #[ss 0, ss 1] := H.out.hq.only hG (by simpa using aq)
  have hq1 := (hq0.set_ i (.slice (some ⟨gg, 0, none⟩) ((ls i).length + 1) cap)).only ho4 (by simp [Value.ownBlock]; exact hqg)
  have : i = 0 ∨ i = 1 := by omega
  rcases this with rfl | rfl <;> simpa [upd] using hq1

theorem idxOf_none {l : List Int} {x : Int} (h : x ∉ l) : Lib.idxOf l x = -1 := by
  have : ∀ (l : List Int) (i : Nat), x ∉ l → Lib.idxFrom l x i = -1 := by
    intro l
    induction l with
    | nil => intro i _; rfl
    | cons z l ih =>
      intro i hx
      simp only [List.mem_cons, not_or] at hx
      rw [Lib.idxFrom, if_neg (Ne.symm hx.1)]
      exact ih _ hx.2
  exact this l 0 h
theorem idxOf_some {l : List Int} {x : Int} (h : x ∈ l) : ∃ j, j < l.length ∧ Lib.idxOf l x = (j : Int) ∧ l.eraseIdx j = l.erase x := by
  have : ∀ (l : List Int) (i : Nat), x ∈ l → ∃ j, j < l.length ∧ Lib.idxFrom l x i = ((i + j : Nat) : Int) ∧ l.eraseIdx j = l.erase x := by
    intro l
    induction l with
    | nil => intro i h; cases h
    | cons z l ih =>
      intro i hx
      by_cases hz : z = x
      · subst hz
        exact ⟨0, by simp, by simp [Lib.idxFrom], by simp⟩
      · obtain ⟨j, h1, h2, h3⟩ := ih (i + 1) (by simpa [Ne.symm hz] using hx)
        refine ⟨j + 1, by simpa using h1, ?_, ?_⟩
        · rw [Lib.idxFrom, if_neg hz, h2]; congr 1; omega
        · rw [List.erase_cons_tail (by simpa using hz), List.eraseIdx_cons_succ, h3]
  simpa [Lib.idxOf] using this l 0 h


/-- All blocks of pins. -/
def fp (p q : Nat) (ss : Nat → Value) : List Nat := p :: q :: ((ss 0).ownBlock.toList ++ (ss 1).ownBlock.toList)
theorem PinsAt.only {F : List Nat} {w w2 : World} {p q : Nat} {ss : Nat → Value} {ls : Nat → List Int} (h : PinsAt w p q ss ls) (ho : Only F w w2) (hF : ∀ b ∈ F, b ∉ fp p q ss) : PinsAt w2 p q ss ls := by
  refine ⟨h.hp.only ho fun hm => hF p hm (by simp [fp]), h.hq.only ho fun hm => hF q hm (by simp [fp]), fun i hi => (h.own i hi).only ho fun b hb e => hF b hb ?_, h.ne⟩
  have : i = 0 ∨ i = 1 := by omega
  rcases this with rfl | rfl <;> simp [fp, e]
theorem PinsAt.lt {w : World} {p q : Nat} {ss : Nat → Value} {ls : Nat → List Int} (h : PinsAt w p q ss ls) : ∀ b ∈ fp p q ss, b < w.heap.size := by
  intro b hb
  simp only [fp, List.mem_cons, List.mem_append, Option.mem_toList] at hb
  rcases hb with rfl | rfl | hb | hb
  · exact h.hp.lt
  · exact h.hq.lt
  · exact (h.own 0 (by omega)).lt hb
  · exact (h.own 1 (by omega)).lt hb

set_option maxRecDepth 100000 in
set_option maxHeartbeats 1600000 in
theorem pins_Drop_ok (p q : Nat) (ss : Nat → Value) (ls : Nat → List Int) (w : World) (h : PinsAt w p q ss ls) (i : Nat) (g : Int) (hi : i < 2) (hg : g ∈ ls i) (hl : (ls i).length ≤ 16) :
    Calls Try.prog 6 #[.pointer (some ⟨p, 0, none⟩), .int .i64 i, .int .i64 g] w fun e w' => ∃ v, e = .returned (.int .i64 0) ∧
      PinsAt w' p q (upd ss i v) (upd ls i ((ls i).erase g)) ∧ Only (q :: (ss i).ownBlock.toList) w w' ∧ (v.ownBlock = (ss i).ownBlock ∨ ∃ b, v.ownBlock = some b ∧ w.heap.size ≤ b) := by
  have HS := Lib.hid (pins_session_ok ⟨p, 0, none⟩ i _ _ _ w (by omega) (by omega) h.cellp)
  obtain ⟨j, hj, hidx, her⟩ := idxOf_some hg
  rw [← her]
  clear her hg
  have H := Lib.hid h
  have HE := Lib.hid hidx
  have hi1 : (i : Int) < 2 := by omega
  have hi2 : (0 : Int) ≤ i := by omega
  have hj1 : (0 : Int) ≤ j := by omega
  clear h hidx
  go_enter Try.func6, Try.ntmps6
  go_wp2_with fail
  refine HS.out.mono ?_
  rintro e w0 ⟨rfl, rfl⟩
  go_wp2_with fail
  refine (pins_number_nil w).mono ?_
  rintro e w1 ⟨rfl, ho1⟩
  have HW1 := Lib.hid ho1
  have h1 := H.out.only ho1 (by simp)
  have H1 := Lib.hid h1
  have hp1 := h1.cellp
  have hc1 := h1.cellq hi
  have fq1 := h1.hq.frozen i
  have lp1 := h1.hp.lt
  have lq1 := h1.hq.lt
  have HO1 := Lib.hid (h1.own i hi)
  have ap := (h1.own i hi).ne_ h1.hp (by decide)
  have aq := (h1.own i hi).ne_ h1.hq (by decide)
  have hpq := h1.hp.ne_ h1.hq (by decide)
  have hjl : (j : Int) < 16 := by omega
  clear ho1 h1
  go_wp2_with fail
  refine (index_own HO1.out g).mono ?_
  rw [HE.out]
  rintro e w0 ⟨rfl, rfl⟩
  go_wp2_with fail
  refine wp_region_C 16 (fun w' => w'.cell? ⟨p, 0, none⟩ = some (.slice (some ⟨q, 0, none⟩) 2 2) ∧ w'.cell? ⟨q, i, none⟩ = some (ss i) ∧ w'.frozen? ⟨q, i, none⟩ = false) (by kernel_rfl) ?_
  have hS0 : w1.drew.cell? ⟨p, 0, none⟩ = some (.slice (some ⟨q, 0, none⟩) 2 2) ∧ w1.drew.cell? ⟨q, i, none⟩ = some (ss i) ∧ w1.drew.frozen? ⟨q, i, none⟩ = false := ⟨hp1, hc1, fq1⟩
  refine wpAnyC_take 0 (v := ?_) rfl (by kernel_rfl) (fun _ _ _ h => h) (by rfl) ?_ hS0 ?_
  rotate_left
  · ((intro w hS; clear hS; go_simp) <;> with_reducible rfl)
  refine wpAnyC_take 1 (v := ?_) rfl (by kernel_rfl) (fun _ _ _ h => h) (by rfl) ?_ hS0 ?_
  rotate_left
  · ((intro w hS; clear hS; go_simp) <;> with_reducible rfl)
  refine wpAnyC_take 2 (v := ?_) rfl (by kernel_rfl) (fun _ _ _ h => h) (by rfl) ?_ hS0 ?_
  rotate_left
  · ((intro w hS; clear hS; go_simp) <;> with_reducible rfl)
  refine wpAnyC_take 3 (v := ?_) rfl (by kernel_rfl) (fun _ _ _ h => h) (by rfl) ?_ hS0 ?_
  rotate_left
  · ((intro w hS; obtain ⟨h1, h2, h3⟩ := hS; go_simp) <;> with_reducible rfl)
  refine wpAnyC_take 4 (v := ?_) rfl (by kernel_rfl) (fun _ _ _ h => h) (by rfl) ?_ hS0 ?_
  rotate_left
  · ((intro w hS; clear hS; go_simp) <;> with_reducible rfl)
  refine wpAnyC_take 5 (v := ?_) rfl (by kernel_rfl) (fun _ _ _ h => h) (by rfl) ?_ hS0 ?_
  rotate_left
  · ((intro w hS; clear hS; go_simp) <;> with_reducible rfl)
  refine wpAnyC_take 6 (v := ?_) rfl (by kernel_rfl) (fun _ _ _ h => h) (by rfl) ?_ hS0 ?_
  rotate_left
  · ((intro w hS; clear hS; go_simp) <;> with_reducible rfl)
  refine wpAnyC_take 7 (v := ?_) rfl (by kernel_rfl) (fun _ _ _ h => h) (by rfl) ?_ hS0 ?_
  rotate_left
  · ((intro w hS; clear hS; go_simp) <;> with_reducible rfl)
  refine wpAnyC_take 8 (v := ?_) rfl (by kernel_rfl) (fun _ _ _ h => h) (by rfl) ?_ hS0 ?_
  rotate_left
  · ((intro w hS; obtain ⟨h1, h2, h3⟩ := hS; go_simp) <;> with_reducible rfl)
  refine wpAnyC_take 9 (v := ?_) rfl (by kernel_rfl) (fun _ _ _ h => h) (by rfl) ?_ hS0 ?_
  rotate_left
  · ((intro w hS; clear hS; go_simp) <;> with_reducible rfl)
  refine wpAnyC_take 10 (v := ?_) rfl (by kernel_rfl) (fun _ _ _ h => h) (by rfl) ?_ hS0 ?_
  rotate_left
  · ((intro w hS; clear hS; go_simp) <;> with_reducible rfl)
  refine wpAnyC_take 11 (v := ?_) rfl (by kernel_rfl) (fun _ _ _ h => h) (by rfl) ?_ hS0 ?_
  rotate_left
  · ((intro w hS; obtain ⟨h1, h2, h3⟩ := hS; go_simp) <;> with_reducible rfl)
  refine wpAnyC_take 12 (v := ?_) rfl (by kernel_rfl) (fun _ _ _ h => h) (by rfl) ?_ hS0 ?_
  rotate_left
  · ((intro w hS; clear hS; go_simp) <;> with_reducible rfl)
  refine wpAnyC_take 13 (v := ?_) rfl (by kernel_rfl) (fun _ _ _ h => h) (by rfl) ?_ hS0 ?_
  rotate_left
  · ((intro w hS; clear hS; go_simp) <;> with_reducible rfl)
  refine wpAnyC_take 14 (v := ?_) rfl (by kernel_rfl) (fun _ _ _ h => h) (by rfl) ?_ hS0 ?_
  rotate_left
  · ((intro w hS; clear hS; go_simp) <;> with_reducible rfl)
  refine wpAnyC_one (i := 15) (by kernel_rfl) rfl (fun K hK => ?_)
  go_simp
  go_wp2_with fail
  refine (delete_own (HO1.out.drew_) j hj _ (IntWalk.i64_in _ (by omega))).mono ?_
  rintro e w2 ⟨v2, rfl, hb2, hO2, hG⟩
  obtain ⟨A2, c2, rfl⟩ := hO2.slice
  have HG := Lib.hid hG
  have HO2 := Lib.hid hO2
  have HB2 := Lib.hid hb2
  have hc2 : w2.cell? ⟨q, i, none⟩ = some (ss i) := (hG.cell (p := ⟨q, i, none⟩) lq1 (by simpa using aq)).trans hc1
  have hp2 : w2.cell? ⟨p, 0, none⟩ = some (.slice (some ⟨q, 0, none⟩) 2 2) := (hG.cell (p := ⟨p, 0, none⟩) lp1 (by simpa using ap)).trans hp1
  have fq2 : w2.frozen? ⟨q, i, none⟩ = false := (hG.frozen (p := ⟨q, i, none⟩) lq1 (by simpa using aq)).trans fq1
  clear hG hO2 hb2
  refine hK _ _ (fun _ => ⟨hp2, hc2, fq2⟩) ?_; clear hK K
  refine wpAnyC_one (i := 16) (by kernel_rfl) rfl (fun K hK => ?_)
  go_simp
  refine hK _ _ (fun h => absurd h (by decide)) ?_; clear hK K
  refine wpAnyC_one (i := 17) (by kernel_rfl) rfl (fun K hK => ?_)
  go_simp
  refine hK _ _ (fun h => absurd h (by decide)) ?_; clear hK K
  refine wpAnyC_done (by kernel_rfl) ?_ _

  generalize hv2 : Value.slice A2 ((ls i).eraseIdx j).length c2 = v2 at *
  have HV2 := Lib.hid hv2
  clear hv2
  go_wp2_with fail
  go_ret
  have hall : Only (q :: (ss i).ownBlock.toList) w (w2.setCell ⟨q, i, none⟩ v2) :=
    (((HW1.out.mono (by simp)).trans (((Only.refl (ss i).ownBlock.toList _).drew).trans HG.out (fun b hb => .inl hb)) (fun b hb => .inl hb)).mono (by intro b hb; exact .inl (List.mem_cons_of_mem _ hb))).setCell (.inl (by simp)) _
  have hq0 : Blk w2 q 32 #[ss 0, ss 1] := H1.out.hq.drew.only HG.out (by simpa using aq)
  have hq1 := hq0.set_ i v2
  refine ⟨v2, rfl, H.out.put hi hall (by intro b hb; simp at hb; rcases hb with rfl | hb; exact .inl rfl; exact .inr hb) ?_ (HO2.out.only ((Only.refl [q] _).setCell (.inl (by simp)) _) (by intro b hb; simp at hb; subst hb; rw [HB2.out]; exact aq)) (.inl HB2.out), hall, .inl HB2.out⟩
  have : i = 0 ∨ i = 1 := by omega
  rcases this with rfl | rfl <;> simpa [upd] using hq1
end Go.Proofs.Ytfcekldlgcdgnaa
