/-
  Package frames: Dirty.
-/
import Derived.Test.YtbfgpghfofmanaaDoorFramesF
import Derived.Test.YtbfgpghfofmanaaDoorInts
import Derived.Deep.AppendLies
namespace Go.Proofs.YtbfgpghfofmanaaDoor
open Go.RowKit

theorem gint_info : (Tryd.prog.info? 3).map (fun i => (i.zero, i.size, i.bytes)) = some (some (.int .i64 0), 1, 8) := by kernel_rfl

/-- The keys of the dirty frames below n. -/
def dirtyK (fs : List CF) (ps : List PG) (i : Nat) : List Int := if dirtyB fs ps i then [(fs.getD i ⟨-1, false, 0⟩).key] else []
def dirtyL (fs : List CF) (ps : List PG) (n : Nat) : List Int := (List.range n).flatMap (dirtyK fs ps)
theorem dirtyL_succ (fs : List CF) (ps : List PG) (n : Nat) : dirtyL fs ps (n + 1) = dirtyL fs ps n ++ dirtyK fs ps n := by simp [dirtyL, List.range_succ]
theorem dirtyL_le (fs : List CF) (ps : List PG) : ∀ n, (dirtyL fs ps n).length ≤ n
  | 0 => by simp [dirtyL]
  | n + 1 => by
    have := dirtyL_le fs ps n
    rw [dirtyL_succ, List.length_append]
    have : (dirtyK fs ps n).length ≤ 1 := by unfold dirtyK; split <;> simp
    omega

/-- Owned, from a block on. -/
def OwnB (w : World) (B : Nat) (v : Value) (l : List Int) : Prop := w.ownsRow B 3 1 v l.length (l.map (Value.int .i64))
theorem OwnB.nil (w : World) (B : Nat) : OwnB w B (.slice none 0 0) [] := ⟨rfl, .inl ⟨rfl, rfl⟩⟩
theorem OwnB.only {w w2 : World} {B : Nat} {v : Value} {l : List Int} (h : OwnB w B v l) (ho : Only [] w w2) : OwnB w2 B v l := by
  refine ⟨h.1, h.2.imp id ?_⟩
  rintro ⟨g, cap, cur, h1, h2, h3, h4⟩
  exact ⟨g, cap, cur, h1, h2, (ho.block g (Array.getElem?_eq_some_iff.1 h3).1 (by simp)).trans h3, h4⟩
theorem OwnB.own {w : World} {B : Nat} {v : Value} {l : List Int} (h : OwnB w B v l) : OwnI w v l ∧ ∀ b, v.ownBlock = some b → B ≤ b := by
  refine ⟨⟨h.1, h.2.imp id ?_⟩, ?_⟩
  · rintro ⟨g, cap, cur, h1, h2, h3⟩; exact ⟨g, cap, cur, h1, Nat.zero_le _, h3⟩
  · intro b hb
    rcases h.2 with ⟨h1, _⟩ | ⟨g, cap, cur, h1, h2, _⟩
    · rw [h1] at hb; cases hb
    · rw [h1] at hb; injection hb with hb; subst hb; exact h2

theorem dirtyB_no {fs : List CF} {ps : List PG} {i : Int} (hk : keyR fs i = .tuple #[.int .i64 0, .bool false]) : dirtyB fs ps i = false := by
  unfold keyR at hk
  unfold dirtyB
  cases hg : getF fs i with
  | none => rfl
  | some F =>
    rw [hg] at hk
    simp only at hk ⊢
    split at hk
    · rename_i h
      rw [h]
      simp only [show kindK (-1) = 0 from rfl]
      simp
    · exfalso
      injection hk with hk
      have := congrArg (fun a => a[1]?) hk
      simp at this

section
variable {w : World} {f c fb pb hb : Nat} {fs : List CF} {hand : Int} {ps : List PG} {hs : List HD}

set_option maxRecDepth 100000 in
theorem frames_Dirty (h : FramesAt w f c fb pb hb fs hand ps hs) (hfew : fs.length ≤ 1000) :
    Calls Tryd.prog 16 #[.pointer (some ⟨f, 0, none⟩)] w fun e w' => ∃ v, e = .returned v ∧ OwnI w' v (sortI (dirtyL fs ps fs.length)) ∧ Only [] w w' ∧ (∀ b, v.ownBlock = some b → w.heap.size ≤ b) := by
  obtain ⟨i0, hi0, hz0, hz1, hz2⟩ := info_parts gint_info
  have h1 := h.cell1
  have HC := Lib.hid h
  have HFew := Lib.hid hfew
  clear h hfew
  go_enter Tryd.func16, Tryd.ntmps16
  go_wp2_with fail
  go_loopw [14, 3] (fun i l wr => ∃ k : Nat, k ≤ fs.length ∧ i = .int .i64 k ∧ OwnB wr w.heap.size l (dirtyL fs ps k) ∧ Only [] w wr) (fun i _ _ => fs.length - (intOf i).toNat)
  case atStart => exact ⟨0, by omega, rfl, OwnB.nil _ _, Only.refl _ _⟩
  case round =>
    clear h1
    obtain ⟨k, hk, rfl, hown, ho⟩ := hrel
    have HOwn := Lib.hid hown
    have HO := Lib.hid ho
    have hC := HC.out.only ho (by simp)
    have h0 := hC.cell0
    by_cases hlt : k < fs.length
    · have hk0 : (0 : Int) ≤ k := by omega
      have hk1 : (k : Int) < fs.length := by omega
      have hk9 : (k : Int) < 1000 := by have := HFew.out; omega
      have HKey := Lib.hid (clock_Key hC.hc k)
      have HD := Lib.hid (frames_dirty hC k)
      have HLt := Lib.hid hlt
      have lf := hC.hf.lt
      obtain ⟨F, hF⟩ : ∃ F, fs[k]? = some F := ⟨fs[k], List.getElem?_eq_getElem hlt⟩
      have hg : getF fs (k : Int) = some F := getF_get hF
      clear hC hown ho
      by_cases hkk : F.key = -1
      · have hkr : keyR fs k = .tuple #[.int .i64 0, .bool false] := by unfold keyR; rw [hg]; simp [hkk]
        have HN : Hid (dirtyL fs ps (k + 1) = dirtyL fs ps k) := Lib.hid (by rw [dirtyL_succ]; unfold dirtyK; rw [dirtyB_no hkr]; simp)
        rw [hkr] at HKey
        clear hkr hg hF hlt
        go_wp2_with (go_at_call 10; refine HKey.out.mono ?_; rintro e w1 ⟨rfl, rfl⟩)
        go_roundw
        case rel => exact ⟨k + 1, HLt.out, by go_num, by rw [HN.out]; exact HOwn.out, HO.out⟩
        case measure => have := HLt.out; simp [intOf]; omega
      · have hkr : keyR fs k = .tuple #[.int .i64 F.key, .bool true] := by unfold keyR; rw [hg]; simp [hkk]
        rw [hkr] at HKey
        cases hd : dirtyB fs ps k with
        | false =>
          have HN : Hid (dirtyL fs ps (k + 1) = dirtyL fs ps k) := Lib.hid (by rw [dirtyL_succ]; unfold dirtyK; rw [hd]; simp)
          rw [hd] at HD
          clear hkr hg hF hlt hd hkk
          go_wp2_with (first | (go_at_call 10; refine HKey.out.mono ?_; rintro e w1 ⟨rfl, rfl⟩) | (go_at_call 41; refine HD.out.mono ?_; rintro e w2 ⟨rfl, ho2⟩))
          go_roundw
          case rel => exact ⟨k + 1, HLt.out, by go_num, by rw [HN.out]; exact HOwn.out.only ho2, HO.out.trans ho2 (by simp)⟩
          case measure => have := HLt.out; simp [intOf]; omega
        | true =>
          have HN : Hid (dirtyL fs ps (k + 1) = dirtyL fs ps k ++ [F.key]) := Lib.hid (by rw [dirtyL_succ]; unfold dirtyK; rw [hd, List.getD_eq_getElem?_getD, hF]; simp)
          rw [hd] at HD
          clear hkr hg hF hlt hd hkk
          go_wp2_with (first | (go_at_call 10; refine HKey.out.mono ?_; rintro e w1 ⟨rfl, rfl⟩))
          refine HD.out.mono ?_
          rintro e w2 ⟨rfl, ho2⟩
          have HO2 := Lib.hid (HO.out.trans ho2 (by simp))
          have HOwn2 : Hid ((w2.alloc (.cells #[.int .i64 F.key] 3)).ownsRow w.heap.size 3 1 u3 (dirtyL fs ps k).length ((dirtyL fs ps k).map (Value.int .i64))) := (HOwn.out.only ho2).only ((Only.refl [] w2).alloc _)
          have HB := Lib.hid HOwn.out.own.2
          have HLe := Lib.hid (dirtyL_le fs ps k)
          clear ho2
          go_wp2_with (at_builtin; refine wpList_append_own _ rfl (.tmp 32) (.tmp 34) 47 rfl w.heap.size 3 i0 (.int .i64 0) 1 8 Tryd.underlying47 hi0 hz0 hz1 hz2 rfl (by omega) u3 (dirtyL fs ps k).length ((dirtyL fs ps k).map (Value.int .i64)) rfl HOwn2.out ⟨w2.heap.size, 0, none⟩ 1 1 [.int .i64 F.key] rfl rfl (World.news_of_block (cs := #[.int .i64 F.key]) (t := 3) (fr := (0, 0)) (heap_alloc_new w2 _)) (by simp [Value.oneCell']) (by have := HLe.out; have := HFew.out; have := HLt.out; unfold maxLen; omega) (by have := HLe.out; have := HFew.out; have := HLt.out; omega) (by have := HO2.out.size; simp; omega) ?_; intro v3 w3 hown3 hgrow hnil3)
          go_roundw
          case rel =>
            refine ⟨k + 1, HLt.out, by go_num, ?_, ?_⟩
            · rw [HN.out]
              unfold OwnB
              simpa using hown3
            · exact (HO2.out.alloc (.cells #[.int .i64 F.key] 3)).trans (Only.grown hgrow) (fun b hb => .inr (HB.out b (by simpa using hb)))
          case measure => have := HLt.out; simp [intOf]; omega
    · obtain rfl : k = fs.length := by omega
      clear hC ho
      have HB := Lib.hid hown.own.2
      have HSort := Lib.hid (sort_own hown.own.1 (Nat.le_trans (dirtyL_le fs ps fs.length) (by have := HFew.out; omega)))
      clear hown
      go_wp2_with (go_at_call 42; refine HSort.out.mono ?_; rintro e w2 ⟨rfl, hOw, hon⟩)
      go_ret
      exact ⟨u3, rfl, hOw, HO.out.trans hon (fun b hb => .inr (HB.out b (by simpa using hb))), HB.out⟩
end
end Go.Proofs.YtbfgpghfofmanaaDoor
