/-
  FramesKeep's plain law: what the law's arrays say of the frames.
-/
import Derived.Test.YtbfgpghfofmanaaDoorFramesG
import Derived.Test.YtbfgpghfofmanaaDoorFramesH
namespace Go.Proofs.YtbfgpghfofmanaaDoor
open Go.RowKit

/-- A page by value. -/
structure B32 where
  l : List Int
  h : l.length = 32

structure Inv (fs : List CF) (ps : List PG) (held : List Bool) (base now : List B32) : Prop where
  n4 : fs.length = 4
  pl : ps.length = 4
  hl : held.length = 8
  bl : base.length = 8
  nl : now.length = 8
  key : ∀ (i : Nat) F, fs[i]? = some F → (F.key = -1 ∨ (0 ≤ F.key ∧ F.key < 8)) ∧ F.pins = 0
  apart : ∀ (i j : Nat) F G, fs[i]? = some F → fs[j]? = some G → F.key = G.key → F.key ≠ -1 → i = j
  held_ : ∀ p : Nat, p < 8 → (held[p]? = some true ↔ ∃ (i : Nat) (F : CF), fs[i]? = some F ∧ F.key = p)
  same : ∀ (p i : Nat) F P b n, fs[i]? = some F → F.key = p → ps[i]? = some P → base[p]? = some b → now[p]? = some n → b.l = P.base ∧ n.l = P.now

theorem Inv.start (base now : List B32) (hb : base.length = 8) (hn : now.length = 8) : Inv (newFs 4) (List.replicate 4 pgZ) (List.replicate 8 false) base now := by
  have hk : ∀ (i : Nat) F, (newFs 4)[i]? = some F → F = ⟨-1, false, 0⟩ := by
    intro i F h
    unfold newFs at h
    rw [List.getElem?_replicate] at h
    split at h
    · injection h with h; exact h.symm
    · cases h
  refine ⟨by simp [newFs], by simp, by simp, hb, hn, ?_, ?_, ?_, ?_⟩
  · intro i F h; rw [hk i F h]; exact ⟨.inl rfl, rfl⟩
  · intro i j F G h1 h2 h3 h4; rw [hk i F h1] at h4; exact absurd rfl h4
  · intro p hp
    constructor
    · intro h
      rw [List.getElem?_replicate] at h
      split at h
      · injection h with h; cases h
      · cases h
    · rintro ⟨i, F, h1, h2⟩
      rw [hk i F h1] at h2
      simp only at h2
      omega
  · intro p i F P b n h1 h2
    rw [hk i F h1] at h2
    simp only at h2
    omega

theorem kind_page {p : Nat} (hp : p < 8) : kindK (p : Int) = 1 := by
  unfold kindK
  rw [if_neg (by omega), if_neg (by omega), if_pos (by omega)]

section
variable {fs : List CF} {ps : List PG} {held : List Bool} {base now : List B32}

/-- What find answers at a page. -/
theorem Inv.find_no (h : Inv fs ps held base now) {p : Nat} (hp : p < 8) (hh : held[p]? = some false) : fndR fs p 1 = .tuple #[.int .i64 0, .bool false] := by
  unfold fndR
  rw [if_pos (kind_page hp), if_neg (by omega)]
  unfold findR
  cases hf : findK fs p with
  | none => rfl
  | some i =>
    obtain ⟨F, h1, h2, _⟩ := findK_some hf
    have := (h.held_ p hp).2 ⟨i, F, h1, h2⟩
    rw [hh] at this
    cases this
theorem Inv.find_yes (h : Inv fs ps held base now) {p : Nat} (hp : p < 8) (hh : held[p]? = some true) :
    ∃ (i : Nat) (F : CF) (P : PG), fndR fs p 1 = .tuple #[.int .i64 i, .bool true] ∧ fs[i]? = some F ∧ F.key = p ∧ ps[i]? = some P := by
  unfold fndR
  rw [if_pos (kind_page hp), if_neg (by omega)]
  unfold findR
  cases hf : findK fs p with
  | none =>
    obtain ⟨i, F, h1, h2⟩ := (h.held_ p hp).1 hh
    exact absurd h2 (findK_none hf i F h1)
  | some i =>
    obtain ⟨F, h1, h2, h3⟩ := findK_some hf
    exact ⟨i, F, ps[i]'(by rw [h.pl, ← h.n4]; exact h3), rfl, h1, h2, by simp⟩

/-- A page that is held turned, in the frame and in the arrays. -/
theorem Inv.turn (h : Inv fs ps held base now) {p i : Nat} (hp : p < 8) {F : CF} (hF : fs[i]? = some F) (hk : F.key = p) (m : Bool) (Q : PG) (b n : B32) (hb : b.l = Q.base) (hn : n.l = Q.now) :
    Inv (fs.set i ⟨F.key, m, F.pins⟩) (ps.set i Q) held (base.set p b) (now.set p n) := by
  have hi : i < fs.length := (List.getElem?_eq_some_iff.1 hF).1
  have hget : ∀ (j : Nat) G, (fs.set i ⟨F.key, m, F.pins⟩)[j]? = some G → ∃ G0, fs[j]? = some G0 ∧ G0.key = G.key ∧ G0.pins = G.pins := by
    intro j G hG
    by_cases hj : i = j
    · subst hj
      rw [List.getElem?_set_self hi] at hG
      injection hG with hG; subst hG
      exact ⟨F, hF, rfl, rfl⟩
    · rw [List.getElem?_set_ne hj] at hG
      exact ⟨G, hG, rfl, rfl⟩
  have hput : ∀ (j : Nat) G, fs[j]? = some G → ∃ G0, (fs.set i ⟨F.key, m, F.pins⟩)[j]? = some G0 ∧ G0.key = G.key := by
    intro j G hG
    by_cases hj : i = j
    · subst hj
      rw [hF] at hG; injection hG with hG; subst hG
      exact ⟨_, List.getElem?_set_self hi, rfl⟩
    · exact ⟨G, by rw [List.getElem?_set_ne hj]; exact hG, rfl⟩
  refine ⟨by simp [h.n4], by simp [h.pl], h.hl, by simp [h.bl], by simp [h.nl], ?_, ?_, ?_, ?_⟩
  · intro j G hG
    obtain ⟨G0, h1, h2, h3⟩ := hget j G hG
    rw [← h2, ← h3]; exact h.key j G0 h1
  · intro j k G H hG hH he hne
    obtain ⟨G0, h1, h2, _⟩ := hget j G hG
    obtain ⟨H0, h4, h5, _⟩ := hget k H hH
    exact h.apart j k G0 H0 h1 h4 (by rw [h2, h5]; exact he) (by rw [h2]; exact hne)
  · intro q hq
    rw [h.held_ q hq]
    constructor
    · rintro ⟨j, G, hG, hkG⟩
      obtain ⟨G0, h1, h2⟩ := hput j G hG
      exact ⟨j, G0, h1, by rw [h2]; exact hkG⟩
    · rintro ⟨j, G, hG, hkG⟩
      obtain ⟨G0, h1, h2, _⟩ := hget j G hG
      exact ⟨j, G0, h1, by rw [h2]; exact hkG⟩
  · intro q j G P b2 n2 hG hkG hP hb2 hn2
    obtain ⟨G0, h1, h2, _⟩ := hget j G hG
    by_cases hj : i = j
    · subst hj
      rw [hF] at h1; injection h1 with h1; subst h1
      have hq : q = p := by rw [← h2, hk] at hkG; omega
      subst hq
      rw [List.getElem?_set_self (by rw [h.pl, ← h.n4]; exact hi)] at hP
      rw [List.getElem?_set_self (by rw [h.bl]; exact hp)] at hb2
      rw [List.getElem?_set_self (by rw [h.nl]; exact hp)] at hn2
      injection hP with hP; injection hb2 with hb2; injection hn2 with hn2
      subst hP; subst hb2; subst hn2
      exact ⟨hb, hn⟩
    · have hq : p ≠ q := by
        rintro rfl
        exact hj (h.apart i j F G0 hF h1 (by rw [h2, hk, hkG]) (by rw [hk]; omega))
      rw [List.getElem?_set_ne hj] at hP
      rw [List.getElem?_set_ne hq] at hb2 hn2
      exact h.same q j G0 P b2 n2 h1 (by rw [h2]; exact hkG) hP hb2 hn2

/-- A page that is not held: its places in the arrays say nothing. -/
theorem Inv.off (h : Inv fs ps held base now) {p : Nat} (hp : p < 8) (hh : held[p]? = some false) (b n : B32) : Inv fs ps held (base.set p b) (now.set p n) := by
  refine ⟨h.n4, h.pl, h.hl, by simp [h.bl], by simp [h.nl], h.key, h.apart, h.held_, ?_⟩
  intro q j G P b2 n2 hG hkG hP hb2 hn2
  have hq : p ≠ q := by
    rintro rfl
    have := (h.held_ p hp).2 ⟨j, G, hG, hkG⟩
    rw [hh] at this
    cases this
  rw [List.getElem?_set_ne hq] at hb2 hn2
  exact h.same q j G P b2 n2 hG hkG hP hb2 hn2

/-- What is held behind a Hold that was taken. -/
def heldOff (held : List Bool) (k : Int) : List Bool := if k = -1 then held else held.set k.toNat false
theorem heldOff_len (held : List Bool) (k : Int) : (heldOff held k).length = held.length := by unfold heldOff; split <;> simp
theorem Inv.hold (h : Inv fs ps held base now) {p i : Nat} (hp : p < 8) {F : CF} (hF : fs[i]? = some F) (hfree : ∀ (j : Nat) G, fs[j]? = some G → G.key = p → j = i) (Q : PG) (b : B32) (hb : b.l = Q.base) (hn : b.l = Q.now) :
    Inv (fs.set i ⟨p, true, F.pins⟩) (ps.set i Q) ((heldOff held F.key).set p true) (base.set p b) (now.set p b) := by
  have hi : i < fs.length := (List.getElem?_eq_some_iff.1 hF).1
  have hget : ∀ (j : Nat) G, (fs.set i ⟨p, true, F.pins⟩)[j]? = some G → (j = i ∧ G = ⟨p, true, F.pins⟩) ∨ (j ≠ i ∧ fs[j]? = some G) := by
    intro j G hG
    by_cases hj : i = j
    · subst hj
      rw [List.getElem?_set_self hi] at hG
      injection hG with hG
      exact .inl ⟨rfl, hG.symm⟩
    · rw [List.getElem?_set_ne hj] at hG
      exact .inr ⟨fun e => hj e.symm, hG⟩
  have hkF := h.key i F hF
  refine ⟨by simp [h.n4], by simp [h.pl], by simp [heldOff_len, h.hl], by simp [h.bl], by simp [h.nl], ?_, ?_, ?_, ?_⟩
  · intro j G hG
    rcases hget j G hG with ⟨_, rfl⟩ | ⟨_, h1⟩
    · exact ⟨.inr ⟨by simp, by simp; omega⟩, hkF.2⟩
    · exact h.key j G h1
  · intro j k G H hG hH he hne
    rcases hget j G hG with ⟨rfl, rfl⟩ | ⟨hj, h1⟩
    · rcases hget k H hH with ⟨rfl, rfl⟩ | ⟨hk, h2⟩
      · rfl
      · exact absurd (hfree k H h2 he.symm) hk
    · rcases hget k H hH with ⟨rfl, rfl⟩ | ⟨hk, h2⟩
      · exact absurd (hfree j G h1 he) hj
      · exact h.apart j k G H h1 h2 he hne
  · intro q hq
    by_cases hqp : p = q
    · subst hqp
      rw [List.getElem?_set_self (by rw [heldOff_len, h.hl]; exact hp)]
      exact ⟨fun _ => ⟨i, _, List.getElem?_set_self hi, rfl⟩, fun _ => rfl⟩
    · rw [List.getElem?_set_ne hqp]
      have hR : (∃ (j : Nat) (G : CF), (fs.set i ⟨p, true, F.pins⟩)[j]? = some G ∧ G.key = q) ↔ ∃ (j : Nat) (G : CF), j ≠ i ∧ fs[j]? = some G ∧ G.key = q := by
        constructor
        · rintro ⟨j, G, hG, hk⟩
          rcases hget j G hG with ⟨_, rfl⟩ | ⟨hj, h1⟩
          · simp only at hk; omega
          · exact ⟨j, G, hj, h1, hk⟩
        · rintro ⟨j, G, hj, h1, hk⟩
          exact ⟨j, G, by rw [List.getElem?_set_ne (fun e => hj e.symm)]; exact h1, hk⟩
      rw [hR]
      unfold heldOff
      by_cases hFq : F.key = q
      · rw [if_neg (by omega), show F.key.toNat = q by omega, List.getElem?_set_self (by rw [h.hl]; exact hq)]
        constructor
        · intro e; injection e with e; cases e
        · rintro ⟨j, G, hj, h1, hk⟩
          exact absurd (h.apart j i G F h1 hF (by rw [hk, hFq]) (by omega)) hj
      · have e : (if F.key = -1 then held else held.set F.key.toNat false)[q]? = held[q]? := by
          split
          · rfl
          · rw [List.getElem?_set_ne (by omega)]
        rw [e, h.held_ q hq]
        constructor
        · rintro ⟨j, G, h1, hk⟩
          refine ⟨j, G, ?_, h1, hk⟩
          rintro rfl
          rw [hF] at h1; injection h1 with h1; subst h1
          exact hFq hk
        · rintro ⟨j, G, _, h1, hk⟩
          exact ⟨j, G, h1, hk⟩
  · intro q j G P b2 n2 hG hkG hP hb2 hn2
    rcases hget j G hG with ⟨rfl, rfl⟩ | ⟨hj, h1⟩
    · have hq : q = p := by simp only at hkG; omega
      subst hq
      rw [List.getElem?_set_self (by rw [h.pl, ← h.n4]; exact hi)] at hP
      rw [List.getElem?_set_self (by rw [h.bl]; exact hp)] at hb2
      rw [List.getElem?_set_self (by rw [h.nl]; exact hp)] at hn2
      injection hP with hP; injection hb2 with hb2; injection hn2 with hn2
      subst hP; subst hb2; subst hn2
      exact ⟨hb, hn⟩
    · have hq : p ≠ q := by
        rintro rfl
        exact hj (hfree j G h1 hkG)
      rw [List.getElem?_set_ne (fun e => hj e.symm)] at hP
      rw [List.getElem?_set_ne hq] at hb2 hn2
      exact h.same q j G P b2 n2 h1 hkG hP hb2 hn2

/-- A frame that takes a page: nobody else has it, and what it had is clean. -/
theorem Inv.holdF_spec (h : Inv fs ps held base now) {p : Nat} (hp : p < 8) {i : Int} {F : CF} (ht : holdF fs ps i p = some F) :
    getF fs i = some F ∧ dirtyB fs ps i = false ∧ ∀ (j : Nat) G, fs[j]? = some G → G.key = p → (j : Int) = i := by
  unfold holdF at ht
  rw [if_pos (kind_page hp)] at ht
  unfold takesF at ht
  cases hd : dirtyB fs ps i with
  | true => rw [hd] at ht; cases ht
  | false =>
    rw [hd] at ht
    obtain ⟨h1, h2, h3, h4⟩ := putOK_spec ht
    refine ⟨h1, rfl, fun j G hG hk => ?_⟩
    cases hf : findK fs p with
    | none => exact absurd hk (findK_none hf j G hG)
    | some m =>
      obtain ⟨F2, h5, h6, _⟩ := findK_some hf
      have := h.apart j m G F2 hG h5 (by rw [hk, h6]) (by omega)
      rw [this]
      exact h4 m hf

/-! ### What is dirty, in order -/
theorem dirtyL_filter (fs : List CF) (ps : List PG) : ∀ n, dirtyL fs ps n = ((List.range n).filter fun i : Nat => dirtyB fs ps i).map fun i => (fs.getD i ⟨-1, false, 0⟩).key
  | 0 => rfl
  | n + 1 => by
    rw [dirtyL_succ, dirtyL_filter fs ps n, List.range_succ, List.filter_append, List.map_append]
    congr 1
    unfold dirtyK
    cases hd : dirtyB fs ps n <;> simp [hd]
def isD (held : List Bool) (base now : List B32) (k : Nat) : Bool := match held[k]?, base[k]?, now[k]? with
  | some true, some b, some n => decide (b.l ≠ n.l)
  | _, _, _ => false
def wantL (held : List Bool) (base now : List B32) : List Int := ((List.range 8).filter (isD held base now)).map fun k : Nat => (k : Int)

theorem dirtyB_iff {i : Nat} {F : CF} {P : PG} (hF : fs[i]? = some F) (hP : ps[i]? = some P) : dirtyB fs ps i = (decide (kindK F.key = 1) && decide (P.base ≠ P.now)) := by
  unfold dirtyB
  rw [getF_get hF]
  simp only [Int.toNat_natCast, hP]

theorem Inv.dirty (h : Inv fs ps held base now) : sortI (dirtyL fs ps fs.length) = wantL held base now := by
  have hP : ∀ i, i < fs.length → ∃ F P, fs[i]? = some F ∧ ps[i]? = some P := fun i hi =>
    ⟨fs[i], ps[i]'(by rw [h.pl, ← h.n4]; exact hi), List.getElem?_eq_getElem hi, by simp⟩
  have hdk : ∀ i F, fs[i]? = some F → dirtyB fs ps (i : Nat) = true → 0 ≤ F.key ∧ F.key < 8 := by
    intro i F hF hd
    obtain ⟨F2, P, h1, h2⟩ := hP i (List.getElem?_eq_some_iff.1 hF).1
    rw [hF] at h1; injection h1 with h1; subst h1
    rw [dirtyB_iff hF h2] at hd
    rcases (h.key i F hF).1 with h3 | h3
    · rw [h3] at hd; simp [kindK] at hd
    · exact h3
  have hnd : (dirtyL fs ps fs.length).Nodup := by
    rw [dirtyL_filter]
    unfold List.Nodup
    rw [List.pairwise_map]
    refine (List.pairwise_lt_range.filter _).imp_of_mem ?_
    intro a b ha hb hab
    rw [List.mem_filter, List.mem_range] at ha hb
    obtain ⟨Fa, Pa, ha1, ha2⟩ := hP a ha.1
    obtain ⟨Fb, Pb, hb1, hb2⟩ := hP b hb.1
    rw [List.getD_eq_getElem?_getD, List.getD_eq_getElem?_getD, ha1, hb1]
    simp only [Option.getD_some]
    intro e
    have := h.apart a b Fa Fb ha1 hb1 e (by have := hdk a Fa ha1 ha.2; omega)
    omega
  have hws : (wantL held base now).Pairwise (· < ·) := by
    unfold wantL
    refine List.Pairwise.map _ ?_ (List.pairwise_lt_range.filter _)
    intro a b hab; omega
  refine List.Perm.eq_of_pairwise (le := fun a b : Int => a ≤ b) (fun a b _ _ h1 h2 => by omega) ?_ (hws.imp fun hab => by omega) ?_
  · unfold sortI
    refine (List.pairwise_mergeSort (le := fun x y : Int => decide (x ≤ y)) ?_ ?_ _).imp ?_
    · intro a b c h1 h2; simp at h1 h2 ⊢; omega
    · intro a b; simp; omega
    · intro a b hab; simpa using hab
  · refine (List.mergeSort_perm _ _).trans ((List.perm_ext_iff_of_nodup hnd (hws.imp fun hab => by omega)).2 ?_)
    intro x
    rw [dirtyL_filter, wantL, List.mem_map, List.mem_map]
    constructor
    · rintro ⟨i, hi, rfl⟩
      rw [List.mem_filter, List.mem_range] at hi
      obtain ⟨F, P, h1, h2⟩ := hP i hi.1
      have hk := hdk i F h1 hi.2
      have hd := hi.2
      rw [dirtyB_iff h1 h2] at hd
      simp only [Bool.and_eq_true, decide_eq_true_eq] at hd
      have hkn : F.key = (F.key.toNat : Int) := by omega
      have hlt : F.key.toNat < 8 := by omega
      refine ⟨F.key.toNat, List.mem_filter.2 ⟨List.mem_range.2 hlt, ?_⟩, ?_⟩
      · have hh := (h.held_ F.key.toNat hlt).2 ⟨i, F, h1, hkn⟩
        have hb : base[F.key.toNat]? = some (base[F.key.toNat]'(by rw [h.bl]; exact hlt)) := List.getElem?_eq_getElem _
        have hn : now[F.key.toNat]? = some (now[F.key.toNat]'(by rw [h.nl]; exact hlt)) := List.getElem?_eq_getElem _
        have hs := h.same F.key.toNat i F P _ _ h1 hkn h2 hb hn
        unfold isD
        rw [hh, hb, hn]
        simp only [decide_eq_true_eq]
        rw [hs.1, hs.2]; exact hd.2
      · rw [List.getD_eq_getElem?_getD, h1, ← hkn]; rfl
    · rintro ⟨k, hk, rfl⟩
      rw [List.mem_filter, List.mem_range] at hk
      obtain ⟨hk8, hd⟩ := hk
      unfold isD at hd
      split at hd
      · rename_i b n hh hb hn
        obtain ⟨i, F, h1, h2⟩ := (h.held_ k hk8).1 hh
        obtain ⟨F2, P, h3, h4⟩ := hP i (List.getElem?_eq_some_iff.1 h1).1
        rw [h1] at h3; injection h3 with h3; subst h3
        have hs := h.same k i F P b n h1 h2 h4 hb hn
        refine ⟨i, List.mem_filter.2 ⟨List.mem_range.2 (List.getElem?_eq_some_iff.1 h1).1, ?_⟩, ?_⟩
        · rw [dirtyB_iff h1 h4, h2, kind_page hk8]
          simp only [decide_true, Bool.true_and, decide_eq_true_eq] at hd ⊢
          rw [← hs.1, ← hs.2]; exact hd
        · rw [List.getD_eq_getElem?_getD, h1]; exact h2
      · cases hd

/-- The dirty ones below k. -/
def wantP (held : List Bool) (base now : List B32) (k : Nat) : List Int := ((List.range k).filter (isD held base now)).map fun k : Nat => (k : Int)
theorem wantP_succ (held : List Bool) (base now : List B32) (k : Nat) : wantP held base now (k + 1) = wantP held base now k ++ (if isD held base now k then [(k : Int)] else []) := by
  unfold wantP
  rw [List.range_succ, List.filter_append, List.map_append]
  congr 1
  cases hd : isD held base now k <;> simp [hd]
theorem wantP_pre (held : List Bool) (base now : List B32) (k m : Nat) : wantP held base now k <+: wantP held base now (k + m) := by
  induction m with
  | zero => exact List.prefix_refl _
  | succ m ih =>
    rw [← Nat.add_assoc, wantP_succ]
    exact ih.trans (List.prefix_append _ _)
theorem wantP_at (held : List Bool) (base now : List B32) {k : Nat} (hk : k < 8) (hd : isD held base now k = true) :
    (wantP held base now k).length < (wantL held base now).length ∧ (wantL held base now)[(wantP held base now k).length]? = some (k : Int) := by
  have h1 := wantP_pre held base now (k + 1) (8 - (k + 1))
  rw [show k + 1 + (8 - (k + 1)) = 8 by omega] at h1
  obtain ⟨t, ht⟩ := h1
  have hw : wantL held base now = wantP held base now k ++ ([(k : Int)] ++ t) := by
    show wantP held base now 8 = _
    rw [← ht, wantP_succ, hd]; simp
  rw [hw]
  constructor
  · simp
  · rw [List.getElem?_append_right (Nat.le_refl _)]; simp

/-- What a frame tells of its key. -/
theorem Inv.keyR_cases (h : Inv fs ps held base now) (i : Int) : keyR fs i = .tuple #[.int .i64 0, .bool false] ∨
    ∃ (n : Nat) (F : CF), i = n ∧ fs[n]? = some F ∧ 0 ≤ F.key ∧ F.key < 8 ∧ keyR fs i = .tuple #[.int .i64 F.key, .bool true] := by
  unfold keyR
  cases hg : getF fs i with
  | none => exact .inl rfl
  | some F =>
    obtain ⟨n, rfl, hF, _⟩ := getF_some hg
    simp only
    rcases (h.key n F hF).1 with hk | hk
    · rw [if_pos hk]; exact .inl rfl
    · rw [if_neg (by omega)]; exact .inr ⟨n, F, rfl, hF, hk.1, hk.2, rfl⟩
theorem Inv.clean_ (h : Inv fs ps held base now) {n : Nat} {F : CF} (hF : fs[n]? = some F) (h0 : 0 ≤ F.key) (h8 : F.key < 8) (hd : dirtyB fs ps (n : Int) = false) (b m : B32) (hb : base[F.key.toNat]? = some b) (hm : now[F.key.toNat]? = some m) : b.l = m.l := by
  have hi : n < fs.length := (List.getElem?_eq_some_iff.1 hF).1
  have hP : ps[n]? = some (ps[n]'(by rw [h.pl, ← h.n4]; exact hi)) := List.getElem?_eq_getElem _
  have hkn : F.key = (F.key.toNat : Int) := by omega
  have hs := h.same F.key.toNat n F _ b m hF hkn hP hb hm
  rw [dirtyB_iff hF hP, hkn, kind_page (by omega)] at hd
  simp only [decide_true, Bool.true_and, decide_eq_false_iff_not, ne_eq, Decidable.not_not] at hd
  rw [hs.1, hs.2]; exact hd
end
end Go.Proofs.YtbfgpghfofmanaaDoor
