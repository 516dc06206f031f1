/-
  FramesKeep: the state of a round, and the calls at it.
-/
import Derived.Test.YtbfgpghfofmanaaDoorFramesN
import Derived.Test.YtbfgpghfofmanaaDoorReads
namespace Go.Proofs.YtbfgpghfofmanaaDoor
open Go.RowKit

structure Bks where
  f : Nat
  c : Nat
  fb : Nat
  pb : Nat
  hb : Nat
  q5 : Nat
  q6 : Nat
  q7 : Nat
/-- The frames and the law's arrays, apart. -/
structure St (w0 w : World) (B : Bks) (fs : List CF) (ps : List PG) (held : List Bool) (base now : List B32) : Prop where
  fr : ∃ hand hs, FramesAt w B.f B.c B.fb B.pb B.hb fs hand ps hs
  ar : ArrAt w B.q5 B.q6 B.q7 held base now
  on : Only [] w0 w
  ge : ∀ b ∈ ffp B.f B.c B.fb B.pb B.hb, w0.heap.size ≤ b
  g5 : w0.heap.size ≤ B.q5
  g6 : w0.heap.size ≤ B.q6
  g7 : w0.heap.size ≤ B.q7
  far : ∀ b ∈ ffp B.f B.c B.fb B.pb B.hb, b ≠ B.q5 ∧ b ≠ B.q6 ∧ b ≠ B.q7
  ne : B.q5 ≠ B.q6

section
variable {w0 w : World} {B : Bks} {fs : List CF} {ps : List PG} {held : List Bool} {base now : List B32}

theorem St.only (h : St w0 w B fs ps held base now) {w2 : World} (ho : Only [] w w2) : St w0 w2 B fs ps held base now := by
  obtain ⟨hand, hs, hf⟩ := h.fr
  exact ⟨⟨hand, hs, hf.only ho (by simp)⟩, h.ar.only ho (by simp) (by simp) (by simp), h.on.trans ho (by simp), h.ge, h.g5, h.g6, h.g7, h.far, h.ne⟩
/-- The frames have turned, and nothing else. -/
theorem St.frames (h : St w0 w B fs ps held base now) {w2 : World} {F : List Nat} (ho : Only F w w2) (hF : ∀ b ∈ F, b ∈ ffp B.f B.c B.fb B.pb B.hb) {fs2 : List CF} {ps2 : List PG} (h2 : ∃ hand hs, FramesAt w2 B.f B.c B.fb B.pb B.hb fs2 hand ps2 hs) : St w0 w2 B fs2 ps2 held base now :=
  ⟨h2, h.ar.only ho (fun hm => (h.far _ (hF _ hm)).1 rfl) (fun hm => (h.far _ (hF _ hm)).2.1 rfl) (fun hm => (h.far _ (hF _ hm)).2.2 rfl), h.on.trans ho (fun b hb => .inr (h.ge b (hF b hb))), h.ge, h.g5, h.g6, h.g7, h.far, h.ne⟩
theorem St.setHeld (h : St w0 w B fs ps held base now) (p : Nat) (v : Bool) : St w0 (w.setCell ⟨B.q7, p, none⟩ (.bool v)) B fs ps (held.set p v) base now := by
  obtain ⟨hand, hs, hf⟩ := h.fr
  have ho : Only [B.q7] w (w.setCell ⟨B.q7, p, none⟩ (.bool v)) := (Only.refl _ _).setCell (.inl (by simp)) _
  exact ⟨⟨hand, hs, hf.only ho (fun b hb hm => by simp at hb; exact (h.far _ hm).2.2 hb)⟩, h.ar.setHeld p v, h.on.trans ho (fun b hb => .inr (by simp at hb; subst hb; exact h.g7)), h.ge, h.g5, h.g6, h.g7, h.far, h.ne⟩
theorem St.setBase (h : St w0 w B fs ps held base now) {p : Nat} {b : B32} (hb : base[p]? = some b) (x : B32) : St w0 (w.setCells B.q5 (p * 32) (by8 x.l)) B fs ps held (base.set p x) now := by
  obtain ⟨hand, hs, hf⟩ := h.fr
  have ho : Only [B.q5] w (w.setCells B.q5 (p * 32) (by8 x.l)) := setCells_only _ _ w
  exact ⟨⟨hand, hs, hf.only ho (fun b hb hm => by simp at hb; exact (h.far _ hm).1 hb)⟩, h.ar.setBase h.ne hb x, h.on.trans ho (fun b hb => .inr (by simp at hb; subst hb; exact h.g5)), h.ge, h.g5, h.g6, h.g7, h.far, h.ne⟩
theorem St.setNow (h : St w0 w B fs ps held base now) {p : Nat} {b : B32} (hb : now[p]? = some b) (x : B32) : St w0 (w.setCells B.q6 (p * 32) (by8 x.l)) B fs ps held base (now.set p x) := by
  obtain ⟨hand, hs, hf⟩ := h.fr
  have ho : Only [B.q6] w (w.setCells B.q6 (p * 32) (by8 x.l)) := setCells_only _ _ w
  exact ⟨⟨hand, hs, hf.only ho (fun b hb hm => by simp at hb; exact (h.far _ hm).2.1 hb)⟩, h.ar.setNow h.ne hb x, h.on.trans ho (fun b hb => .inr (by simp at hb; subst hb; exact h.g6)), h.ge, h.g5, h.g6, h.g7, h.far, h.ne⟩

theorem by8_upd1 (n : List Int) (hn : n.length = 32) (v : Int) : by8 (updP n 3 [v]) = (by8 n).set 3 (.int .u8 v) := by
  rw [List.set_eq_take_append_cons_drop, if_pos (by simp [by8, hn])]
  simp [updP, by8]
theorem St.setNow1 (h : St w0 w B fs ps held base now) {p : Nat} {b : B32} (hb : now[p]? = some b) (v : Int) (hx : fitsP 3 ([v] : List Int).length) : St w0 (w.setCell ⟨B.q6, p * 32 + 3, none⟩ (.int .u8 v)) B fs ps held base (now.set p ⟨updP b.l 3 [v], updP_len b.h hx⟩) := by
  obtain ⟨hand, hs, hf⟩ := h.fr
  have ho : Only [B.q6] w (w.setCell ⟨B.q6, p * 32 + 3, none⟩ (.int .u8 v)) := (Only.refl _ _).setCell (.inl (by simp)) _
  refine ⟨⟨hand, hs, hf.only ho (fun b hb hm => by simp at hb; exact (h.far _ hm).2.1 hb)⟩, ⟨h.ar.hb.only ho (by have := h.ne; simpa using this), h.ar.hn.rec_set1 (g := gB) gB_len hb 3 _ (by omega) (by8_upd1 b.l b.h v), h.ar.hh.only ho (by have := h.ar.ne.2; simp; omega)⟩, h.on.trans ho (fun b hb => .inr (by simp at hb; subst hb; exact h.g6)), h.ge, h.g5, h.g6, h.g7, h.far, h.ne⟩
theorem St.there5 (h : St w0 w B fs ps held base now) {p : Nat} {b : B32} (hb : base[p]? = some b) : w.there B.q5 (p * 32) 32 := by
  have := h.ar.hb.rec_there (g := gB) gB_len hb 0 32 (by omega)
  exact this
theorem St.there6 (h : St w0 w B fs ps held base now) {p : Nat} {b : B32} (hb : now[p]? = some b) : w.there B.q6 (p * 32) 32 := by
  have := h.ar.hn.rec_there (g := gB) gB_len hb 0 32 (by omega)
  exact this
theorem St.cell6 (h : St w0 w B fs ps held base now) {p : Nat} {b : B32} (hb : now[p]? = some b) : (w.cell? ⟨B.q6, p * 32 + 3, none⟩ = some (.int .u8 (b.l.getD 3 0))) ∧ w.frozen? ⟨B.q6, p * 32 + 3, none⟩ = false := by
  refine ⟨?_, h.ar.hn.frozen _⟩
  rw [h.ar.hn.rec_cell (g := gB) gB_len hb 3 (by omega)]
  have h32 := b.h
  simp [gB, by8, h32]
theorem St.cell7 (h : St w0 w B fs ps held base now) {p : Nat} {b : Bool} (hb : held[p]? = some b) : (w.cell? ⟨B.q7, p, none⟩ = some (.bool b)) ∧ w.frozen? ⟨B.q7, p, none⟩ = false := ⟨h.ar.held_ hb, h.ar.hh.frozen _⟩
theorem St.ofNe (h : St w0 w B fs ps held base now) {q : Nat} {cs : Array Value} (hq : Blk w q 37 cs) : q ≠ B.q5 ∧ q ≠ B.q6 ∧ q ≠ B.q7 ∧ q ≠ B.fb ∧ q ≠ B.pb := by
  obtain ⟨hand, hs, hf⟩ := h.fr
  exact ⟨hq.ne_ h.ar.hb (by decide), hq.ne_ h.ar.hn (by decide), hq.ne_ h.ar.hh (by decide), hq.ne_ hf.hc.hf (by decide), hq.ne_ hf.hp (by decide)⟩
theorem ReadsS.only {w w2 : World} {v : Value} {l : List Stp} (h : ReadsS w v l) (ho : Only [] w w2) : ReadsS w2 v l := by
  obtain ⟨A, c, rfl, hx⟩ := h
  refine ⟨A, c, rfl, fun j x hj => ?_⟩
  obtain ⟨b, off, rfl, h0, h1, h2, h3, h4, h5⟩ := hx j x hj
  have lt := World.block_lt_of_cell? _ _ h0
  have ck : ∀ o, w2.cell? ⟨b, o, none⟩ = w.cell? ⟨b, o, none⟩ := fun o => ho.cell (p := ⟨b, o, none⟩) lt (by simp)
  exact ⟨b, off, rfl, (ck _).trans h0, (ck _).trans h1, (ck _).trans h2, (ck _).trans h3, (ck _).trans h4, (ck _).trans h5⟩
theorem set_same {α : Type} {l : List α} {p : Nat} {x : α} (h : l[p]? = some x) : l.set p x = l := by
  obtain ⟨hp, rfl⟩ := List.getElem?_eq_some_iff.1 h
  simp

theorem st_Clock (h : St w0 w B fs ps held base now) : Calls Tryd.prog 6 #[.pointer (some ⟨B.f, 0, none⟩)] w fun e w' => e = .returned (.pointer (some ⟨B.c, 0, none⟩)) ∧ w = w' := by
  obtain ⟨hand, hs, hf⟩ := h.fr
  exact frames_Clock hf
theorem st_Key (h : St w0 w B fs ps held base now) (i : Int) : Calls Tryd.prog 10 #[.pointer (some ⟨B.c, 0, none⟩), .int .i64 i] w fun e w' => e = .returned (keyR fs i) ∧ w = w' := by
  obtain ⟨hand, hs, hf⟩ := h.fr
  exact clock_Key hf.hc i
/-- Two pages in variables of their own. -/
def twoP (w : World) (z a b : List Value) : World := (((w.alloc (.cells z.toArray 32)).alloc (.cells z.toArray 32)).setCells w.heap.size 0 a).setCells (w.heap.size + 1) 0 b
structure TwoP (w : World) (z a b : List Value) (w2 : World) : Prop where
  on : Only [] w w2
  b0 : Blk w2 w.heap.size 32 a.toArray
  b1 : Blk w2 (w.heap.size + 1) 32 b.toArray
  t0 : ((w.alloc (.cells z.toArray 32)).alloc (.cells z.toArray 32)).there w.heap.size 0 a.toArray.size
  t1 : (((w.alloc (.cells z.toArray 32)).alloc (.cells z.toArray 32)).setCells w.heap.size 0 a).there (w.heap.size + 1) 0 b.toArray.size
theorem twoP_spec (w : World) (z a b : List Value) (hz : z.length = 32) (ha : a.length = 32) (hb : b.length = 32) : TwoP w z a b (twoP w z a b) := by
  have h0 : Blk ((w.alloc (.cells z.toArray 32)).alloc (.cells z.toArray 32)) w.heap.size 32 z.toArray := (Blk.new w _ _).alloc _
  have h1 : Blk ((w.alloc (.cells z.toArray 32)).alloc (.cells z.toArray 32)) (w.heap.size + 1) 32 z.toArray := blk_new1 w _ _ _
  have h1' : Blk (((w.alloc (.cells z.toArray 32)).alloc (.cells z.toArray 32)).setCells w.heap.size 0 a) (w.heap.size + 1) 32 z.toArray := h1.only (setCells_only (b := w.heap.size) a 0 _) (by simp)
  exact ⟨((((Only.refl [] w).alloc _).alloc _).setCells (.inr (Nat.le_refl _)) 0 _).setCells (.inr (Nat.le_succ _)) 0 _, (h0.whole a (by omega)).only (setCells_only (b := w.heap.size + 1) b 0 _) (by simp), h1'.whole b (by omega), h0.there_ (by simp; omega), h1'.there_ (by simp; omega)⟩
theorem page_neq (xs ys : List Int) (hx : xs.length = 32) (hy : ys.length = 32) (v : Bool) (hv : decide (xs ≠ ys) = v) (w : World) : (binOp .neq 32 (.agg (by8 xs).toArray) (.agg (by8 ys).toArray)).run Tryd.prog w = .ok (.bool v) w := by
  rw [← hv]
  exact run_neq_arr (P := Tryd.prog) w 32 5 32 .u8 Tryd.underlying32 Tryd.underlying5 gu8_size xs ys hx hy

theorem some_Mod (k : Int) (n : Nat) (w : World) (h1 : 1 ≤ n) (h2 : n ≤ 1000000) :
    Calls Tryd.prog 9 #[.int .i64 k, .int .i64 n] w fun e w' => ∃ p : Nat, p < n ∧ e = .returned (.int .i64 p) ∧ w = w' :=
  (keep_Mod k n w (by omega) (by omega)).mono fun e w' ⟨h3, h4⟩ => by
    have h5 := Int.emod_nonneg k (show (n : Int) ≠ 0 by omega)
    have h6 := Int.emod_lt_of_pos k (show (0 : Int) < n by omega)
    exact ⟨(k % (n : Int)).toNat, by omega, by rw [h3, show (((k % (n : Int)).toNat : Nat) : Int) = k % n by omega], h4⟩
theorem st_Hold_no (h : St w0 w B fs ps held base now) (i key : Int) (b : List Int) (hb : b.length = 32) (ht : holdF fs ps i key = none) :
    Calls Tryd.prog 11 #[.pointer (some ⟨B.f, 0, none⟩), .int .i64 i, .int .i64 key, .agg (by8 b).toArray] w fun e w' => e = .returned (.bool false) ∧ Only [] w w' := by
  obtain ⟨hand, hs, hf⟩ := h.fr
  exact frames_Hold_no hf i key b hb ht
theorem st_Hold_ok (h : St w0 w B fs ps held base now) (i key : Int) (b : List Int) (hbl : b.length = 32) (F : CF) (ht : holdF fs ps i key = some F) :
    Calls Tryd.prog 11 #[.pointer (some ⟨B.f, 0, none⟩), .int .i64 i, .int .i64 key, .agg (by8 b).toArray] w fun e w' => e = .returned (.bool true) ∧ St w0 w' B (fs.set i.toNat ⟨key, true, F.pins⟩) (ps.set i.toNat ⟨b, b, hbl, hbl⟩) held base now ∧ Only [B.fb, B.pb] w w' := by
  obtain ⟨hand, hs, hf⟩ := h.fr
  exact (frames_Hold_ok hf i key b hbl F ht).mono fun e w' ⟨h1, h2, h3⟩ => ⟨h1, h.frames h3 (by simp [ffp]) ⟨_, _, h2⟩, h3⟩
theorem st_Write_no (h : St w0 w B fs ps held base now) (hi : Inv fs ps held base now) {p : Nat} (hp : p < 8) (hh : held[p]? = some false) (off : Int) (v : Value) :
    Calls Tryd.prog 13 #[.pointer (some ⟨B.f, 0, none⟩), .int .i64 p, .int .i64 off, v] w fun e w' => e = .returned (.int .i64 17) ∧ Only [] w w' := by
  obtain ⟨hand, hs, hf⟩ := h.fr
  exact frames_Write_none hf p off v (hi.find_no hp hh)
theorem st_Write_ok (h : St w0 w B fs ps held base now) (hi : Inv fs ps held base now) {p : Nat} (hp : p < 8) (hh : held[p]? = some true) (off : Int) (v : Value) (d : List Int) (hv : ReadsB w v d) (hx : fitsP off d.length) (n : B32) (hn : now[p]? = some n) :
    Calls Tryd.prog 13 #[.pointer (some ⟨B.f, 0, none⟩), .int .i64 p, .int .i64 off, v] w fun e w' => e = .returned (.int .i64 0) ∧ Only [B.pb, B.fb] w w' ∧ ∃ fs2 ps2, St w0 w' B fs2 ps2 held base now ∧ Inv fs2 ps2 held base (now.set p ⟨updP n.l off d, updP_len n.h hx⟩) := by
  obtain ⟨hand, hs, hf⟩ := h.fr
  obtain ⟨i, F, P, h1, h2, h3, h4⟩ := hi.find_yes hp hh
  obtain ⟨b, hb⟩ : ∃ b, base[p]? = some b := ⟨base[p]'(by rw [hi.bl]; exact hp), List.getElem?_eq_getElem _⟩
  have hs1 := hi.same p i F P b n h2 h3 h4 hb hn
  refine (frames_Write_ok hf p off v d i P F h1 h4 h2 (by omega) hv hx).mono fun e w' ⟨h5, h6, h7⟩ => ⟨h5, h7, _, _, h.frames h7 (by simp [ffp]) ⟨_, _, h6⟩, ?_⟩
  have := hi.turn hp h2 h3 true ⟨P.base, updP P.now off d, P.hb, updP_len P.hn hx⟩ b ⟨updP n.l off d, updP_len n.h hx⟩ hs1.1 (by simp only [hs1.2])
  rwa [set_same hb] at this
theorem st_Clean (h : St w0 w B fs ps held base now) (hi : Inv fs ps held base now) {p : Nat} (hp : p < 8) (n : B32) (hn : now[p]? = some n) :
    Calls Tryd.prog 14 #[.pointer (some ⟨B.f, 0, none⟩), .int .i64 p] w fun e w' => e = .returned (.tuple #[]) ∧ Only [B.pb] w w' ∧ ∃ ps2, St w0 w' B fs ps2 held base now ∧ Inv fs ps2 held (base.set p n) now := by
  obtain ⟨hand, hs, hf⟩ := h.fr
  have hhp : p < held.length := by rw [hi.hl]; exact hp
  cases hh : held[p] with
  | false =>
    have hh' : held[p]? = some false := by rw [List.getElem?_eq_getElem hhp, hh]
    refine (frames_Clean_no hf p (hi.find_no hp hh')).mono fun e w' ⟨h1, h2⟩ => ⟨h1, h2.mono (by simp), ps, h.only h2, ?_⟩
    have := hi.off hp hh' n n
    rwa [set_same hn] at this
  | true =>
    have hh' : held[p]? = some true := by rw [List.getElem?_eq_getElem hhp, hh]
    obtain ⟨i, F, P, h1, h2, h3, h4⟩ := hi.find_yes hp hh'
    obtain ⟨b, hb⟩ : ∃ b, base[p]? = some b := ⟨base[p]'(by rw [hi.bl]; exact hp), List.getElem?_eq_getElem _⟩
    have hs1 := hi.same p i F P b n h2 h3 h4 hb hn
    refine (frames_Clean_ok hf p i P h1 h4).mono fun e w' ⟨h5, h6, h7⟩ => ⟨h5, h7, _, h.frames h7 (by simp [ffp]) ⟨_, _, h6⟩, ?_⟩
    have := hi.turn hp h2 h3 F.mark ⟨P.now, P.now, P.hn, P.hn⟩ n n hs1.2 hs1.2
    rwa [set_same hn, set_same h2] at this
theorem st_Page_no (h : St w0 w B fs ps held base now) (hi : Inv fs ps held base now) {p : Nat} (hp : p < 8) (hh : held[p]? = some false) :
    Calls Tryd.prog 15 #[.pointer (some ⟨B.f, 0, none⟩), .int .i64 p] w fun e w' => e = .returned (.tuple #[.agg (by8 zeroP).toArray, .agg (by8 zeroP).toArray, .bool false]) ∧ Only [] w w' := by
  obtain ⟨hand, hs, hf⟩ := h.fr
  exact frames_Page_no hf p (hi.find_no hp hh)
theorem st_Page_ok (h : St w0 w B fs ps held base now) (hi : Inv fs ps held base now) {p : Nat} (hp : p < 8) (hh : held[p]? = some true) (b n : B32) (hb : base[p]? = some b) (hn : now[p]? = some n) :
    Calls Tryd.prog 15 #[.pointer (some ⟨B.f, 0, none⟩), .int .i64 p] w fun e w' => e = .returned (.tuple #[.agg (by8 b.l).toArray, .agg (by8 n.l).toArray, .bool true]) ∧ Only [] w w' := by
  obtain ⟨hand, hs, hf⟩ := h.fr
  obtain ⟨i, F, P, h1, h2, h3, h4⟩ := hi.find_yes hp hh
  have hs1 := hi.same p i F P b n h2 h3 h4 hb hn
  have := frames_Page_ok hf p i P h1 h4
  rwa [← hs1.1, ← hs1.2] at this
theorem st_Dirty (h : St w0 w B fs ps held base now) (hi : Inv fs ps held base now) :
    Calls Tryd.prog 16 #[.pointer (some ⟨B.f, 0, none⟩)] w fun e w' => ∃ v, e = .returned v ∧ OwnI w' v (wantL held base now) ∧ Only [] w w' := by
  obtain ⟨hand, hs, hf⟩ := h.fr
  have := frames_Dirty hf (by rw [hi.n4]; decide)
  rw [hi.dirty] at this
  exact this.mono fun e w' ⟨v, h1, h2, h3, _⟩ => ⟨v, h1, h2, h3⟩
end
end Go.Proofs.YtbfgpghfofmanaaDoor
