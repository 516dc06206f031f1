/-
  The law PinsApart: its walk, over a plain machine.
-/
import Derived.Test.YtfcekldlgcdgnaaPinsD
namespace Go.Proofs.Ytfcekldlgcdgnaa
open Go.RowKit Go.Sort

/-- One step of one session, of what it has. -/
structure Stp where
  drop : Bool
  session : Int
  page : Int
def stepL (l : List Int) (x : Stp) : List Int := if x.drop then dropL l x.page else addL l x.page
def runL (xs : List Stp) : List Int := xs.foldl stepL []
theorem Fine.step {l : List Int} (h : Fine l) (x : Stp) : Fine (stepL l x) := by unfold stepL; split; exact h.drop _; exact h.add _
theorem runL_fine (xs : List Stp) : Fine (runL xs) := by
  have : ∀ (xs : List Stp) (l : List Int), Fine l → Fine (xs.foldl stepL l) := by
    intro xs
    induction xs with
    | nil => intro l h; exact h
    | cons x xs ih => intro l h; exact ih _ (h.step x)
  exact this xs [] Fine.nil
theorem runL_snoc (xs : List Stp) (k : Nat) (x : Stp) (h : xs[k]? = some x) : runL (xs.take (k + 1)) = stepL (runL (xs.take k)) x := by
  unfold runL; rw [List.take_add_one, h, List.foldl_append]; rfl
theorem runL_stay (xs : List Stp) (k : Nat) (h : xs.length ≤ k) : runL (xs.take (k + 1)) = runL (xs.take k) := by
  rw [List.take_of_length_le (by omega), List.take_of_length_le h]

/-- A slice of steps. -/
def ReadsS (w : World) (v : Value) (l : List Stp) : Prop :=
  ∃ A c, v = .slice A l.length c ∧ ∀ j x, l[j]? = some x → ∃ b off, A = some ⟨b, off, none⟩ ∧ w.cell? ⟨b, off + j * 3, none⟩ = some (.bool x.drop) ∧
    w.cell? ⟨b, off + j * 3 + 1, none⟩ = some (.int .i64 x.session) ∧ w.cell? ⟨b, off + j * 3 + 2, none⟩ = some (.int .i64 x.page)

def two (x y : List Int) : Nat → List Int := fun i => if i = 0 then x else if i = 1 then y else []
theorem upd_two0 (x y z : List Int) : upd (two x y) 0 z = two z y := by funext j; unfold upd two; split <;> rfl
theorem upd_two1 (x y z : List Int) : upd (two x y) 1 z = two x z := by
  funext j; unfold upd two
  by_cases h0 : j = 0
  · subst h0; rfl
  · by_cases h1 : j = 1
    · subst h1; rfl
    · simp [h0, h1]
theorem l0_two : l0 = two [] [] := by funext j; unfold l0 two; split <;> simp

/-- Two pins, apart, both new since w; the blocks of av are none of theirs. -/
def Two (w w2 : World) (p q p2 q2 : Nat) (ls ls2 : Nat → List Int) (av : List Nat) : Prop :=
  ∃ ss ss2, PinsAt w2 p q ss ls ∧ PinsAt w2 p2 q2 ss2 ls2 ∧ Only [] w w2 ∧ (∀ b ∈ fp p q ss, w.heap.size ≤ b) ∧ (∀ b ∈ fp p2 q2 ss2, w.heap.size ≤ b) ∧ (∀ b ∈ fp p q ss, b ∉ fp p2 q2 ss2) ∧
    (∀ b ∈ av, b < w2.heap.size ∧ b ∉ fp p q ss ∧ b ∉ fp p2 q2 ss2)
section
variable {w w2 w3 : World} {p q p2 q2 : Nat} {ls ls2 ls3 : Nat → List Int} {av : List Nat}
theorem Two.same (h : Two w w2 p q p2 q2 ls ls2 av) (ho : Only [] w2 w3) : Two w w3 p q p2 q2 ls ls2 av := by
  obtain ⟨ss, ss2, h1, h2, h3, h4, h5, h6, h7⟩ := h
  exact ⟨ss, ss2, h1.only ho (by simp), h2.only ho (by simp), h3.trans ho (by simp), h4, h5, h6, fun b hb => ⟨Nat.lt_of_lt_of_le (h7 b hb).1 ho.size, (h7 b hb).2⟩⟩
theorem Two.less (h : Two w w2 p q p2 q2 ls ls2 av) : Two w w2 p q p2 q2 ls ls2 [] := by
  obtain ⟨ss, ss2, h1, h2, h3, h4, h5, h6, h7⟩ := h
  exact ⟨ss, ss2, h1, h2, h3, h4, h5, h6, by simp⟩
theorem Two.alloc (h : Two w w2 p q p2 q2 ls ls2 []) (o : Obj) : Two w (w2.alloc o) p q p2 q2 ls ls2 [w2.heap.size] := by
  obtain ⟨ss, ss2, h1, h2, h3, h4, h5, h6, h7⟩ := h
  have ho : Only [] w2 (w2.alloc o) := (Only.refl [] _).alloc o
  refine ⟨ss, ss2, h1.only ho (by simp), h2.only ho (by simp), h3.trans ho (by simp), h4, h5, h6, fun b hb => ?_⟩
  obtain rfl : b = w2.heap.size := by simpa using hb
  exact ⟨by simp, fun hm => Nat.lt_irrefl _ (h1.lt _ hm), fun hm => Nat.lt_irrefl _ (h2.lt _ hm)⟩
theorem Two.swap (h : Two w w2 p q p2 q2 ls ls2 av) : Two w w2 p2 q2 p q ls2 ls av := by
  obtain ⟨ss, ss2, h1, h2, h3, h4, h5, h6, h7⟩ := h
  exact ⟨ss2, ss, h2, h1, h3, h5, h4, fun b hb hb2 => h6 b hb2 hb, fun b hb => ⟨(h7 b hb).1, (h7 b hb).2.2, (h7 b hb).2.1⟩⟩
theorem Two.only (h : Two w w2 p q p2 q2 ls ls2 av) : Only [] w w2 := by
  obtain ⟨ss, ss2, h1, h2, h3, h4, h5, h6, h7⟩ := h; exact h3

theorem Two.fst {f : FuncId} {args : Array Value} {r : Value} (h : Two w w2 p q p2 q2 ls ls2 av)
    (hc : ∀ ss, PinsAt w2 p q ss ls → Calls Try.prog f args w2 fun e w' => e = .returned r ∧ PinsNext w2 w' p q ss ls3) :
    Calls Try.prog f args w2 fun e w' => e = .returned r ∧ Two w w' p q p2 q2 ls3 ls2 av ∧ ∀ b ∈ av, w'.heap[b]? = w2.heap[b]? := by
  obtain ⟨ss, ss2, h1, h2, h3, h4, h5, h6, h7⟩ := h
  refine (hc ss h1).mono ?_
  rintro e w' ⟨he, ss3, k1, k2, k3⟩
  have hs := h3.size
  refine ⟨he, ⟨ss3, ss2, k1, h2.only k2 h6, h3.trans k2 (fun b hb => .inr (h4 b hb)), fun b hb => ?_, h5, fun b hb hb2 => ?_, fun b hb => ⟨Nat.lt_of_lt_of_le (h7 b hb).1 k2.size, fun hm => ?_, (h7 b hb).2.2⟩⟩, fun b hb => k2.block b (h7 b hb).1 (h7 b hb).2.1⟩
  · rcases k3 b hb with e | e
    · exact h4 b e
    · omega
  · rcases k3 b hb with e | e
    · exact h6 b e hb2
    · have := h2.lt b hb2; omega
  · have hlt := (h7 b hb).1
    rcases k3 b hm with e | e
    · exact (h7 b hb).2.1 e
    · omega
theorem Two.snd {f : FuncId} {args : Array Value} {r : Value} (h : Two w w2 p q p2 q2 ls ls2 av)
    (hc : ∀ ss, PinsAt w2 p2 q2 ss ls2 → Calls Try.prog f args w2 fun e w' => e = .returned r ∧ PinsNext w2 w' p2 q2 ss ls3) :
    Calls Try.prog f args w2 fun e w' => e = .returned r ∧ Two w w' p q p2 q2 ls ls3 av ∧ ∀ b ∈ av, w'.heap[b]? = w2.heap[b]? :=
  (h.swap.fst hc).mono fun _ _ ⟨he, h2, h3⟩ => ⟨he, h2.swap, h3⟩
end

theorem two_new (w : World) : Calls Try.prog 5 #[.int .i64 2] w fun e w' => ∃ p q, e = .returned (.tuple #[.pointer (some ⟨p, 0, none⟩), .int .i64 0]) ∧ PinsNew w w' p q (two [] []) := by
  refine (pins_New2 w).mono ?_
  rintro e w1 ⟨p, q, he, hP, ho, hp, hq⟩
  rw [← l0_two]
  exact ⟨p, q, he, _, hP, ho, by intro b hb; simp [fp, Value.ownBlock] at hb; omega⟩
theorem two_start {w w1 w2 : World} {p q p2 q2 : Nat} {ls ls2 : Nat → List Int} (h : PinsNew w w1 p q ls) (h2 : PinsNew w1 w2 p2 q2 ls2) : Two w w2 p q p2 q2 ls ls2 [] := by
  obtain ⟨ss, a1, a2, a3⟩ := h
  obtain ⟨ss2, b1, b2, b3⟩ := h2
  refine ⟨ss, ss2, a1.only b2 (by simp), b1, a2.trans b2 (by simp), a3, fun b hb => ?_, fun b hb hb2 => ?_, by simp⟩
  · have := b3 b hb; have := a2.size; omega
  · have := a1.lt b hb; have := b3 b hb2; omega
theorem runL_len0 (xs : List Stp) : (runL xs).length ≤ 16 := (runL_fine xs).1
theorem runL_len (xs : List Stp) (k : Nat) (x : Stp) (_h : xs[k]? = some x) : (stepL (runL (xs.take k)) x).length ≤ 16 := ((runL_fine _).step x).1
/-- All pages' counts, added up. -/
def tot (ls : Nat → List Int) : Nat → Nat
  | 0 => 0
  | j + 1 => tot ls j + cnt ls j 2
theorem tot_le (ls : Nat → List Int) (hl : ∀ i, i < 2 → (ls i).length ≤ 16) : ∀ j, tot ls j ≤ 32 * j
  | 0 => Nat.le_refl _
  | j + 1 => by
    have h1 := tot_le ls hl j
    have h2 := cnt_le ls j hl 2 (Nat.le_refl _)
    simp only [tot]
    omega
def csum (x : List Int) : Nat → Nat
  | 0 => 0
  | j + 1 => csum x j + x.count (j : Int)
theorem csum_nil : ∀ j, csum [] j = 0
  | 0 => rfl
  | j + 1 => by simp [csum, csum_nil j]
theorem csum_cons (a : Int) (x : List Int) : ∀ j : Nat, csum (a :: x) j = csum x j + (if 0 ≤ a ∧ a < j then 1 else 0)
  | 0 => by simp [csum]
  | j + 1 => by
    simp only [csum, csum_cons a x j, List.count_cons]
    by_cases h1 : a = j
    · subst h1
      rw [if_neg (by omega), if_pos (by simp), if_pos (by omega)]
      omega
    · have h2 : (a == (j : Int)) = false := by simpa using h1
      rw [h2]
      simp only [Bool.false_eq_true, if_false, Nat.add_zero]
      by_cases h3 : 0 ≤ a ∧ a < j
      · rw [if_pos h3, if_pos (by omega)]; omega
      · rw [if_neg h3, if_neg (by omega)]; omega
theorem csum_all (x : List Int) (h : ∀ a ∈ x, 0 ≤ a ∧ a < 64) : csum x 64 = x.length := by
  induction x with
  | nil => exact csum_nil 64
  | cons a x ih =>
    rw [csum_cons, ih (fun b hb => h b (List.mem_cons_of_mem _ hb)), if_pos (by have := h a (by simp); omega)]
    rfl
theorem tot_csum (x y : List Int) : ∀ j, tot (two x y) j = csum x j + csum y j
  | 0 => rfl
  | j + 1 => by
    simp only [tot, csum, tot_csum x y j, cnt]
    simp only [two]
    simp
    omega
theorem tot_all (x y : List Int) (hx : Fine x) (hy : Fine y) : tot (two x y) 64 = x.length + y.length := by
  rw [tot_csum, csum_all x hx.2, csum_all y hy.2]
theorem sum_bd (a b : Nat) (ha : a ≤ 16) (hb : b ≤ 16) : a + b ≤ 32 := by omega
end Go.Proofs.Ytfcekldlgcdgnaa
