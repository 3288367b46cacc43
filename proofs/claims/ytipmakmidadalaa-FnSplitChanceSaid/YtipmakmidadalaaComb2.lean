/-
  Plain laws: how many ways there are to choose k of the numbers so that their sum is as asked; in any order; the other numbers; how many ways in all.
-/
import Derived.Test.YtipmakmidadalaaComb
namespace Go.Proofs.Ytipmakmidadalaa
open Go.RowKit

/-- How many ways there are to choose k numbers of the list whose sum is as P asks. -/
def waysN : List Int → Nat → (Int → Bool) → Int
  | _, 0, P => b2i (P 0)
  | [], _ + 1, _ => 0
  | x :: xs, k + 1, P => waysN xs k (fun s => P (x + s)) + waysN xs (k + 1) P
theorem waysN_zero (xs : List Int) (P : Int → Bool) : waysN xs 0 P = b2i (P 0) := by cases xs <;> rfl
theorem waysN_nil (k : Nat) (P : Int → Bool) : waysN [] (k + 1) P = 0 := rfl
theorem waysN_cons (x : Int) (xs : List Int) (k : Nat) (P : Int → Bool) : waysN (x :: xs) (k + 1) P = waysN xs k (fun s => P (x + s)) + waysN xs (k + 1) P := rfl
theorem waysN_long (xs : List Int) : ∀ (k : Nat) (P : Int → Bool), xs.length < k → waysN xs k P = 0 := by
  induction xs with
  | nil => intro k P h; cases k with
    | zero => simp at h
    | succ k => rfl
  | cons x xs ih => intro k P h; cases k with
    | zero => simp at h
    | succ k =>
      simp only [List.length_cons] at h
      rw [waysN_cons, ih k _ (by omega), ih (k + 1) _ (by omega)]
      rfl
theorem waysN_perm {xs ys : List Int} (h : xs.Perm ys) : ∀ (k : Nat) (P : Int → Bool), waysN xs k P = waysN ys k P := by
  induction h with
  | nil => intro k P; rfl
  | cons x _ ih => intro k P; cases k with
    | zero => simp only [waysN_zero]
    | succ k => rw [waysN_cons, waysN_cons, ih, ih]
  | swap x y l =>
    intro k P
    cases k with
    | zero => simp only [waysN_zero]
    | succ k => cases k with
      | zero => simp only [waysN_cons, waysN_zero]; omega
      | succ k =>
        have : (fun s => P (y + (x + s))) = fun s => P (x + (y + s)) := by funext s; congr 1; omega
        simp only [waysN_cons, this]
        omega
  | trans _ _ ih1 ih2 => intro k P; rw [ih1, ih2]
/-- The others: as many ways to leave out as to take. -/
theorem waysN_rest (xs : List Int) : ∀ (k : Nat) (P : Int → Bool), k ≤ xs.length → waysN xs (xs.length - k) P = waysN xs k fun s => P (sumL xs - s) := by
  induction xs with
  | nil =>
    intro k P h
    simp only [List.length_nil, Nat.le_zero] at h
    subst h
    simp [waysN_zero, sumL_nil]
  | cons x xs ih =>
    intro k P h
    rw [List.length_cons] at h ⊢
    rw [sumL_cons]
    cases k with
    | zero =>
      rw [Nat.sub_zero, waysN_cons, waysN_long xs _ P (by omega), waysN_zero]
      have := ih 0 (fun s => P (x + s)) (Nat.zero_le _)
      rw [Nat.sub_zero, waysN_zero] at this
      rw [this]
      simp
    | succ k =>
      have e : xs.length + 1 - (k + 1) = xs.length - k := by omega
      rw [e, waysN_cons]
      have f1 : (fun s => P (x + sumL xs - (x + s))) = fun s => P (sumL xs - s) := by funext s; congr 1; omega
      rw [f1]
      by_cases hk : k = xs.length
      · subst hk
        rw [Nat.sub_self, waysN_zero, waysN_long xs (xs.length + 1) _ (by omega)]
        have := ih xs.length P (Nat.le_refl _)
        rw [Nat.sub_self, waysN_zero] at this
        omega
      · obtain ⟨j, hj⟩ : ∃ j, xs.length - k = j + 1 := ⟨xs.length - k - 1, by omega⟩
        rw [hj, waysN_cons]
        have a := ih (k + 1) (fun s => P (x + s)) (by omega)
        have b := ih k P (by omega)
        rw [show xs.length - (k + 1) = j from by omega] at a
        rw [hj] at b
        rw [a, b]
        have f2 : (fun s => P (x + (sumL xs - s))) = fun s => P (x + sumL xs - s) := by funext s; congr 1; omega
        rw [f2]
        omega
theorem waysN_le (xs : List Int) : ∀ (k : Nat) (P Q : Int → Bool), (∀ s, P s = true → Q s = true) → 0 ≤ waysN xs k P ∧ waysN xs k P ≤ waysN xs k Q := by
  have hb : ∀ p q : Bool, (p = true → q = true) → b2i p ≤ b2i q := by intro p q; cases p <;> cases q <;> simp [b2i]
  induction xs with
  | nil => intro k P Q h; cases k with
    | zero => rw [waysN_zero, waysN_zero]; exact ⟨(b2i_bd _).1, hb _ _ (h 0)⟩
    | succ k => simp [waysN_nil]
  | cons x xs ih => intro k P Q h; cases k with
    | zero => rw [waysN_zero, waysN_zero]; exact ⟨(b2i_bd _).1, hb _ _ (h 0)⟩
    | succ k =>
      rw [waysN_cons, waysN_cons]
      have a := ih k (fun s => P (x + s)) (fun s => Q (x + s)) fun s => h (x + s)
      have b := ih (k + 1) P Q h
      omega
/-- Two questions of which each sum answers one at least, and the sum t answers both. -/
theorem waysN_more (xs : List Int) : ∀ (k : Nat) (P Q : Int → Bool), (∀ s, P s = true ∨ Q s = true) → waysN xs k (fun _ => true) ≤ waysN xs k P + waysN xs k Q := by
  have hb : ∀ p q : Bool, (p = true ∨ q = true) → 1 ≤ b2i p + b2i q := by intro p q; cases p <;> cases q <;> simp [b2i]
  induction xs with
  | nil => intro k P Q h; cases k with
    | zero => rw [waysN_zero, waysN_zero, waysN_zero]; exact hb _ _ (h 0)
    | succ k => simp [waysN_nil]
  | cons x xs ih => intro k P Q h; cases k with
    | zero => rw [waysN_zero, waysN_zero, waysN_zero]; exact hb _ _ (h 0)
    | succ k =>
      rw [waysN_cons, waysN_cons, waysN_cons]
      have a := ih k (fun s => P (x + s)) (fun s => Q (x + s)) fun s => h (x + s)
      have b := ih (k + 1) P Q h
      omega
theorem waysN_front (xs ys : List Int) : ∀ P Q : Int → Bool, (∀ s, P s = true ∨ Q s = true) → P (sumL xs) = true → Q (sumL xs) = true → waysN (xs ++ ys) xs.length (fun _ => true) + 1 ≤ waysN (xs ++ ys) xs.length P + waysN (xs ++ ys) xs.length Q := by
  induction xs with
  | nil =>
    intro P Q _ hp hq
    rw [sumL_nil] at hp hq
    simp only [List.nil_append, List.length_nil, waysN_zero, hp, hq]
    decide
  | cons x xs ih =>
    intro P Q h hp hq
    rw [sumL_cons] at hp hq
    rw [List.cons_append, List.length_cons, waysN_cons, waysN_cons, waysN_cons]
    have a := ih (fun s => P (x + s)) (fun s => Q (x + s)) (fun s => h (x + s)) hp hq
    have b := waysN_more (xs ++ ys) (xs.length + 1) P Q h
    omega
theorem waysN_one (xs ys : List Int) : ∀ P : Int → Bool, P (sumL xs) = true → 1 ≤ waysN (xs ++ ys) xs.length P := by
  induction xs with
  | nil => intro P hp; rw [sumL_nil] at hp; simp only [List.nil_append, List.length_nil, waysN_zero, hp]; decide
  | cons x xs ih =>
    intro P hp
    rw [sumL_cons] at hp
    rw [List.cons_append, List.length_cons, waysN_cons]
    have a := ih (fun s => P (x + s)) hp
    have b := (waysN_le (xs ++ ys) (xs.length + 1) P P fun _ h => h).1
    omega

/-- How many ways there are to choose k of n. -/
def pasc : Nat → Nat → Int
  | _, 0 => 1
  | 0, _ + 1 => 0
  | n + 1, k + 1 => pasc n k + pasc n (k + 1)
theorem pasc_zero (n : Nat) : pasc n 0 = 1 := by cases n <;> rfl
theorem waysN_all (xs : List Int) : ∀ k, waysN xs k (fun _ => true) = pasc xs.length k := by
  induction xs with
  | nil => intro k; cases k <;> rfl
  | cons x xs ih => intro k; cases k with
    | zero => rw [waysN_zero, pasc_zero]; rfl
    | succ k => rw [waysN_cons, ih, ih]; rfl
/-- The product that both texts reckon. -/
def chooseTo (n : Int) : Nat → Int
  | 0 => 1
  | i + 1 => chooseTo n i * (n - i) / (i + 1)
theorem choose_pasc : ∀ n : Nat, n ≤ 10 → ∀ k : Nat, k ≤ n → chooseTo (n : Int) k = pasc n k ∧ pasc n (n - k) = pasc n k ∧ 0 ≤ pasc n k ∧ pasc n k ≤ 252 := by
  intro n hn
  have : n = 0 ∨ n = 1 ∨ n = 2 ∨ n = 3 ∨ n = 4 ∨ n = 5 ∨ n = 6 ∨ n = 7 ∨ n = 8 ∨ n = 9 ∨ n = 10 := by omega
  rcases this with rfl | rfl | rfl | rfl | rfl | rfl | rfl | rfl | rfl | rfl | rfl <;> decide

/-- How many places of s there are below n, and the sum of the numbers there. -/
def bitN (s k : Nat) : Int := sumTo (fun i => b2i (s.testBit i)) k
def bitSum (xs : List Int) (s k : Nat) : Int := sumTo (fun i => if s.testBit i then atL xs i else 0) k
theorem bitN_even (q n : Nat) : bitN (2 * q) (n + 1) = bitN q n := by
  rw [bitN, sumTo_shift, bit_even]
  have : sumTo (fun i => b2i ((2 * q).testBit (i + 1))) n = bitN q n := sumTo_congr fun i _ => by rw [bit_even_succ]
  rw [this]
  simp [b2i]
theorem bitN_odd (q n : Nat) : bitN (2 * q + 1) (n + 1) = 1 + bitN q n := by
  rw [bitN, sumTo_shift, bit_odd]
  have : sumTo (fun i => b2i ((2 * q + 1).testBit (i + 1))) n = bitN q n := sumTo_congr fun i _ => by rw [bit_odd_succ]
  rw [this]
  simp [b2i]
theorem bitSum_even (x : Int) (xs : List Int) (q n : Nat) : bitSum (x :: xs) (2 * q) (n + 1) = bitSum xs q n := by
  rw [bitSum, sumTo_shift, bit_even]
  have : sumTo (fun i => if (2 * q).testBit (i + 1) then atL (x :: xs) (i + 1) else 0) n = bitSum xs q n := sumTo_congr fun i _ => by rw [bit_even_succ, at_cons_succ]
  rw [this]
  simp
theorem bitSum_odd (x : Int) (xs : List Int) (q n : Nat) : bitSum (x :: xs) (2 * q + 1) (n + 1) = x + bitSum xs q n := by
  rw [bitSum, sumTo_shift, bit_odd, at_cons_zero]
  have : sumTo (fun i => if (2 * q + 1).testBit (i + 1) then atL (x :: xs) (i + 1) else 0) n = bitSum xs q n := sumTo_congr fun i _ => by rw [bit_odd_succ, at_cons_succ]
  rw [this]
  simp
theorem bitN_nonneg (s k : Nat) : 0 ≤ bitN s k := sumTo_zero_le fun _ _ => (b2i_bd _).1
theorem waysN_sum (xs : List Int) : ∀ (k : Nat) (P : Int → Bool), waysN xs k P = sumTo (fun s => b2i (decide (bitN s xs.length = k) && P (bitSum xs s xs.length))) (2 ^ xs.length) := by
  induction xs with
  | nil =>
    intro k P
    cases k with
    | zero => simp [waysN_zero, sumTo, bitN, bitSum]
    | succ k =>
      simp only [waysN_nil, List.length_nil, Nat.pow_zero, sumTo, bitN]
      have : decide ((0 : Int) = ((k + 1 : Nat) : Int)) = false := decide_eq_false (by omega)
      rw [this]
      rfl
  | cons x xs ih =>
    intro k P
    rw [List.length_cons, sumTo_pow]
    simp only [bitN_even, bitN_odd, bitSum_even, bitSum_odd]
    cases k with
    | zero =>
      have hz : sumTo (fun q => b2i (decide (1 + bitN q xs.length = ((0 : Nat) : Int)) && P (x + bitSum xs q xs.length))) (2 ^ xs.length) = sumTo (fun _ => 0) (2 ^ xs.length) := sumTo_congr fun q _ => by
        have := bitN_nonneg q xs.length
        rw [decide_eq_false (by omega)]
        rfl
      rw [hz, sumTo_const, waysN_zero, ← waysN_zero xs P, ih 0 P]
      omega
    | succ k =>
      rw [waysN_cons, ih k, ih (k + 1)]
      have : sumTo (fun q => b2i (decide (1 + bitN q xs.length = ((k + 1 : Nat) : Int)) && P (x + bitSum xs q xs.length))) (2 ^ xs.length) = sumTo (fun s => b2i (decide (bitN s xs.length = (k : Int)) && P (x + bitSum xs s xs.length))) (2 ^ xs.length) := sumTo_congr fun q _ => by
        congr 2
        rw [decide_eq_decide]
        omega
      rw [this]
      omega
/-- What is asked of the two counts of splits. -/
theorem split_facts (xs ys : List Int) : 1 ≤ waysN (xs ++ ys) xs.length (fun s => decide (sumL xs ≤ s)) ∧ waysN (xs ++ ys) xs.length (fun s => decide (sumL xs ≤ s)) ≤ waysN (xs ++ ys) xs.length (fun _ => true) ∧
    waysN (ys ++ xs) ys.length (fun _ => true) = waysN (xs ++ ys) xs.length (fun _ => true) ∧ waysN (xs ++ ys) xs.length (fun _ => true) < waysN (xs ++ ys) xs.length (fun s => decide (sumL xs ≤ s)) + waysN (ys ++ xs) ys.length (fun s => decide (sumL ys ≤ s)) := by
  have hp : (ys ++ xs).Perm (xs ++ ys) := List.perm_append_comm
  have hr : ∀ P : Int → Bool, waysN (ys ++ xs) ys.length P = waysN (xs ++ ys) xs.length fun s => P (sumL (xs ++ ys) - s) := fun P => by
    rw [waysN_perm hp]
    have := waysN_rest (xs ++ ys) xs.length P (by simp)
    rw [show (xs ++ ys).length - xs.length = ys.length from by simp] at this
    exact this
  have h1 := waysN_one xs ys (fun s => decide (sumL xs ≤ s)) (by simp)
  have h2 := (waysN_le (xs ++ ys) xs.length (fun s => decide (sumL xs ≤ s)) (fun _ => true) (fun _ _ => rfl)).2
  have h3 := waysN_front xs ys (fun s => decide (sumL xs ≤ s)) (fun s => decide (sumL ys ≤ sumL (xs ++ ys) - s)) (fun s => by
    rw [sumL_append]
    by_cases h : sumL xs ≤ s
    · left; simpa using h
    · right; simp only [decide_eq_true_eq]; omega) (by simp) (by rw [sumL_append]; simp only [decide_eq_true_eq]; omega)
  refine ⟨h1, h2, hr _, ?_⟩
  rw [hr]
  omega
end Go.Proofs.Ytipmakmidadalaa
