/-
  Plain laws: counts over all sets of places, told by the bits of a number, are counts by the numbers' list.
-/
import Derived.Test.YtipmakmidadalaaSum
import Derived.Test.YtipmakmidadalaaHelp
namespace Go.Proofs.Ytipmakmidadalaa
open Go.RowKit

/-- A Bool as a number. -/
def b2i (b : Bool) : Int := if b then 1 else 0
theorem b2i_bd (b : Bool) : 0 ≤ b2i b ∧ b2i b ≤ 1 := by cases b <;> simp [b2i]
theorem sumTo_shift (f : Nat → Int) (n : Nat) : sumTo f (n + 1) = f 0 + sumTo (fun i => f (i + 1)) n := by
  induction n with
  | zero => simp [sumTo]
  | succ n ih => rw [sumTo_succ, ih, sumTo_succ]; omega
theorem sumTo_double (f : Nat → Int) (n : Nat) : sumTo f (2 * n) = sumTo (fun q => f (2 * q) + f (2 * q + 1)) n := by
  induction n with
  | zero => rfl
  | succ n ih =>
    rw [show 2 * (n + 1) = 2 * n + 1 + 1 from by omega, sumTo_succ, sumTo_succ, ih, sumTo_succ]
    omega
theorem sumTo_pow (f : Nat → Int) (n : Nat) : sumTo f (2 ^ (n + 1)) = sumTo (fun q => f (2 * q)) (2 ^ n) + sumTo (fun q => f (2 * q + 1)) (2 ^ n) := by
  rw [Nat.pow_succ, Nat.mul_comm, sumTo_double, sumTo_add]
theorem bit_even (q : Nat) : (2 * q).testBit 0 = false := by simp [Nat.testBit_zero]
theorem bit_odd (q : Nat) : (2 * q + 1).testBit 0 = true := by simp [Nat.testBit_zero]
theorem bit_even_succ (q i : Nat) : (2 * q).testBit (i + 1) = q.testBit i := by rw [Nat.testBit_succ]; congr 1; omega
theorem bit_odd_succ (q i : Nat) : (2 * q + 1).testBit (i + 1) = q.testBit i := by rw [Nat.testBit_succ]; congr 1; omega
theorem at_cons_zero (x : Int) (xs : List Int) : atL (x :: xs) 0 = x := rfl
theorem at_cons_succ (x : Int) (xs : List Int) (i : Nat) : atL (x :: xs) (i + 1) = atL xs i := by simp [atL]
theorem sumTo_at (xs : List Int) : sumTo (atL xs) xs.length = sumL xs := by
  induction xs with
  | nil => rfl
  | cons x xs ih =>
    rw [List.length_cons, sumTo_shift, at_cons_zero, sumL_cons, ← ih]
    congr 1

theorem at_negL (ys : List Int) (i : Nat) : atL (negL ys) i = -atL ys i := by
  unfold atL
  by_cases h : i < ys.length
  · rw [getD_lt (by rw [negL_len]; exact h), getD_lt h]
    simp [negL]
  · rw [List.getD_eq_getElem?_getD, List.getD_eq_getElem?_getD, List.getElem?_eq_none (by rw [negL_len]; omega), List.getElem?_eq_none (by omega)]
    rfl

/-- The sum with the signs of the places in s turned. -/
def flipTo (xs : List Int) (s k : Nat) : Int := sumTo (fun i => if s.testBit i then -atL xs i else atL xs i) k
theorem flipTo_succ (xs : List Int) (s k : Nat) : flipTo xs s (k + 1) = flipTo xs s k + if s.testBit k then -atL xs k else atL xs k := rfl
theorem flipTo_even (x : Int) (xs : List Int) (q n : Nat) : flipTo (x :: xs) (2 * q) (n + 1) = x + flipTo xs q n := by
  rw [flipTo, sumTo_shift, bit_even, at_cons_zero]
  congr 1
  exact sumTo_congr fun i _ => by rw [bit_even_succ, at_cons_succ]
theorem flipTo_odd (x : Int) (xs : List Int) (q n : Nat) : flipTo (x :: xs) (2 * q + 1) (n + 1) = -x + flipTo xs q n := by
  rw [flipTo, sumTo_shift, bit_odd, at_cons_zero]
  congr 1
  exact sumTo_congr fun i _ => by rw [bit_odd_succ, at_cons_succ]
/-- How many choices of signs have at least a sum: as the reference counts. -/
def flipsN : List Int → Int → Int
  | [], t => b2i (decide (t ≤ 0))
  | x :: xs, t => flipsN xs (t - x) + flipsN xs (t + x)
theorem flipsN_sum (xs : List Int) : ∀ t, flipsN xs t = sumTo (fun s => b2i (decide (t ≤ flipTo xs s xs.length))) (2 ^ xs.length) := by
  induction xs with
  | nil => intro t; simp [flipsN, sumTo, flipTo]
  | cons x xs ih =>
    intro t
    rw [flipsN, ih, ih, List.length_cons, sumTo_pow]
    congr 1
    · exact sumTo_congr fun q _ => by rw [flipTo_even]; congr 1; rw [decide_eq_decide]; omega
    · exact sumTo_congr fun q _ => by rw [flipTo_odd]; congr 1; rw [decide_eq_decide]; omega
theorem flipTo_zero (xs : List Int) : flipTo xs 0 xs.length = sumL xs := by
  rw [← sumTo_at]
  exact sumTo_congr fun i _ => by simp
theorem flipTo_neg (xs : List Int) (s k : Nat) : flipTo (negL xs) s k = -flipTo xs s k := by
  rw [flipTo, flipTo, ← sumTo_neg]
  refine sumTo_congr fun i _ => ?_
  rw [at_negL]
  split <;> rfl
theorem sumTo_one_more {f : Nat → Int} {n : Nat} (h : ∀ k, k < n → 1 ≤ f k) (h0 : 2 ≤ f 0) (hn : 0 < n) : (n : Int) + 1 ≤ sumTo f n := by
  obtain ⟨m, rfl⟩ : ∃ m, n = m + 1 := ⟨n - 1, by omega⟩
  rw [sumTo_shift]
  have := sumTo_le (f := fun _ => 1) (g := fun i => f (i + 1)) (n := m) fun k hk => h (k + 1) (by omega)
  rw [sumTo_const] at this
  omega
/-- What is asked of the two counts of signs. -/
theorem flips_facts (xs : List Int) : 1 ≤ flipsN xs (sumL xs) ∧ flipsN xs (sumL xs) ≤ ((2 ^ xs.length : Nat) : Int) ∧ ((2 ^ xs.length : Nat) : Int) < flipsN xs (sumL xs) + flipsN (negL xs) (sumL (negL xs)) := by
  have hp : 0 < 2 ^ xs.length := Nat.two_pow_pos _
  have hT : sumL (negL xs) = -sumL xs := by
    rw [← sumTo_at, ← sumTo_at, negL_len, ← sumTo_neg]
    exact sumTo_congr fun i _ => at_negL xs i
  have e1 := flipsN_sum xs (sumL xs)
  have e2 := flipsN_sum (negL xs) (sumL (negL xs))
  rw [hT, negL_len] at e2
  have hle := (sumTo_bd (f := fun s => b2i (decide (sumL xs ≤ flipTo xs s xs.length))) (m := 1) (n := 2 ^ xs.length) fun k _ => by
    have := b2i_bd (decide (sumL xs ≤ flipTo xs k xs.length)); omega).2
  have hbig : ((2 ^ xs.length : Nat) : Int) + 1 ≤ flipsN xs (sumL xs) + flipsN (negL xs) (sumL (negL xs)) := by
    rw [hT, e1, e2, ← sumTo_add]
    refine sumTo_one_more (fun k _ => ?_) ?_ hp
    · simp only [flipTo_neg, b2i]
      split <;> split <;> simp_all <;> omega
    · simp only [flipTo_neg, flipTo_zero, b2i]
      simp
  have h1 : 1 ≤ flipsN xs (sumL xs) := by
    rw [e1]
    obtain ⟨m, hm⟩ : ∃ m, 2 ^ xs.length = m + 1 := ⟨2 ^ xs.length - 1, by omega⟩
    rw [hm, sumTo_shift, flipTo_zero]
    have := sumTo_zero_le (f := fun i => b2i (decide (sumL xs ≤ flipTo xs (i + 1) xs.length))) (n := m) fun k _ => (b2i_bd _).1
    simp only [b2i, Int.le_refl, decide_true, if_true] at this ⊢
    omega
  omega
end Go.Proofs.Ytipmakmidadalaa
