/-
  Plain laws: how many ways there are to choose k of n; powers; the sum of all terms of a power of a sum.
-/
import Derived.Test.YtgclgcfhcomplaaSum
namespace Go.Proofs.Ytgclgcfhcomplaa
open Go.RowKit

/-- How many ways there are to choose k of n. -/
def pasc : Nat → Nat → Int
  | _, 0 => 1
  | 0, _ + 1 => 0
  | n + 1, k + 1 => pasc n k + pasc n (k + 1)
theorem pasc_zero (n : Nat) : pasc n 0 = 1 := by cases n <;> rfl
theorem pasc_succ (n k : Nat) : pasc (n + 1) (k + 1) = pasc n k + pasc n (k + 1) := rfl
theorem pasc_none (k : Nat) : pasc 0 (k + 1) = 0 := rfl
theorem pasc_over : ∀ (n k : Nat), n < k → pasc n k = 0 := by
  intro n
  induction n with
  | zero => intro k h; cases k with
    | zero => omega
    | succ k => rfl
  | succ n ih => intro k h; cases k with
    | zero => omega
    | succ k => rw [pasc_succ, ih k (by omega), ih (k + 1) (by omega)]; rfl
theorem pasc_self (n : Nat) : pasc n n = 1 := by
  induction n with
  | zero => rfl
  | succ n ih => rw [pasc_succ, ih, pasc_over n (n + 1) (by omega)]; rfl
theorem pasc_bd : ∀ (n k : Nat), 0 ≤ pasc n k ∧ pasc n k ≤ ((2 ^ n : Nat) : Int) := by
  intro n
  induction n with
  | zero => intro k; cases k with
    | zero => simp [pasc]
    | succ k => simp [pasc]
  | succ n ih => intro k; cases k with
    | zero =>
      rw [pasc_zero]
      have := Nat.two_pow_pos (n + 1)
      omega
    | succ k =>
      have h1 := ih k
      have h2 := ih (k + 1)
      have e : ((2 ^ (n + 1) : Nat) : Int) = 2 * ((2 ^ n : Nat) : Int) := by rw [Nat.pow_succ]; omega
      rw [pasc_succ, e]
      omega
theorem pasc_pos : ∀ (n k : Nat), k ≤ n → 1 ≤ pasc n k := by
  intro n
  induction n with
  | zero => intro k h; have : k = 0 := by omega
            subst this; simp [pasc]
  | succ n ih => intro k h; cases k with
    | zero => rw [pasc_zero]; exact Int.le_refl _
    | succ k =>
      have h1 := ih k (by omega)
      have h2 := (pasc_bd n (k + 1)).1
      rw [pasc_succ]
      omega
theorem pasc_absorb : ∀ (m i : Nat), pasc (m + 1) (i + 1) * ((i : Int) + 1) = pasc m i * ((m : Int) + 1) := by
  intro m
  induction m with
  | zero => intro i; cases i with
    | zero => rfl
    | succ i => simp [pasc]
  | succ m ih => intro i; cases i with
    | zero =>
      have := ih 0
      rw [pasc_zero] at this
      rw [pasc_succ, pasc_zero]
      simp only [Int.natCast_add] at this ⊢
      omega
    | succ j =>
      have h1 := ih j
      have h2 := ih (j + 1)
      have h3 := pasc_succ m j
      rw [pasc_succ (m + 1) (j + 1), Int.add_mul]
      have e : ((j + 1 : Nat) : Int) + 1 = ((j : Int) + 1) + 1 := by omega
      have e2 : ((m + 1 : Nat) : Int) + 1 = ((m : Int) + 1) + 1 := by omega
      rw [h2, e, Int.mul_add (pasc (m + 1) (j + 1)), h1, e2, Int.mul_add (pasc (m + 1) (j + 1)) ((m : Int) + 1) 1, h3]
      simp only [Int.add_mul]
      omega
theorem pasc_next (n i : Nat) : pasc n (i + 1) * ((i : Int) + 1) = pasc n i * ((n : Int) - i) := by
  have h1 := pasc_absorb n i
  rw [pasc_succ, Int.add_mul, Int.mul_add (pasc n i) (i : Int) 1, Int.mul_add (pasc n i) (n : Int) 1] at h1
  rw [Int.mul_sub]
  omega
/-- One step of the product that the reference reckons. -/
theorem pasc_step (n i : Nat) : (pasc n i * ((n : Int) - i)).tdiv ((i : Int) + 1) = pasc n (i + 1) := by
  rw [← pasc_next]
  exact Int.mul_tdiv_cancel _ (by omega)
/-- One step of the product that the program reckons. -/
theorem pasc_step2 (m i : Nat) : (pasc m i * ((m : Int) + 1)).tdiv ((i : Int) + 1) = pasc (m + 1) (i + 1) := by
  rw [← pasc_absorb]
  exact Int.mul_tdiv_cancel _ (by omega)
theorem pasc_sym : ∀ (n k : Nat), k ≤ n → pasc n (n - k) = pasc n k := by
  intro n
  induction n with
  | zero => intro k h; have : k = 0 := by omega
            subst this; rfl
  | succ n ih =>
    intro k h
    cases k with
    | zero => rw [Nat.sub_zero, pasc_self, pasc_zero]
    | succ k =>
      by_cases hk : k = n
      · subst hk; rw [Nat.sub_self, pasc_zero, pasc_self]
      · obtain ⟨j, hj⟩ : ∃ j, n + 1 - (k + 1) = j + 1 := ⟨n - k - 1, by omega⟩
        rw [hj, pasc_succ, pasc_succ]
        have h1 := ih (k + 1) (by omega)
        have h2 := ih k (by omega)
        rw [show n - (k + 1) = j from by omega] at h1
        rw [show n - k = j + 1 from by omega] at h2
        omega

/-- Powers. -/
def powN (x : Int) : Nat → Int
  | 0 => 1
  | n + 1 => powN x n * x
theorem powN_succ (x : Int) (n : Nat) : powN x (n + 1) = powN x n * x := rfl
theorem powN_bd {x : Int} {m : Nat} (h : 0 ≤ x ∧ x ≤ m) : ∀ n : Nat, 0 ≤ powN x n ∧ powN x n ≤ ((m ^ n : Nat) : Int) := by
  intro n
  induction n with
  | zero => simp [powN]
  | succ n ih =>
    rw [powN_succ, Nat.pow_succ, Int.natCast_mul]
    exact ⟨Int.mul_nonneg ih.1 h.1, Int.mul_le_mul ih.2 h.2 h.1 (by omega)⟩
theorem powN_mono {x y : Int} (h0 : 0 ≤ x) (h : x ≤ y) (n : Nat) : 0 ≤ powN x n ∧ powN x n ≤ powN y n := by
  induction n with
  | zero => simp [powN]
  | succ n ih =>
    rw [powN_succ, powN_succ]
    exact ⟨Int.mul_nonneg ih.1 h0, Int.mul_le_mul ih.2 h h0 (by omega)⟩
/-- The ways with just k hits. -/
def termN (n k : Nat) (u w : Int) : Int := pasc n k * powN u k * powN w (n - k)
theorem binom (u w : Int) (n : Nat) : sumTo (fun k => termN n k u w) (n + 1) = powN (u + w) n := by
  induction n with
  | zero => simp [sumTo, termN, pasc, powN]
  | succ n ih =>
    have hshift : ∀ (f : Nat → Int) (n : Nat), sumTo f (n + 1) = f 0 + sumTo (fun i => f (i + 1)) n := by
      intro f n
      induction n with
      | zero => simp [sumTo]
      | succ n ih => rw [sumTo_succ, ih, sumTo_succ]; omega
    rw [hshift, powN_succ, ← ih, Int.mul_add]
    have e1 : sumTo (fun i => termN (n + 1) (i + 1) u w) (n + 1) = sumTo (fun k => termN n k u w * u) (n + 1) + sumTo (fun k => termN n (k + 1) u w * w) n := by
      rw [sumTo_succ (fun i => termN (n + 1) (i + 1) u w), sumTo_succ (fun k => termN n k u w * u)]
      have e2 : sumTo (fun i => termN (n + 1) (i + 1) u w) n = sumTo (fun k => termN n k u w * u) n + sumTo (fun k => termN n (k + 1) u w * w) n := by
        rw [← sumTo_add]
        refine sumTo_congr fun k hk => ?_
        obtain ⟨j, hj⟩ : ∃ j, n - k = j + 1 := ⟨n - k - 1, by omega⟩
        simp only [termN, pasc_succ, powN_succ, show n + 1 - (k + 1) = n - k from by omega, show n - (k + 1) = j from by omega, hj]
        rw [Int.add_mul, Int.add_mul]
        congr 1
        · simp only [Int.mul_assoc]; congr 2; rw [Int.mul_comm u]; simp only [Int.mul_assoc]
        · simp only [Int.mul_assoc]
      have e3 : termN (n + 1) (n + 1) u w = termN n n u w * u := by
        simp only [termN, pasc_self, Nat.sub_self, powN]
        simp
      rw [e2, e3]
      omega
    have e4 : termN (n + 1) 0 u w + sumTo (fun k => termN n (k + 1) u w * w) n = sumTo (fun k => termN n k u w * w) (n + 1) := by
      rw [hshift (fun k => termN n k u w * w)]
      congr 1
      simp only [termN, pasc_zero, Nat.sub_zero, powN_succ]
      simp only [powN]
      simp
    have m1 : ∀ (c : Int), sumTo (fun k => termN n k u w * c) (n + 1) = sumTo (fun k => termN n k u w) (n + 1) * c := fun c => by
      rw [Int.mul_comm _ c, ← sumTo_mul]
      exact sumTo_congr fun k _ => Int.mul_comm _ _
    rw [e1, ← m1 u, ← m1 w, ← e4]
    omega
theorem termN_nonneg {u w : Int} (hu : 0 ≤ u) (hw : 0 ≤ w) (n k : Nat) : 0 ≤ termN n k u w :=
  Int.mul_nonneg (Int.mul_nonneg (pasc_bd n k).1 (powN_mono hu (Int.le_refl u) k).1) (powN_mono hw (Int.le_refl w) _).1
end Go.Proofs.Ytgclgcfhcomplaa
