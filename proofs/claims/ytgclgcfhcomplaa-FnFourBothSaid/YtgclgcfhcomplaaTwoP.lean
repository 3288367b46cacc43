/-
  Plain laws on TwoSides: both sides the same for misses; each of the three at least the ways of k hits, at most all.
-/
import Derived.Test.YtgclgcfhcomplaaTwoI
namespace Go.Proofs.Ytgclgcfhcomplaa
open Go.RowKit

theorem sumTo_shift (f : Nat → Int) (n : Nat) : sumTo f (n + 1) = f 0 + sumTo (fun i => f (i + 1)) n := by
  induction n with
  | zero => simp [sumTo]
  | succ n ih => rw [sumTo_succ, ih, sumTo_succ]; omega
theorem sumTo_rev (f : Nat → Int) (n : Nat) : sumTo f (n + 1) = sumTo (fun i => f (n - i)) (n + 1) := by
  induction n generalizing f with
  | zero => simp [sumTo]
  | succ n ih =>
    rw [sumTo_shift, ih (fun i => f (i + 1)), sumTo_succ (fun i => f (n + 1 - i)), Nat.sub_self]
    rw [sumTo_congr (f := fun i => f (n - i + 1)) (g := fun i => f (n + 1 - i)) fun k hk => by rw [show n - k + 1 = n + 1 - k from by omega]]
    omega
theorem termN_sym {n k : Nat} (h : k ≤ n) (u w : Int) : termN n (n - k) w u = termN n k u w := by
  simp only [termN, pasc_sym n k h, show n - (n - k) = k from by omega]
  rw [Int.mul_assoc, Int.mul_assoc, Int.mul_comm (powN w _)]
theorem partN_rev {p q : Nat → Bool} {n : Nat} {u w : Int} (h : ∀ k, k ≤ n → p (n - k) = q k) : partN p n w u (n + 1) = partN q n u w (n + 1) := by
  rw [partN, partN, sumTo_rev]
  exact sumTo_congr fun k hk => by
    simp only [termN_sym (show k ≤ n by omega) u w, h k (by omega)]
theorem tailN_rev {n k : Nat} (hk : k ≤ n) (u v : Int) : tailN n ((n - k : Nat) : Int) (v - u) v = downN n k u v := by
  have e : v - (v - u) = u := by omega
  rw [tailN, downN, e]
  exact partN_rev fun h hh => by
    by_cases c : h ≤ k
    · simp [c]; omega
    · simp [c]; omega
theorem downN_rev {n k : Nat} (hk : k ≤ n) (u v : Int) : downN n (n - k) (v - u) v = tailN n k u v := by
  have e : v - (v - u) = u := by omega
  rw [tailN, downN, e]
  exact partN_rev fun h hh => by
    by_cases c : k ≤ h
    · have : n - h ≤ n - k := by omega
      simp [c]; omega
    · simp [c]; omega
theorem likely_rev {n k h : Nat} (hk : k ≤ n) (hh : h ≤ n) (u v : Int) : likelyP n (n - k) (v - u) v (n - h) = likelyP n k u v h := by
  have e : v - (v - u) = u := by omega
  rw [likelyP, likelyP, e, termN_sym hk, termN_sym hh]
theorem far_one {n k : Nat} (hk : k ≤ n) (u v : Int) : ((n - k : Nat) : Int) * v - (n : Int) * (v - u) = -((k : Int) * v - (n : Int) * u) := by
  rw [show ((n - k : Nat) : Int) = (n : Int) - k from by omega, Int.sub_mul, Int.mul_sub]
  omega
theorem far_rev {n k h : Nat} (hk : k ≤ n) (hh : h ≤ n) (u v : Int) : farP n (n - k) (v - u) v (n - h) = farP n k u v h := by
  rw [farP, farP, far_one hk, far_one hh, Int.neg_neg, Int.neg_neg, Int.max_comm, Int.max_comm (-((h : Int) * v - (n : Int) * u))]
theorem twoL_rev {n k : Nat} {u v : Int} (hk : k ≤ n) (hv : okTwoS n k u v = true) : twoL n ((n : Int) - k) (v - u) v = twoL n k u v := by
  have hv' := hv
  simp only [okTwoS, Bool.and_eq_true, decide_eq_true_eq] at hv'
  obtain ⟨h1, h2⟩ := hv'
  have h3 := okTries_iff.1 h1
  have hok : okTwoS n ((n - k : Nat) : Int) (v - u) v = true := by
    rw [okTwoS, okTries_iff.2 ⟨h3.1, h3.2.1, by omega, by omega⟩]
    simp
  rw [show (n : Int) - k = ((n - k : Nat) : Int) from by omega, twoL_ok hok, twoL_ok hv, tailN_rev hk, downN_rev hk, show v - (v - u) = u from by omega]
  rw [partN_rev (p := likelyP n (n - k) (v - u) v) (q := likelyP n k u v) fun h hh => likely_rev hk hh u v, partN_rev (p := farP n (n - k) (v - u) v) (q := farP n k u v) fun h hh => far_rev hk hh u v, Int.min_comm (downN n k u v)]

theorem sumTo_one {f : Nat → Int} {n k : Nat} (h : ∀ i, i < n → 0 ≤ f i) (hk : k < n) : f k ≤ sumTo f n := by
  induction n with
  | zero => omega
  | succ n ih =>
    rw [sumTo_succ]
    by_cases c : k = n
    · subst c
      have := sumTo_zero_le (f := f) (n := k) fun i hi => h i (by omega)
      omega
    · have := ih (fun i hi => h i (by omega)) (by omega)
      have := h n (by omega)
      omega
theorem partN_ge {p : Nat → Bool} {n k : Nat} {u w : Int} (hu : 0 ≤ u) (hw : 0 ≤ w) (hk : k ≤ n) (hp : p k = true) : termN n k u w ≤ partN p n u w (n + 1) := by
  have h := sumTo_one (f := fun h => if p h then termN n h u w else 0) (n := n + 1) (k := k) (fun i _ => by
    show 0 ≤ if p i then termN n i u w else 0
    have := termN_nonneg hu hw n i
    split <;> omega) (by omega)
  simpa [partN, hp] using h
theorem partN_le {p : Nat → Bool} {n : Nat} {u w : Int} (hu : 0 ≤ u) (hw : 0 ≤ w) : partN p n u w (n + 1) ≤ powN (u + w) n := by
  rw [← binom]
  exact sumTo_le fun k _ => by
    have := termN_nonneg hu hw n k
    split <;> omega
/-- With k hits or more, less those with more. -/
theorem tail_less {n k : Nat} (hk : k ≤ n) (u v : Int) : tailN n k u v - tailN n ((k : Int) + 1) u v = termN n k u (v - u) := by
  have e : tailN n k u v = tailN n ((k : Int) + 1) u v + sumTo (fun h => if h = k then termN n h u (v - u) else 0) (n + 1) := by
    rw [tailN, tailN, partN, partN, ← sumTo_add]
    refine sumTo_congr fun h _ => ?_
    by_cases c : h = k
    · subst c
      simp [show ¬((h : Int) + 1 ≤ h) from by omega]
    · by_cases c2 : (k : Int) ≤ h
      · simp [c2, c, show (k : Int) + 1 ≤ h from by omega]
      · simp [c2, c, show ¬((k : Int) + 1 ≤ h) from by omega]
  have e2 : ∀ m, sumTo (fun h => if h = k then termN n h u (v - u) else 0) m = if k < m then termN n k u (v - u) else 0 := by
    intro m
    induction m with
    | zero => rfl
    | succ m ih =>
      rw [sumTo_succ, ih]
      by_cases c : m = k
      · subst c; simp
      · by_cases c2 : k < m
        · rw [if_pos c2, if_neg c, if_pos (by omega)]; omega
        · rw [if_neg c2, if_neg c, if_neg (by omega)]; omega
  rw [e2, if_pos (by omega)] at e
  omega
theorem two_bounds {n k : Nat} {u v : Int} (hk : k ≤ n) (hu : 0 ≤ u) (huv : u ≤ v) :
    (termN n k u (v - u) ≤ min (2 * min (tailN n k u v) (downN n k u v)) (powN v n) ∧ min (2 * min (tailN n k u v) (downN n k u v)) (powN v n) ≤ powN v n) ∧
    (termN n k u (v - u) ≤ partN (likelyP n k u v) n u (v - u) (n + 1) ∧ partN (likelyP n k u v) n u (v - u) (n + 1) ≤ powN v n) ∧
    termN n k u (v - u) ≤ partN (farP n k u v) n u (v - u) (n + 1) ∧ partN (farP n k u v) n u (v - u) (n + 1) ≤ powN v n := by
  have hw : 0 ≤ v - u := by omega
  have e : u + (v - u) = v := by omega
  have h0 := termN_nonneg hu hw n k
  have h1 : termN n k u (v - u) ≤ tailN n k u v := partN_ge hu hw hk (by simp)
  have h2 : termN n k u (v - u) ≤ downN n k u v := partN_ge hu hw hk (by simp)
  have h3 : tailN n k u v ≤ powN v n := by have := partN_le (p := fun h => decide ((k : Int) ≤ (h : Int))) (n := n) hu hw; rwa [e] at this
  have h4 := partN_le (p := likelyP n k u v) (n := n) hu hw
  have h5 := partN_le (p := farP n k u v) (n := n) hu hw
  rw [e] at h4 h5
  have h6 : termN n k u (v - u) ≤ partN (likelyP n k u v) n u (v - u) (n + 1) := partN_ge hu hw hk (by simp [likelyP])
  have h7 : termN n k u (v - u) ≤ partN (farP n k u v) n u (v - u) (n + 1) := partN_ge hu hw hk (by simp [farP])
  omega

theorem max_neg_mul {n : Int} (hn : 0 ≤ n) (x : Int) : max (n * x) (-(n * x)) = n * max x (-x) := by
  rw [show -(n * x) = n * -x from (Int.mul_neg _ _).symm]
  rcases Int.le_total x (-x) with h | h
  · rw [Int.max_eq_right h, Int.max_eq_right (Int.mul_le_mul_of_nonneg_left h hn)]
  · rw [Int.max_eq_left h, Int.max_eq_left (Int.mul_le_mul_of_nonneg_left h hn)]
/-- As far, as the program reckons it, is as far. -/
theorem farI_eq {n k h : Nat} (hk : k ≤ n) (hh : h ≤ n) (u v : Int) : decide (farI n u v k ≤ farI n u v h) = farP n k u v h := by
  have e : ∀ k : Nat, farI n u v k = (n : Int) * max ((k : Int) * v - (n : Int) * u) (-((k : Int) * v - (n : Int) * u)) := fun k => by
    rw [← max_neg_mul (by omega), farI]
    rw [show (n : Int) * v * k - (n : Int) * n * u = (n : Int) * ((k : Int) * v - (n : Int) * u) from by rw [Int.mul_sub, Int.mul_assoc, Int.mul_comm v, Int.mul_assoc]]
  rw [e, e, farP]
  by_cases hn : n = 0
  · subst hn
    obtain rfl : k = 0 := by omega
    obtain rfl : h = 0 := by omega
    simp
  · congr 1
    apply propext
    exact ⟨fun h => Int.le_of_mul_le_mul_left h (by omega), fun h => Int.mul_le_mul_of_nonneg_left h (by omega)⟩
end Go.Proofs.Ytgclgcfhcomplaa
