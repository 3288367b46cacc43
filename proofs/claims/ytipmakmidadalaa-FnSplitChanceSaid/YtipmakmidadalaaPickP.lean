/-
  Plain: the numbers of a list at the places that a number's bits tell, and counts over all of them.
-/
import Derived.Test.YtipmakmidadalaaComb2
namespace Go.Proofs.Ytipmakmidadalaa
open Go.RowKit

/-- The first k numbers' chosen ones (b true) or others (b false). -/
def pickL (b : Bool) (xs : List Int) (s : Nat) : Nat → List Int
  | 0 => []
  | k + 1 => if s.testBit k = b then pickL b xs s k ++ [atL xs k] else pickL b xs s k
theorem pickL_in {b : Bool} {xs : List Int} {s k : Nat} (h : s.testBit k = b) : pickL b xs s (k + 1) = pickL b xs s k ++ [atL xs k] := by rw [pickL, if_pos h]
theorem pickL_out {b : Bool} {xs : List Int} {s k : Nat} (h : ¬ s.testBit k = b) : pickL b xs s (k + 1) = pickL b xs s k := by rw [pickL, if_neg h]
theorem pickL_len (b : Bool) (xs : List Int) (s : Nat) : ∀ k, (pickL b xs s k).length ≤ k
  | 0 => Nat.le_refl _
  | k + 1 => by
    have := pickL_len b xs s k
    by_cases h : s.testBit k = b
    · rw [pickL_in h, List.length_append]; simp; omega
    · rw [pickL_out h]; omega
theorem pickL_bitN (xs : List Int) (s : Nat) : ∀ k, ((pickL true xs s k).length : Int) = bitN s k
  | 0 => rfl
  | k + 1 => by
    have := pickL_bitN xs s k
    unfold bitN at *
    rw [sumTo_succ, ← this]
    by_cases h : s.testBit k = true
    · rw [pickL_in h, List.length_append, h]; simp [b2i]
    · rw [pickL_out h]; simp [b2i, h]
theorem pickL_sum (xs : List Int) (s : Nat) : ∀ k, sumL (pickL true xs s k) = bitSum xs s k
  | 0 => rfl
  | k + 1 => by
    have := pickL_sum xs s k
    unfold bitSum at *
    rw [sumTo_succ, ← this]
    by_cases h : s.testBit k = true
    · rw [pickL_in h, if_pos h]; simp [sumL]
    · rw [pickL_out h, if_neg h]; simp
theorem pickL_allB {b : Bool} {xs : List Int} {a c : Int} (h : allB a c xs = true) (s : Nat) : ∀ k, k ≤ xs.length → allB a c (pickL b xs s k) = true
  | 0, _ => rfl
  | k + 1, hk => by
    have ih := pickL_allB (b := b) h s k (by omega)
    by_cases hb : s.testBit k = b
    · rw [pickL_in hb]
      refine allB_iff.2 fun y hy => ?_
      rcases List.mem_append.1 hy with hy | hy
      · exact (allB_iff.1 ih) y hy
      · rw [List.mem_singleton.1 hy]
        exact (allB_iff.1 h) _ (by simp [atL, List.getD, show k < xs.length by omega])
    · rw [pickL_out hb]; exact ih
/-- How many of the first n sets choose k numbers of which P holds. -/
def cntP (xs : List Int) (k : Nat) (P : Int → Bool) (n : Nat) : Int := sumTo (fun s => b2i (decide (bitN s xs.length = k) && P (bitSum xs s xs.length))) n
theorem cntP_succ (xs : List Int) (k : Nat) (P : Int → Bool) (n : Nat) : cntP xs k P (n + 1) = cntP xs k P n + b2i (decide ((pickL true xs n xs.length).length = k) && P (sumL (pickL true xs n xs.length))) := by
  unfold cntP
  rw [sumTo_succ, pickL_sum, ← pickL_bitN xs n xs.length]
  congr 3
  exact decide_eq_decide.2 (by omega)
theorem cntP_bd (xs : List Int) (k : Nat) (P : Int → Bool) : ∀ n, 0 ≤ cntP xs k P n ∧ cntP xs k P n ≤ n
  | 0 => by simp [cntP, sumTo]
  | n + 1 => by
    have := cntP_bd xs k P n
    have := b2i_bd (decide ((pickL true xs n xs.length).length = k) && P (sumL (pickL true xs n xs.length)))
    rw [cntP_succ]
    omega
theorem cntP_all (xs : List Int) (k : Nat) (P : Int → Bool) : cntP xs k P (2 ^ xs.length) = waysN xs k P := (waysN_sum xs k P).symm
/-- Choices of k numbers of at least a sum. -/
def atN (xs : List Int) (k : Nat) (s : Int) : Int := waysN xs k fun t => decide (s ≤ t)
theorem atN_zero (xs : List Int) (s : Int) : atN xs 0 s = if s ≤ 0 then 1 else 0 := by
  rw [atN, waysN_zero]
  by_cases h : s ≤ 0 <;> simp [b2i, h]
theorem atN_cons (x : Int) (xs : List Int) (k : Nat) (s : Int) : atN (x :: xs) (k + 1) s = atN xs k (s - x) + atN xs (k + 1) s := by
  unfold atN
  rw [waysN_cons]
  congr 2
  funext t
  exact decide_eq_decide.2 (by omega)
theorem atN_long (xs : List Int) (k : Nat) (s : Int) (h : xs.length < k) : atN xs k s = 0 := waysN_long xs k _ h
theorem atN_bd (xs : List Int) (k : Nat) (s : Int) : 0 ≤ atN xs k s ∧ atN xs k s ≤ ((2 ^ xs.length : Nat) : Int) := by
  have := cntP_bd xs k (fun t => decide (s ≤ t)) (2 ^ xs.length)
  rw [cntP_all] at this
  exact this
end Go.Proofs.Ytipmakmidadalaa
