
/-
  Plain laws on lists of numbers: all within bounds, the greatest and the least one, sums.
-/
import Derived.Test.YtgageljahebjnaaBase
namespace Go.Proofs.Ytgageljahebjnaa
open Go.RowKit

/-- All numbers lie in a range. -/
def allB (lo hi : Int) (xs : List Int) : Bool := xs.all fun x => decide (lo ≤ x) && decide (x ≤ hi)
theorem allB_snoc (lo hi : Int) (xs : List Int) (x : Int) : allB lo hi (xs ++ [x]) = (allB lo hi xs && (decide (lo ≤ x) && decide (x ≤ hi))) := by simp [allB]
theorem allB_iff {lo hi : Int} {xs : List Int} : allB lo hi xs = true ↔ ∀ x ∈ xs, lo ≤ x ∧ x ≤ hi := by simp [allB]
theorem allB_get {lo hi : Int} {xs : List Int} (h : allB lo hi xs = true) {j : Nat} (hj : j < xs.length) : lo ≤ xs[j] ∧ xs[j] ≤ hi := allB_iff.1 h _ (List.getElem_mem hj)
theorem allB_no {lo hi : Int} {xs : List Int} {k : Nat} (hk : k < xs.length) (h : xs[k] < lo ∨ hi < xs[k]) : allB lo hi xs = false := by
  rw [← Bool.not_eq_true, allB_iff]
  intro ha
  have := ha _ (List.getElem_mem hk)
  omega
theorem allB_take_succ {lo hi : Int} {xs : List Int} {k : Nat} (hk : k < xs.length) (h : allB lo hi (xs.take k) = true) (h1 : lo ≤ xs[k]) (h2 : xs[k] ≤ hi) : allB lo hi (xs.take (k + 1)) = true := by
  rw [List.take_succ_eq_append_getElem hk, allB_snoc, h]
  simp [h1, h2]
theorem allB_sub {lo hi : Int} {xs ys : List Int} (h : allB lo hi xs = true) (hs : ∀ y ∈ ys, y ∈ xs) : allB lo hi ys = true := allB_iff.2 fun y hy => allB_iff.1 h y (hs y hy)
theorem allB_take {lo hi : Int} {xs : List Int} (h : allB lo hi xs = true) (n : Nat) : allB lo hi (xs.take n) = true := allB_sub h fun _ hy => List.mem_of_mem_take hy
theorem allB_drop {lo hi : Int} {xs : List Int} (h : allB lo hi xs = true) (n : Nat) : allB lo hi (xs.drop n) = true := allB_sub h fun _ hy => List.mem_of_mem_drop hy

theorem max_if (a b : Int) : (if a < b then b else a) = max a b := by omega
theorem min_if (a b : Int) : (if b < a then b else a) = min a b := by omega
theorem seg_allB {lo hi : Int} {xs : List Int} (h : allB lo hi xs = true) (i k : Nat) : allB lo hi (seg xs i k) = true := allB_take (allB_drop h i) _
/-- The greatest and the least number of a list that is not empty. -/
def maxL : List Int → Int
  | [] => 0
  | x :: xs => xs.foldl max x
def minL : List Int → Int
  | [] => 0
  | x :: xs => xs.foldl min x
theorem maxL_snoc {xs : List Int} (h : xs ≠ []) (y : Int) : maxL (xs ++ [y]) = max (maxL xs) y := by
  cases xs with
  | nil => exact absurd rfl h
  | cons x xs => simp [maxL, List.foldl_append]
theorem minL_snoc {xs : List Int} (h : xs ≠ []) (y : Int) : minL (xs ++ [y]) = min (minL xs) y := by
  cases xs with
  | nil => exact absurd rfl h
  | cons x xs => simp [minL, List.foldl_append]
theorem foldl_max (xs : List Int) : ∀ a : Int, a ≤ xs.foldl max a ∧ (∀ x ∈ xs, x ≤ xs.foldl max a) ∧ (xs.foldl max a = a ∨ xs.foldl max a ∈ xs) := by
  induction xs with
  | nil => intro a; simp
  | cons x xs ih =>
    intro a
    obtain ⟨h1, h2, h3⟩ := ih (max a x)
    simp only [List.foldl_cons, List.mem_cons, forall_eq_or_imp]
    refine ⟨by omega, ⟨by omega, h2⟩, ?_⟩
    rcases h3 with h3 | h3
    · rcases Int.le_total a x with hx | hx
      · right; left; omega
      · left; omega
    · exact .inr (.inr h3)
theorem foldl_min (xs : List Int) : ∀ a : Int, xs.foldl min a ≤ a ∧ (∀ x ∈ xs, xs.foldl min a ≤ x) ∧ (xs.foldl min a = a ∨ xs.foldl min a ∈ xs) := by
  induction xs with
  | nil => intro a; simp
  | cons x xs ih =>
    intro a
    obtain ⟨h1, h2, h3⟩ := ih (min a x)
    simp only [List.foldl_cons, List.mem_cons, forall_eq_or_imp]
    refine ⟨by omega, ⟨by omega, h2⟩, ?_⟩
    rcases h3 with h3 | h3
    · rcases Int.le_total a x with hx | hx
      · left; omega
      · right; left; omega
    · exact .inr (.inr h3)
theorem le_maxL {xs : List Int} {x : Int} (h : x ∈ xs) : x ≤ maxL xs := by
  cases xs with
  | nil => simp at h
  | cons y ys =>
    have := foldl_max ys y
    rcases List.mem_cons.1 h with rfl | h
    · exact this.1
    · exact this.2.1 x h
theorem minL_le {xs : List Int} {x : Int} (h : x ∈ xs) : minL xs ≤ x := by
  cases xs with
  | nil => simp at h
  | cons y ys =>
    have := foldl_min ys y
    rcases List.mem_cons.1 h with rfl | h
    · exact this.1
    · exact this.2.1 x h
theorem maxL_mem {xs : List Int} (h : xs ≠ []) : maxL xs ∈ xs := by
  cases xs with
  | nil => exact absurd rfl h
  | cons y ys =>
    rcases (foldl_max ys y).2.2 with e | e
    · exact List.mem_cons.2 (.inl e)
    · exact List.mem_cons_of_mem _ e
theorem minL_mem {xs : List Int} (h : xs ≠ []) : minL xs ∈ xs := by
  cases xs with
  | nil => exact absurd rfl h
  | cons y ys =>
    rcases (foldl_min ys y).2.2 with e | e
    · exact List.mem_cons.2 (.inl e)
    · exact List.mem_cons_of_mem _ e
theorem maxL_single (x : Int) : maxL [x] = x := rfl
theorem minL_single (x : Int) : minL [x] = x := rfl
theorem minL_bounds {lo hi : Int} {xs : List Int} (h : allB lo hi xs = true) (hn : xs ≠ []) : lo ≤ minL xs ∧ minL xs ≤ maxL xs ∧ maxL xs ≤ hi :=
  ⟨(allB_iff.1 h _ (minL_mem hn)).1, le_maxL (minL_mem hn), (allB_iff.1 h _ (maxL_mem hn)).2⟩
theorem take_ne_nil {α : Type} {xs : List α} {k : Nat} (h0 : 0 < k) (h : 0 < xs.length) : xs.take k ≠ [] := by
  intro e
  have := congrArg List.length e
  rw [List.length_take, List.length_nil] at this
  omega
theorem maxL_take {xs : List Int} {k : Nat} (h0 : 0 < k) (hk : k < xs.length) : maxL (xs.take (k + 1)) = max (maxL (xs.take k)) xs[k] := by
  rw [List.take_succ_eq_append_getElem hk, maxL_snoc (take_ne_nil h0 (by omega))]
theorem minL_take {xs : List Int} {k : Nat} (h0 : 0 < k) (hk : k < xs.length) : minL (xs.take (k + 1)) = min (minL (xs.take k)) xs[k] := by
  rw [List.take_succ_eq_append_getElem hk, minL_snoc (take_ne_nil h0 (by omega))]
theorem maxL_take1 {xs : List Int} (hk : 0 < xs.length) : maxL (xs.take 1) = xs[0] := by
  cases xs with
  | nil => simp at hk
  | cons x xs => rfl
theorem minL_take1 {xs : List Int} (hk : 0 < xs.length) : minL (xs.take 1) = xs[0] := by
  cases xs with
  | nil => simp at hk
  | cons x xs => rfl

/-- Sums. -/
def sumL (xs : List Int) : Int := xs.foldl (· + ·) 0
theorem sumL_snoc (xs : List Int) (y : Int) : sumL (xs ++ [y]) = sumL xs + y := by simp [sumL, List.foldl_append]
theorem sumL_take {xs : List Int} {k : Nat} (hk : k < xs.length) : sumL (xs.take (k + 1)) = sumL (xs.take k) + xs[k] := by
  rw [List.take_succ_eq_append_getElem hk, sumL_snoc]
theorem sumL_bound {m : Int} (hm : 0 ≤ m) {xs : List Int} (h : ∀ x ∈ xs, -m ≤ x ∧ x ≤ m) : ∀ k : Nat, -(m * k) ≤ sumL (xs.take k) ∧ sumL (xs.take k) ≤ m * k := by
  intro k
  induction k with
  | zero => simp [sumL]
  | succ k ih =>
    have e : m * ((k + 1 : Nat) : Int) = m * k + m := by rw [Int.natCast_add, Int.mul_add]; simp
    rw [e]
    by_cases hk : k < xs.length
    · rw [sumL_take hk]
      have := h _ (List.getElem_mem hk)
      omega
    · rw [List.take_of_length_le (by omega)] at ih ⊢
      omega
end Go.Proofs.Ytgageljahebjnaa
