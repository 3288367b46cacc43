/-
  Plain laws: tables with the same sums: their first numbers are a row; their ways are all ways.
-/
import Derived.Test.YtgclgcfhcomplaaFour
import Derived.Test.YtgclgcfhcomplaaTwoP
namespace Go.Proofs.Ytgclgcfhcomplaa
open Go.RowKit

theorem sumTo_split (f : Nat → Int) (p q : Nat) : sumTo f (p + q) = sumTo f p + sumTo (fun i => f (p + i)) q := by
  induction q with
  | zero => simp [sumTo]
  | succ q ih => rw [← Nat.add_assoc, sumTo_succ, ih, sumTo_succ]; omega
theorem sumTo_none {f : Nat → Int} {n : Nat} (h : ∀ k, k < n → f k = 0) : sumTo f n = 0 := by
  induction n with
  | zero => rfl
  | succ n ih => rw [sumTo_succ, ih fun k hk => h k (by omega), h n (by omega)]; rfl
theorem sum_window {f : Nat → Int} {lo n m : Nat} (hm : lo + n ≤ m) (h1 : ∀ k, k < lo → f k = 0) (h2 : ∀ k, lo + n ≤ k → k < m → f k = 0) : sumTo f m = sumTo (fun i => f (lo + i)) n := by
  obtain ⟨j, rfl⟩ : ∃ j, m = lo + (n + j) := ⟨m - lo - n, by omega⟩
  rw [sumTo_split, sumTo_none h1, sumTo_split, sumTo_none (n := j) fun k hk => h2 _ (by omega) (by omega)]
  omega
/-- Ways to choose of two lots together. -/
theorem vander : ∀ (r s K : Nat), sumTo (fun x => pasc r x * pasc s (K - x)) (K + 1) = pasc (r + s) K := by
  intro r
  induction r with
  | zero =>
    intro s K
    rw [sumTo_shift, sumTo_none (f := fun i => pasc 0 (i + 1) * pasc s (K - (i + 1))) fun k _ => by rw [pasc_none]; omega]
    rw [pasc_zero, Nat.sub_zero, Nat.zero_add]
    omega
  | succ r ih =>
    intro s K
    cases K with
    | zero => simp [sumTo, pasc_zero]
    | succ K =>
      have h1 := ih s K
      have h2 := ih s (K + 1)
      rw [sumTo_shift] at h2 ⊢
      have e : sumTo (fun i => pasc (r + 1) (i + 1) * pasc s (K + 1 - (i + 1))) (K + 1) = sumTo (fun x => pasc r x * pasc s (K - x)) (K + 1) + sumTo (fun i => pasc r (i + 1) * pasc s (K + 1 - (i + 1))) (K + 1) := by
        rw [← sumTo_add]
        refine sumTo_congr fun k _ => ?_
        rw [pasc_succ, Int.add_mul, show K + 1 - (k + 1) = K - k from by omega]
      rw [e, h1, show r + 1 + s = (r + s) + 1 from by omega, pasc_succ]
      simp only [pasc_zero] at h2 ⊢
      omega

theorem sumTo_mono {f : Nat → Int} (h : ∀ k, 0 ≤ f k) {m n : Nat} (hmn : m ≤ n) : sumTo f m ≤ sumTo f n := by
  obtain ⟨j, rfl⟩ : ∃ j, n = m + j := ⟨n - m, by omega⟩
  rw [sumTo_split]
  have := sumTo_zero_le (f := fun i => f (m + i)) (n := j) fun k _ => h _
  omega
/-- The row of n numbers from lo on. -/
def rowL (lo n : Nat) : List Int := (List.range' lo n).map fun (x : Nat) => (x : Int)
theorem rowL_len (lo n : Nat) : (rowL lo n).length = n := by simp [rowL]
theorem rowL_at {lo n i : Nat} (h : i < n) : atL (rowL lo n) i = ((lo + i : Nat) : Int) := by
  rw [atL_lt (by rw [rowL_len]; exact h)]
  simp [rowL]
theorem rowL_succ (lo n : Nat) : rowL lo (n + 1) = rowL lo n ++ [((lo + n : Nat) : Int)] := by
  simp [rowL, List.range'_concat]

def keepF (a c d x : Nat) : Bool := decide (x ≤ a + c) && decide (a ≤ d + x)
def cntF (a c d k : Nat) : Nat := min k (a + c + 1) - (a - d)
theorem rowF_step (a c d k : Nat) : rowL (a - d) (cntF a c d (k + 1)) = rowL (a - d) (cntF a c d k) ++ if keepF a c d k then [(k : Int)] else [] := by
  by_cases h1 : k ≤ a + c
  · by_cases h2 : a ≤ d + k
    · have e : cntF a c d (k + 1) = cntF a c d k + 1 := by simp only [cntF]; omega
      have e2 : (a - d) + cntF a c d k = k := by simp only [cntF]; omega
      rw [e, rowL_succ, e2]
      simp [keepF, h1, h2]
    · have e : cntF a c d (k + 1) = cntF a c d k := by simp only [cntF]; omega
      rw [e]
      simp [keepF, h2]
  · have e : cntF a c d (k + 1) = cntF a c d k := by simp only [cntF]; omega
    rw [e]
    simp [keepF, h1]
theorem cntF_zero (a c d : Nat) : cntF a c d 0 = 0 := by simp only [cntF]; omega
/-- How many tables have the same sums. -/
def lenF (a b c d : Nat) : Nat := cntF a c d (a + b + 1)
theorem lenF_bd (a b c d : Nat) : 1 ≤ lenF a b c d ∧ a - d + lenF a b c d ≤ a + b + 1 ∧ a - d + lenF a b c d ≤ a + c + 1 ∧ a < a - d + lenF a b c d ∧ (a - d + lenF a b c d = a + b + 1 ∨ a - d + lenF a b c d = a + c + 1) := by
  simp only [lenF, cntF]
  omega
def fourR (a b c d : Int) : List Int := if okFour a b c d then rowL (a.toNat - d.toNat) (lenF a.toNat b.toNat c.toNat d.toNat) else []
theorem fourR_bad {a b c d : Int} (h : okFour a b c d = false) : fourR a b c d = [] := by simp [fourR, h]
theorem fourR_ok {a b c d : Nat} (h : okFour a b c d = true) : fourR a b c d = rowL (a - d) (lenF a b c d) := by simp [fourR, h]

/-- The ways of the table with the first number x. -/
def wayX (a b c d x : Nat) : Int := pasc (a + b) x * pasc (c + d) (a + c - x)
theorem wayX_eq {a b c d x : Nat} (h1 : x ≤ a + b) (h2 : x ≤ a + c) (h3 : a ≤ d + x) : waysN x (a + b - x) (a + c - x) (d + x - a) = wayX a b c d x := by
  rw [waysN, wayX, show x + (a + b - x) = a + b from by omega, show (a + c - x) + (d + x - a) = c + d from by omega]
theorem wayX_self (a b c d : Nat) : wayX a b c d a = waysN a b c d := by
  rw [waysN, wayX, show a + c - a = c from by omega]
theorem wayX_nonneg (a b c d x : Nat) : 0 ≤ wayX a b c d x := Int.mul_nonneg (pasc_bd _ _).1 (pasc_bd _ _).1
theorem wayX_swap {a b c d x : Nat} (h : x ≤ a + c) : wayX c d a b (a + c - x) = wayX a b c d x := by
  rw [wayX, wayX, show c + a - (a + c - x) = x from by omega, Int.mul_comm]
/-- The ways of those tables that may be. -/
def togN (may : Nat → Bool) (a b c d m : Nat) : Int := sumTo (fun i => if may (a - d + i) then wayX a b c d (a - d + i) else 0) m
theorem togN_succ (may : Nat → Bool) (a b c d m : Nat) : togN may a b c d (m + 1) = togN may a b c d m + if may (a - d + m) then wayX a b c d (a - d + m) else 0 := rfl
theorem togN_full (may : Nat → Bool) (a b c d : Nat) : togN may a b c d (lenF a b c d) = sumTo (fun x => if may x then wayX a b c d x else 0) (a + c + 1) := by
  obtain ⟨h1, h2, h3, h4, h5⟩ := lenF_bd a b c d
  refine (sum_window (f := fun x => if may x then wayX a b c d x else 0) (lo := a - d) (n := lenF a b c d) h3 (fun k hk => ?_) fun k hk hk2 => ?_).symm
  · show (if may k then wayX a b c d k else 0) = 0
    have : wayX a b c d k = 0 := by rw [wayX, pasc_over (c + d) (a + c - k) (by omega)]; omega
    rw [this]
    split <;> rfl
  · show (if may k then wayX a b c d k else 0) = 0
    have : wayX a b c d k = 0 := by rw [wayX, pasc_over (a + b) k (by omega)]; omega
    rw [this]
    split <;> rfl
theorem togN_all (a b c d : Nat) : togN (fun _ => true) a b c d (lenF a b c d) = pasc (a + b + c + d) (a + c) := by
  rw [togN_full, show a + b + c + d = (a + b) + (c + d) from by omega, ← vander]
  exact sumTo_congr fun k _ => by simp [wayX]
theorem togN_bd (may : Nat → Bool) {a b c d : Nat} (h : a + b + c + d ≤ 32) (m : Nat) : 0 ≤ togN may a b c d m ∧ (m ≤ lenF a b c d → togN may a b c d m ≤ 4294967296) := by
  have h0 : ∀ may m, 0 ≤ togN may a b c d m := fun may m => sumTo_zero_le fun k _ => by
    have := wayX_nonneg a b c d (a - d + k)
    split <;> omega
  refine ⟨h0 may m, fun hm => ?_⟩
  have h1 : togN may a b c d m ≤ togN (fun _ => true) a b c d m := sumTo_le fun k _ => by
    have := wayX_nonneg a b c d (a - d + k)
    simp
    split <;> omega
  have h2 : togN (fun _ => true) a b c d m ≤ togN (fun _ => true) a b c d (lenF a b c d) := by
    exact sumTo_mono (f := fun i => if (fun _ => true) (a - d + i) then wayX a b c d (a - d + i) else 0) (fun k => by
      have := wayX_nonneg a b c d (a - d + k)
      simp
      exact this) hm
  rw [togN_all] at h2
  have := pasc_bd32 (n := a + b + c + d) h (a + c)
  omega
theorem togN_le (may : Nat → Bool) (a b c d : Nat) : togN may a b c d (lenF a b c d) ≤ togN (fun _ => true) a b c d (lenF a b c d) := sumTo_le fun k _ => by
  have := wayX_nonneg a b c d (a - d + k)
  simp
  split <;> omega
theorem togN_ge {may : Nat → Bool} {a b c d : Nat} (h : may a = true) : waysN a b c d ≤ togN may a b c d (lenF a b c d) := by
  obtain ⟨h1, h2, h3, h4, h5⟩ := lenF_bd a b c d
  have := sumTo_one (f := fun i => if may (a - d + i) then wayX a b c d (a - d + i) else 0) (n := lenF a b c d) (k := a - (a - d)) (fun k _ => by
    show 0 ≤ if may (a - d + k) then wayX a b c d (a - d + k) else 0
    have := wayX_nonneg a b c d (a - d + k)
    split <;> omega) (by omega)
  rw [show a - d + (a - (a - d)) = a from by omega, h, wayX_self] at this
  simpa [togN] using this
def atLeastA (a : Nat) (x : Nat) : Bool := decide (a ≤ x)
theorem chance_all {a b c d : Nat} (h : a ≤ a - d) : togN (atLeastA a) a b c d (lenF a b c d) = togN (fun _ => true) a b c d (lenF a b c d) :=
  sumTo_congr fun k _ => by simp [atLeastA, show a ≤ a - d + k from by omega]
def noMoreN (a b c d : Nat) (x : Nat) : Bool := decide (wayX a b c d x ≤ waysN a b c d)
theorem noMore_self (a b c d : Nat) : noMoreN a b c d a = true := by simp [noMoreN, wayX_self]
theorem waysN_swap (a b c d : Nat) : waysN c d a b = waysN a b c d := by rw [waysN, waysN, Int.mul_comm]
theorem both_swap (a b c d : Nat) : togN (noMoreN c d a b) c d a b (lenF c d a b) = togN (noMoreN a b c d) a b c d (lenF a b c d) := by
  rw [togN_full, togN_full, show c + a + 1 = a + c + 1 from by omega, sumTo_rev]
  refine sumTo_congr fun k hk => ?_
  have e := wayX_swap (a := a) (b := b) (c := c) (d := d) (x := k) (by omega)
  by_cases h : wayX a b c d k ≤ waysN a b c d
  · simp [noMoreN, e, waysN_swap, h]
  · simp [noMoreN, e, waysN_swap, h]
theorem all_swap (a b c d : Nat) : togN (fun _ => true) c d a b (lenF c d a b) = togN (fun _ => true) a b c d (lenF a b c d) := by
  rw [togN_all, togN_all, show c + d + a + b = a + b + c + d from by omega, show c + a = a + c from by omega]
end Go.Proofs.Ytgclgcfhcomplaa
