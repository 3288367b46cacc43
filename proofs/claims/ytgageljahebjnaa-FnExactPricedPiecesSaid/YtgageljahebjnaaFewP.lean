
/-
  Plain laws on pieces with room: the greedy way, cuts, and what is least.
-/
import Derived.Test.YtgageljahebjnaaVal
namespace Go.Proofs.Ytgageljahebjnaa
open Go.RowKit

/-- The greatest less the least number from index i up to m. -/
def sprd (xs : List Int) (i m : Nat) : Int := maxL (seg xs i m) - minL (seg xs i m)
/-- The first indices of the longest pieces with room, of the first k numbers. -/
def fw (room : Int) (xs : List Int) : Nat → List Nat
  | 0 => [0]
  | k + 1 => if room < sprd xs ((fw room xs k).getLastD 0) (k + 1) then fw room xs k ++ [k] else fw room xs k
def ints' (l : List Nat) : List Int := l.map fun (n : Nat) => (n : Int)
theorem ints'_len (l : List Nat) : (ints' l).length = l.length := by simp [ints']
theorem fw_ne (room : Int) (xs : List Int) (k : Nat) : fw room xs k ≠ [] := by
  induction k with
  | zero => simp [fw]
  | succ k ih => unfold fw; split <;> simp [ih]
theorem fw_len (room : Int) (xs : List Int) (k : Nat) : 1 ≤ (fw room xs k).length ∧ (fw room xs k).length ≤ k + 1 := by
  constructor
  · have := fw_ne room xs k
    cases h : fw room xs k with
    | nil => exact absurd h this
    | cons a l => simp
  · induction k with
    | zero => simp [fw]
    | succ k ih => unfold fw; split <;> (try simp) <;> omega
theorem getLastD_snoc {α : Type} (l : List α) (a d : α) : (l ++ [a]).getLastD d = a := by simp
theorem fw_last (room : Int) (xs : List Int) (k : Nat) : (fw room xs k).getLastD 0 < k ∨ (k = 0 ∧ (fw room xs k).getLastD 0 = 0) := by
  induction k with
  | zero => right; simp [fw]
  | succ k ih =>
    left
    unfold fw
    split
    · rw [getLastD_snoc]; omega
    · rcases ih with h | ⟨rfl, h⟩ <;> omega
theorem seg_single {xs : List Int} {k : Nat} (h : k < xs.length) : seg xs k (k + 1) = [xs[k]] := by rw [seg_succ (Nat.le_refl _) h, seg_self]; rfl
theorem sprd_single {xs : List Int} {k : Nat} (h : k < xs.length) : sprd xs k (k + 1) = 0 := by rw [sprd, seg_single h]; simp [maxL, minL]
theorem seg_ne {xs : List Int} {i m : Nat} (h : i < m) (hm : m ≤ xs.length) : seg xs i m ≠ [] := by
  intro e
  have := seg_len (xs := xs) (i := i) hm
  rw [e] at this
  simp at this
  omega
theorem sprd_bounds {lo hi : Int} {xs : List Int} (h : allB lo hi xs = true) {i m : Nat} (hi' : i < m) (hm : m ≤ xs.length) : 0 ≤ sprd xs i m ∧ sprd xs i m ≤ hi - lo := by
  have := minL_bounds (seg_allB h i m) (seg_ne hi' hm)
  unfold sprd
  omega
theorem fw_one {xs : List Int} (h : 0 < xs.length) (room : Nat) : fw room xs 1 = [0] := by
  have := sprd_single (xs := xs) (k := 0) h
  have h2 : ¬ (room : Int) < 0 := by omega
  simp [fw, this, h2]
/-- The least room for which the greedy way needs at most p pieces. -/
def IsLR (xs : List Int) (p : Int) (r : Nat) : Prop := ((fw r xs xs.length).length : Int) ≤ p ∧ ∀ r' : Nat, r' < r → p < ((fw r' xs xs.length).length : Int)
theorem IsLR.eq {xs : List Int} {p : Int} {r r' : Nat} (h : IsLR xs p r) (h' : IsLR xs p r') : r = r' := by
  rcases Nat.lt_trichotomy r r' with h1 | h1 | h1
  · have := h'.2 r h1; have := h.1; omega
  · exact h1
  · have := h.2 r' h1; have := h'.1; omega
theorem fw_wide {xs : List Int} (h : allB (-30) 30 xs = true) {room : Int} (hr : 60 ≤ room) : ∀ k, k ≤ xs.length → fw room xs k = [0] := by
  intro k
  induction k with
  | zero => intro _; rfl
  | succ k ih =>
    intro hk
    have e := ih (by omega)
    unfold fw
    rw [e]
    have := sprd_bounds h (i := 0) (m := k + 1) (by omega) hk
    simp
    omega
end Go.Proofs.Ytgageljahebjnaa
