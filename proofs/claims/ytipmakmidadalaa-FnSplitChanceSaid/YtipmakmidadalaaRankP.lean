/-
  Plain laws of ranks: their sum, their order, ranks of the negated numbers, wins.
-/
import Derived.Test.YtipmakmidadalaaRank
import Derived.Test.YtipmakmidadalaaSum
namespace Go.Proofs.Ytipmakmidadalaa
open Go.RowKit

theorem oneRank_two (u v : Int) : oneRank u v + oneRank v u = 2 := by unfold oneRank; repeat (first | omega | split)
theorem oneRank_sgn (v u : Int) : oneRank v u = 1 + sgn (v - u) := by unfold oneRank sgn; repeat (first | omega | split)
theorem rankIn_cons (v u : Int) (ys : List Int) : rankIn v (u :: ys) = oneRank v u + rankIn v ys := by simp only [rankIn, List.map_cons, sumL_cons]
theorem rankIn_append (v : Int) (xs ys : List Int) : rankIn v (xs ++ ys) = rankIn v xs + rankIn v ys := by simp only [rankIn, List.map_append, sumL_append]
theorem rankIn_both (v : Int) (ys : List Int) : rankIn v ys + sumL (ys.map fun y => oneRank y v) = 2 * ys.length := by
  induction ys with
  | nil => simp [rankIn, sumL_nil]
  | cons y ys ih =>
    have := oneRank_two v y
    rw [rankIn_cons, List.map_cons, sumL_cons, List.length_cons]
    simp only [Int.natCast_add, Int.mul_add]
    omega
/-- The sum, over the numbers of one list, of what those of another one add to twice their rank. -/
def winsL (xs ys : List Int) : Int := sumL (xs.map fun x => rankIn x ys)
theorem winsL_cons_left (x : Int) (xs ys : List Int) : winsL (x :: xs) ys = rankIn x ys + winsL xs ys := by simp only [winsL, List.map_cons, sumL_cons]
theorem winsL_cons_right (ys : List Int) (x : Int) (xs : List Int) : winsL ys (x :: xs) = sumL (ys.map fun y => oneRank y x) + winsL ys xs := by
  have : (fun y => rankIn y (x :: xs)) = fun y => oneRank y x + rankIn y xs := by funext y; exact rankIn_cons y x xs
  simp only [winsL, this, sumL_map_add]
theorem winsL_both (xs ys : List Int) : winsL xs ys + winsL ys xs = 2 * (xs.length * ys.length) := by
  induction xs with
  | nil =>
    have : winsL ys [] = 0 := by
      simp only [winsL, rankIn, List.map_nil, sumL_nil, sumL_map_const]
      simp
    rw [this]
    simp [winsL, sumL_nil]
  | cons x xs ih =>
    have h := rankIn_both x ys
    rw [winsL_cons_left, winsL_cons_right, List.length_cons, Int.natCast_add, Int.add_mul]
    have : ((1 : Nat) : Int) * (ys.length : Int) = ys.length := by simp
    omega
theorem winsL_self (xs : List Int) : winsL xs xs = xs.length * xs.length := by have := winsL_both xs xs; omega
theorem winsL_append_right (zs xs ys : List Int) : winsL zs (xs ++ ys) = winsL zs xs + winsL zs ys := by
  simp only [winsL, rankIn_append, sumL_map_add]
theorem sum_rankL (xs : List Int) : sumL (rankL xs) = xs.length * (xs.length + 1) := by
  have h := winsL_self xs
  simp only [winsL] at h
  rw [rankL, sumL_map_add, h, sumL_map_const, Int.mul_add]
  simp
/-- The sum of the ranks, among the numbers of both lists, of the numbers of the first one. -/
theorem sum_ranks_front (xs ys : List Int) : sumL ((rankL (xs ++ ys)).take xs.length) = winsL xs ys + xs.length * (xs.length + 1) := by
  have h := winsL_self xs
  have h2 := winsL_append_right xs xs ys
  rw [rankL, ← List.map_take, List.take_left, sumL_map_add, sumL_map_const]
  simp only [winsL] at h h2 ⊢
  rw [h2, h, Int.mul_add]
  omega

theorem oneRank_mono {v u : Int} (h : v ≤ u) (x : Int) : oneRank v x ≤ oneRank u x := by unfold oneRank; repeat (first | omega | split)
theorem rankIn_mono {v u : Int} (h : v ≤ u) (xs : List Int) : rankIn v xs ≤ rankIn u xs := by
  induction xs with
  | nil => exact Int.le_refl _
  | cons x xs ih => have := oneRank_mono h x; rw [rankIn_cons, rankIn_cons]; omega
theorem rankIn_strict {v u : Int} (h : v < u) {xs : List Int} (hv : v ∈ xs) : rankIn v xs < rankIn u xs := by
  induction xs with
  | nil => simp at hv
  | cons x xs ih =>
    rw [rankIn_cons, rankIn_cons]
    rcases List.mem_cons.1 hv with rfl | hv
    · have h1 := rankIn_mono (Int.le_of_lt h) xs
      have : oneRank v v = 1 := by simp [oneRank]
      have : oneRank u v = 2 := by simp [oneRank, h]
      omega
    · have := ih hv
      have := oneRank_mono (Int.le_of_lt h) x
      omega
theorem rankL_at {xs : List Int} {k : Nat} (hk : k < xs.length) : atL (rankL xs) k = rankIn (atL xs k) xs + 1 := by
  rw [atL_lt (by rw [rankL_len]; exact hk), rankL_get hk, atL_lt hk]
theorem rankL_lt {xs : List Int} {i k : Nat} (hi : i < xs.length) (hk : k < xs.length) : atL (rankL xs) i < atL (rankL xs) k ↔ atL xs i < atL xs k := by
  rw [rankL_at hi, rankL_at hk]
  constructor
  · intro h
    by_cases hc : atL xs i < atL xs k
    · exact hc
    · have := rankIn_mono (v := atL xs k) (u := atL xs i) (by omega) xs
      omega
  · intro h
    have := rankIn_strict h (atL_mem hi)
    omega
end Go.Proofs.Ytipmakmidadalaa
