/-
  Plain laws on what a piece misses: it is 0 exactly if all numbers are the same, and no less with one number more; bounds.
-/
import Derived.Test.YtgcpglefkkpdjaaMiss
namespace Go.Proofs.Ytgcpglefkkpdjaa
open Go.RowKit

/-- n times what a piece misses. -/
def missN (ys : List Int) : Int := ys.length * sqL ys - sumL ys * sumL ys
/-- The squares of the distances from y. -/
def offL (ys : List Int) (y : Int) : Int := sqL ys - 2 * sumL ys * y + ys.length * (y * y)

theorem offL_snoc (ys : List Int) (z y : Int) : offL (ys ++ [z]) y = offL ys y + (z - y) * (z - y) := by
  unfold offL
  rw [sqL_snoc, sumL_snoc, List.length_append, List.length_singleton]
  simp only [Int.natCast_add, Int.sub_mul, Int.mul_sub, Int.mul_add, Int.add_mul, Int.natCast_one, Int.one_mul]
  have : z * y = y * z := Int.mul_comm z y
  have h2 : 2 * z * y = 2 * (z * y) := Int.mul_assoc 2 z y
  omega
theorem missN_snoc (ys : List Int) (y : Int) : missN (ys ++ [y]) = missN ys + offL ys y := by
  unfold missN offL
  rw [sqL_snoc, sumL_snoc, List.length_append, List.length_singleton]
  simp only [Int.natCast_add, Int.mul_add, Int.add_mul, Int.natCast_one, Int.one_mul]
  have h1 : y * sumL ys = sumL ys * y := Int.mul_comm ..
  have h2 : 2 * sumL ys * y = 2 * (sumL ys * y) := Int.mul_assoc ..
  omega
theorem sq_nonneg' (z : Int) : 0 ≤ z * z := by
  rcases Int.le_total 0 z with h | h
  · exact Int.mul_nonneg h h
  · have := Int.mul_nonneg (a := -z) (b := -z) (by omega) (by omega)
    rwa [Int.neg_mul_neg] at this
theorem sq_zero {z : Int} (h : z * z = 0) : z = 0 := by
  rcases Int.mul_eq_zero.1 h with h | h <;> exact h
theorem offL_nonneg (y : Int) : ∀ (n : Nat) (ys : List Int), ys.length = n → 0 ≤ offL ys y ∧ (offL ys y = 0 ↔ ∀ z ∈ ys, z = y) := by
  intro n
  induction n with
  | zero => intro ys h; obtain rfl := List.eq_nil_of_length_eq_zero h; simp [offL, sqL, sumL]
  | succ n ih =>
    intro ys hl
    have hne : ys ≠ [] := by rintro rfl; simp at hl
    have he := List.dropLast_concat_getLast hne
    obtain ⟨h1, h2⟩ := ih ys.dropLast (by simp [hl])
    rw [← he, offL_snoc]
    have h3 := sq_nonneg' (ys.getLast hne - y)
    refine ⟨by omega, ?_⟩
    constructor
    · intro h z hz
      have e1 : offL ys.dropLast y = 0 := by omega
      have e2 := sq_zero (z := ys.getLast hne - y) (by omega)
      rcases List.mem_append.1 hz with hz | hz
      · exact h2.1 e1 z hz
      · simp at hz; omega
    · intro h
      have e1 := h2.2 fun z hz => h z (List.mem_append_left _ hz)
      have e2 := h (ys.getLast hne) (by simp)
      rw [e1, e2]; simp
theorem missN_nonneg : ∀ (n : Nat) (ys : List Int), ys.length = n → 0 ≤ missN ys ∧ (missN ys = 0 ↔ ∀ z ∈ ys, ∀ y ∈ ys, z = y) := by
  intro n
  induction n with
  | zero => intro ys h; obtain rfl := List.eq_nil_of_length_eq_zero h; simp [missN, sqL, sumL]
  | succ n ih =>
    intro ys hl
    have hne : ys ≠ [] := by rintro rfl; simp at hl
    have he := List.dropLast_concat_getLast hne
    obtain ⟨h1, h2⟩ := ih ys.dropLast (by simp [hl])
    obtain ⟨h3, h4⟩ := offL_nonneg (ys.getLast hne) _ ys.dropLast rfl
    rw [← he, missN_snoc]
    refine ⟨by omega, ?_⟩
    constructor
    · intro h
      have e := h4.1 (by omega)
      intro z hz y hy
      have : ∀ x ∈ ys.dropLast ++ [ys.getLast hne], x = ys.getLast hne := by
        intro x hx
        rcases List.mem_append.1 hx with hx | hx
        · exact e x hx
        · simpa using hx
      rw [this z hz, this y hy]
    · intro h
      have e1 := h2.2 fun z hz y hy => h z (List.mem_append_left _ hz) y (List.mem_append_left _ hy)
      have e2 := h4.2 fun z hz => h z (List.mem_append_left _ hz) _ (by simp)
      omega
theorem missR_eq (ys : List Int) : missR ys = qf (missN ys) ys.length := rfl
theorem qf_num_zero (u d : Int) (hd : 0 < d) : (qf u d).num = 0 ↔ u = 0 := by
  unfold qf
  constructor
  · intro h
    have h1 : Rat.divInt u d = 0 := Rat.num_eq_zero.1 h
    rwa [← Rat.zero_divInt d, Rat.divInt_eq_divInt_iff (by omega) (by omega), Int.zero_mul, Int.mul_eq_zero, or_iff_left (by omega)] at h1
  · rintro rfl
    simp
theorem qf_parts (u d : Int) (hd : 0 < d) : ∃ g : Int, 0 < g ∧ u = (qf u d).num * g ∧ d = ((qf u d).den : Int) * g := by
  refine ⟨(Int.gcd u d : Int), gcd_pos' (by omega), ?_, ?_⟩
  · rw [← tdiv_gcd_num u d hd]
    exact (Int.tdiv_mul_cancel (Int.gcd_dvd_left ..)).symm
  · rw [← tdiv_gcd_den u d hd]
    exact (Int.tdiv_mul_cancel (Int.gcd_dvd_right ..)).symm
theorem qf_lt {u d u' d' : Int} (hd : 0 < d) (hd' : 0 < d') : qf u d < qf u' d' ↔ u * d' < u' * d := by
  obtain ⟨g, hg, h1, h2⟩ := qf_parts u d hd
  obtain ⟨g', hg', h3, h4⟩ := qf_parts u' d' hd'
  rw [Rat.lt_iff]
  have e1 : u * d' = ((qf u d).num * (qf u' d').den) * (g * g') := by
    conv => lhs; rw [h1, h4]
    rw [Int.mul_assoc, Int.mul_assoc, Int.mul_left_comm g]
  have e2 : u' * d = ((qf u' d').num * (qf u d).den) * (g * g') := by
    conv => lhs; rw [h3, h2]
    rw [Int.mul_assoc, Int.mul_assoc, Int.mul_left_comm g', Int.mul_comm g' g]
  rw [e1, e2]
  have hgg : 0 < g * g' := Int.mul_pos hg hg'
  exact ⟨fun h => Int.mul_lt_mul_of_pos_right h hgg, fun h => Int.lt_of_mul_lt_mul_right h (Int.le_of_lt hgg)⟩
theorem missN_mul (ys : List Int) (y : Int) : missN ys * ((ys.length : Int) + 1) ≤ missN (ys ++ [y]) * ys.length := by
  rw [missN_snoc, Int.add_mul, Int.mul_add, Int.mul_one]
  have h : missN ys ≤ offL ys y * ys.length := by
    have e : offL ys y * ys.length - missN ys = (ys.length * y - sumL ys) * (ys.length * y - sumL ys) := by
      unfold offL missN
      simp only [Int.add_mul, Int.sub_mul, Int.mul_sub]
      have h1 : (ys.length : Int) * sqL ys = sqL ys * ys.length := Int.mul_comm ..
      have h2 : 2 * sumL ys * y * (ys.length : Int) = 2 * (ys.length * y * sumL ys) := by
        rw [Int.mul_assoc 2, Int.mul_assoc 2]; congr 1; rw [Int.mul_comm (sumL ys * y), ← Int.mul_assoc, Int.mul_assoc, Int.mul_comm (sumL ys), ← Int.mul_assoc]
      have h3 : (ys.length : Int) * (y * y) * ys.length = ys.length * y * (ys.length * y) := by
        rw [Int.mul_comm ((ys.length : Int) * (y * y)), Int.mul_assoc (ys.length : Int) y, Int.mul_left_comm y]
      have h4 : sumL ys * ((ys.length : Int) * y) = ys.length * y * sumL ys := Int.mul_comm ..
      omega
    have := sq_nonneg' (ys.length * y - sumL ys)
    omega
  omega
theorem qf_bounds {u d M N : Int} (hu : -M ≤ u ∧ u ≤ M) (hd : 0 < d ∧ d ≤ N) : (-M ≤ (qf u d).num ∧ (qf u d).num ≤ M) ∧ 0 < ((qf u d).den : Int) ∧ ((qf u d).den : Int) ≤ N := by
  have h1 := tdiv_gcd_num u d hd.1
  have h2 := tdiv_gcd_den u d hd.1
  have b1 := tdiv_bound u (Int.gcd u d) hu
  have b2 := tdiv_bound d (Int.gcd u d) (M := N) (by omega)
  rw [h1] at b1
  rw [h2] at b2
  refine ⟨b1, ?_, b2.2⟩
  have := (qf u d).den_pos
  omega
end Go.Proofs.Ytgcpglefkkpdjaa
