/-
  Plain laws: how far two samples are apart.
-/
import Derived.Test.YtcmjmnlccempfaaSum
import Derived.Test.YtcmjmnlccempfaaHelp
namespace Go.Proofs.Ytcmjmnlccempfaa
open Go.RowKit

/-- How many numbers are at most x. -/
def cntLe (xs : List Int) (x : Int) : Int := sumTo (fun i => if atL xs i ≤ x then 1 else 0) xs.length
theorem cntLe_bd (xs : List Int) (x : Int) (n : Nat) : 0 ≤ sumTo (fun i => if atL xs i ≤ x then 1 else 0) n ∧ sumTo (fun i => if atL xs i ≤ x then 1 else 0) n ≤ n := by
  induction n with
  | zero => simp [sumTo]
  | succ n ih =>
    rw [sumTo_succ]
    split <;> omega
theorem cntLe_all {xs : List Int} {x : Int} : cntLe xs x = xs.length ↔ ∀ y ∈ xs, y ≤ x := by
  have h : ∀ n, n ≤ xs.length → (sumTo (fun i => if atL xs i ≤ x then 1 else 0) n = n ↔ ∀ i, i < n → atL xs i ≤ x) := by
    intro n
    induction n with
    | zero => intro _; simp [sumTo]
    | succ n ih =>
      intro hn
      have hb := cntLe_bd xs x n
      have ih := ih (by omega)
      rw [sumTo_succ]
      constructor
      · intro h i hi
        by_cases c : atL xs n ≤ x
        · rw [if_pos c] at h
          by_cases e : i = n
          · subst e; exact c
          · exact ih.1 (by omega) i (by omega)
        · rw [if_neg c] at h; omega
      · intro h
        rw [if_pos (h n (by omega)), ih.2 fun i hi => h i (by omega)]
        omega
  rw [cntLe, h _ (Nat.le_refl _)]
  constructor
  · intro h y hy
    obtain ⟨i, hi, rfl⟩ := List.getElem_of_mem hy
    have := h i hi
    rwa [atL_lt hi] at this
  · intro h i hi
    exact h _ (atL_mem hi)
theorem cntLe_none {xs : List Int} {x : Int} : cntLe xs x = 0 ↔ ∀ y ∈ xs, x < y := by
  rw [cntLe, sumTo_eq_zero fun k _ => by split <;> omega]
  constructor
  · intro h y hy
    obtain ⟨i, hi, rfl⟩ := List.getElem_of_mem hy
    have := h i hi
    rw [atL_lt hi] at this
    split at this <;> omega
  · intro h i hi
    have := h _ (atL_mem hi)
    rw [if_neg (by omega)]
theorem cntLe_congr {xs : List Int} {x z : Int} (h : ∀ y ∈ xs, (y ≤ x ↔ y ≤ z)) : cntLe xs x = cntLe xs z :=
  sumTo_congr fun k hk => by
    have := h _ (atL_mem hk)
    by_cases c : atL xs k ≤ x
    · rw [if_pos c, if_pos (this.1 c)]
    · rw [if_neg c, if_neg fun h => c (this.2 h)]
def apartN (xs ys : List Int) (x : Int) : Int := max (cntLe xs x * ys.length - cntLe ys x * xs.length) (-(cntLe xs x * ys.length - cntLe ys x * xs.length))
theorem apartN_swap (xs ys : List Int) (x : Int) : apartN ys xs x = apartN xs ys x := by simp only [apartN]; omega
theorem apartN_nonneg (xs ys : List Int) (x : Int) : 0 ≤ apartN xs ys x := by simp only [apartN]; omega
theorem apartN_bd (xs ys : List Int) (x : Int) : apartN xs ys x ≤ xs.length * ys.length := by
  have h1 := cntLe_bd xs x xs.length
  have h2 := cntLe_bd ys x ys.length
  have e1 : cntLe xs x = _ := rfl
  have m1 := mul_pos_bd (a := cntLe xs x) (b := (ys.length : Int)) (m := xs.length) (n := ys.length) h1 (by omega)
  have m2 := mul_pos_bd (a := cntLe ys x) (b := (xs.length : Int)) (m := ys.length) (n := xs.length) h2 (by omega)
  rw [Int.mul_comm (ys.length : Int)] at m2
  simp only [apartN]
  omega
def gapTo' (xs ys zs : List Int) : Nat → Int
  | 0 => 0
  | k + 1 => max (gapTo' xs ys zs k) (apartN xs ys (atL zs k))
theorem gapTo'_succ (xs ys zs : List Int) (k : Nat) : gapTo' xs ys zs (k + 1) = max (gapTo' xs ys zs k) (apartN xs ys (atL zs k)) := rfl
def gapN (xs ys : List Int) : Int := gapTo' xs ys (xs ++ ys) (xs ++ ys).length
theorem gapTo'_spec (xs ys zs : List Int) : ∀ n, 0 ≤ gapTo' xs ys zs n ∧ (∀ k, k < n → apartN xs ys (atL zs k) ≤ gapTo' xs ys zs n) ∧ (gapTo' xs ys zs n = 0 ∨ ∃ k, k < n ∧ gapTo' xs ys zs n = apartN xs ys (atL zs k)) := by
  intro n
  induction n with
  | zero => exact ⟨Int.le_refl _, fun k hk => by omega, .inl rfl⟩
  | succ n ih =>
    obtain ⟨h0, h1, h2⟩ := ih
    rw [gapTo'_succ]
    refine ⟨by omega, fun k hk => ?_, ?_⟩
    · by_cases e : k = n
      · subst e; omega
      · have := h1 k (by omega); omega
    · rcases Int.le_total (gapTo' xs ys zs n) (apartN xs ys (atL zs n)) with c | c
      · exact .inr ⟨n, by omega, by omega⟩
      · rcases h2 with h2 | ⟨k, hk, h2⟩
        · exact .inl (by omega)
        · exact .inr ⟨k, by omega, by omega⟩
theorem gapN_spec (xs ys : List Int) : 0 ≤ gapN xs ys ∧ (∀ x ∈ xs ++ ys, apartN xs ys x ≤ gapN xs ys) ∧ (gapN xs ys = 0 ∨ ∃ x ∈ xs ++ ys, gapN xs ys = apartN xs ys x) := by
  obtain ⟨h0, h1, h2⟩ := gapTo'_spec xs ys (xs ++ ys) (xs ++ ys).length
  refine ⟨h0, fun x hx => ?_, ?_⟩
  · obtain ⟨i, hi, rfl⟩ := List.getElem_of_mem hx
    have := h1 i hi
    rwa [atL_lt hi] at this
  · rcases h2 with h2 | ⟨k, hk, h2⟩
    · exact .inl h2
    · exact .inr ⟨_, atL_mem hk, h2⟩
theorem gapN_bd (xs ys : List Int) : gapN xs ys ≤ xs.length * ys.length := by
  rcases (gapN_spec xs ys).2.2 with h | ⟨x, _, h⟩
  · rw [h]; exact Int.mul_nonneg (by omega) (by omega)
  · rw [h]; exact apartN_bd xs ys x
theorem gapN_le_swap (xs ys : List Int) : gapN xs ys ≤ gapN ys xs := by
  rcases (gapN_spec xs ys).2.2 with h | ⟨x, hx, h⟩
  · rw [h]; exact (gapN_spec ys xs).1
  · rw [h, ← apartN_swap]; exact (gapN_spec ys xs).2.1 x (by simp at hx ⊢; exact hx.symm)
theorem gapN_swap (xs ys : List Int) : gapN ys xs = gapN xs ys := Int.le_antisymm (gapN_le_swap ys xs) (gapN_le_swap xs ys)

theorem negL_at {xs : List Int} {i : Nat} (h : i < xs.length) : atL (negL xs) i = -atL xs i := by
  rw [atL_lt (by rw [negL_len]; exact h), atL_lt h]
  simp [negL]
/-- Among the numbers turned over: all but those below. -/
theorem cntLe_neg {xs : List Int} {x z : Int} (h : ∀ y ∈ xs, (y < x ↔ y ≤ z)) : cntLe (negL xs) (-x) = xs.length - cntLe xs z := by
  have e : cntLe (negL xs) (-x) + cntLe xs z = sumTo (fun _ => 1) xs.length := by
    rw [cntLe, cntLe, negL_len, ← sumTo_add]
    refine sumTo_congr fun k hk => ?_
    have := h _ (atL_mem hk)
    rw [negL_at hk]
    by_cases c : atL xs k ≤ z
    · rw [if_pos c, if_neg (by have := this.2 c; omega)]; rfl
    · rw [if_neg c, if_pos (by have := fun h => c (this.1 h); omega)]; rfl
  rw [sumTo_const] at e
  omega
theorem cntLe_neg0 {xs : List Int} {x : Int} (h : ∀ y ∈ xs, x ≤ y) : cntLe (negL xs) (-x) = xs.length := by
  rw [← negL_len xs, cntLe_all]
  intro y hy
  simp [negL] at hy
  obtain ⟨a, ha, rfl⟩ := hy
  have := h a ha
  omega
theorem gapN_neg_le (xs ys : List Int) : gapN (negL xs) (negL ys) ≤ gapN xs ys := by
  rcases (gapN_spec (negL xs) (negL ys)).2.2 with h | ⟨x', hx', h⟩
  · rw [h]; exact (gapN_spec xs ys).1
  · rw [h]
    obtain ⟨x, hx⟩ : ∃ x, x' = -x := ⟨-x', by omega⟩
    subst hx
    by_cases hz : ∃ y ∈ xs ++ ys, y < x
    · have hne : (xs ++ ys).filter (fun y => decide (y < x)) ≠ [] := by
        obtain ⟨y, hy, hyx⟩ := hz
        exact List.ne_nil_of_mem (List.mem_filter.2 ⟨hy, by simpa using hyx⟩)
      have hm := maxL_mem hne
      obtain ⟨z, hzd⟩ : ∃ z, maxL ((xs ++ ys).filter (fun y => decide (y < x))) = z := ⟨_, rfl⟩
      have hmax : ∀ y ∈ xs ++ ys, y < x → y ≤ z := fun y hy hyx => by
        rw [← hzd]
        exact le_maxL (List.mem_filter.2 ⟨hy, by simpa using hyx⟩)
      rw [hzd] at hm
      obtain ⟨hm1, hm2⟩ := List.mem_filter.1 hm
      have hm2 : z < x := by simpa using hm2
      have e1 : cntLe (negL xs) (-x) = xs.length - cntLe xs z := cntLe_neg fun y hy => ⟨fun h => hmax y (by simp [hy]) h, fun h => by omega⟩
      have e2 : cntLe (negL ys) (-x) = ys.length - cntLe ys z := cntLe_neg fun y hy => ⟨fun h => hmax y (by simp [hy]) h, fun h => by omega⟩
      have := (gapN_spec xs ys).2.1 z hm1
      have e3 : apartN (negL xs) (negL ys) (-x) = apartN xs ys z := by
        simp only [apartN, e1, e2, negL_len, Int.sub_mul]
        rw [Int.mul_comm (ys.length : Int) xs.length]
        omega
      rw [e3]
      exact this
    · have hall : ∀ y ∈ xs ++ ys, x ≤ y := fun y hy => Int.not_lt.1 fun h => hz ⟨y, hy, h⟩
      have e1 := cntLe_neg0 (xs := xs) (x := x) fun y hy => hall y (by simp [hy])
      have e2 := cntLe_neg0 (xs := ys) (x := x) fun y hy => hall y (by simp [hy])
      have e3 : apartN (negL xs) (negL ys) (-x) = 0 := by
        simp only [apartN, e1, e2, negL_len]
        rw [Int.mul_comm (ys.length : Int) xs.length]
        omega
      rw [e3]
      exact (gapN_spec xs ys).1
theorem negL_negL (xs : List Int) : negL (negL xs) = xs := by
  induction xs with
  | nil => rfl
  | cons x xs ih =>
    show - -x :: negL (negL xs) = x :: xs
    rw [ih, Int.neg_neg]
theorem gapN_neg (xs ys : List Int) : gapN (negL xs) (negL ys) = gapN xs ys :=
  Int.le_antisymm (gapN_neg_le xs ys) (by have := gapN_neg_le (negL xs) (negL ys); rwa [negL_negL, negL_negL] at this)
theorem gap_one {xs ys : List Int} {x : Int} (hx : xs ≠ []) (hy : ys ≠ []) (h : cntLe xs x * ys.length - cntLe ys x * xs.length = xs.length * ys.length) : maxL xs < minL ys := by
  have hl1 : 0 < xs.length := List.length_pos_iff.2 hx
  have hl2 : 0 < ys.length := List.length_pos_iff.2 hy
  have h1 : 0 ≤ cntLe xs x ∧ cntLe xs x ≤ xs.length := cntLe_bd xs x xs.length
  have h2 : 0 ≤ cntLe ys x ∧ cntLe ys x ≤ ys.length := cntLe_bd ys x ys.length
  have m1 := mul_pos_bd (a := cntLe xs x) (b := (ys.length : Int)) (m := xs.length) (n := ys.length) h1 (by omega)
  have m2 := mul_pos_bd (a := cntLe ys x) (b := (xs.length : Int)) (m := ys.length) (n := xs.length) h2 (by omega)
  have e1 : cntLe ys x = 0 := by
    have : cntLe ys x * xs.length = 0 := by omega
    rcases Int.mul_eq_zero.1 this with h | h
    · exact h
    · omega
  have e2 : cntLe xs x = xs.length := by
    rw [e1, Int.zero_mul, Int.sub_zero] at h
    exact Int.eq_of_mul_eq_mul_right (by omega) h
  have a1 := cntLe_all.1 e2 _ (maxL_mem hx)
  have a2 := cntLe_none.1 e1 _ (minL_mem hy)
  omega
theorem one_gap {xs ys : List Int} (hx : xs ≠ []) (hy : ys ≠ []) (h : maxL xs < minL ys) : gapN xs ys = xs.length * ys.length := by
  have e2 : cntLe xs (maxL xs) = xs.length := cntLe_all.2 fun y hy => le_maxL hy
  have e1 : cntLe ys (maxL xs) = 0 := cntLe_none.2 fun y hy => by have := minL_le hy; omega
  have h1 := (gapN_spec xs ys).2.1 (maxL xs) (by simp [maxL_mem hx])
  have h2 := gapN_bd xs ys
  have e3 : apartN xs ys (maxL xs) = xs.length * ys.length := by
    simp only [apartN, e1, e2]
    have := Int.mul_nonneg (a := (xs.length : Int)) (b := ys.length) (by omega) (by omega)
    omega
  omega
theorem gap_apart {xs ys : List Int} (hx : xs ≠ []) (hy : ys ≠ []) : gapN xs ys = xs.length * ys.length ↔ (maxL xs < minL ys ∨ maxL ys < minL xs) := by
  have hl1 : 0 < xs.length := List.length_pos_iff.2 hx
  have hl2 : 0 < ys.length := List.length_pos_iff.2 hy
  constructor
  · intro h
    rcases (gapN_spec xs ys).2.2 with h0 | ⟨x, _, h0⟩
    · rw [h0] at h
      have := Int.mul_pos (a := (xs.length : Int)) (b := ys.length) (by omega) (by omega)
      omega
    · rw [h0, apartN] at h
      by_cases c : cntLe xs x * ys.length - cntLe ys x * xs.length = xs.length * ys.length
      · exact .inl (gap_one hx hy c)
      · exact .inr (gap_one (x := x) hy hx (by rw [Int.mul_comm (ys.length : Int)]; omega))
  · intro h
    rcases h with h | h
    · exact one_gap hx hy h
    · rw [← gapN_swap, one_gap hy hx h, Int.mul_comm]
end Go.Proofs.Ytcmjmnlccempfaa
