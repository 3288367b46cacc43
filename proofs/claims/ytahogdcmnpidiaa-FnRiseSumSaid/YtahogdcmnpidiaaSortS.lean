/-
  The reference's sorted: numbers put in, one after the other, behind those that are not greater.
-/
import Derived.Test.YtahogdcmnpidiaaLoadsD
import Derived.Test.YtahogdcmnpidiaaVal
import Derived.Deep.RegionHeld3
namespace Go.Proofs.Ytahogdcmnpidiaa
open Go.RowKit

/-- In order. -/
def AscL (ys : List Int) : Prop := ∀ i j, i ≤ j → j < ys.length → atL ys i ≤ atL ys j
/-- The numbers of xs, in order. -/
def IsSorted (xs ys : List Int) : Prop := ys.length = xs.length ∧ AscL ys ∧ ∀ x, x ∈ ys ↔ x ∈ xs
theorem IsSorted.nil : IsSorted [] [] := ⟨rfl, fun i j _ hj => by simp at hj, fun x => Iff.rfl⟩
theorem at_app_left {ys zs : List Int} {j : Nat} (h : j < ys.length) : atL (ys ++ zs) j = atL ys j := by simp [atL, List.getD, List.getElem?_append_left h]
theorem at_app_right {ys zs : List Int} {j : Nat} (h : ys.length ≤ j) : atL (ys ++ zs) j = atL zs (j - ys.length) := by simp [atL, List.getD, List.getElem?_append_right h]
theorem at_take {ys : List Int} {k j : Nat} (h : j < k) : atL (ys.take k) j = atL ys j := by simp [atL, List.getD, List.getElem?_take, h]
theorem at_drop {ys : List Int} {k j : Nat} : atL (ys.drop k) j = atL ys (k + j) := by simp [atL, List.getD, List.getElem?_drop]
theorem at_mem {ys : List Int} {j : Nat} (h : j < ys.length) : atL ys j ∈ ys := by
  have : atL ys j = ys[j] := by simp [atL, List.getD, h]
  rw [this]
  exact List.getElem_mem h
theorem at_ins {ys : List Int} {k : Nat} {x : Int} (hk : k ≤ ys.length) (j : Nat) : atL (ys.take k ++ [x] ++ ys.drop k) j = if j < k then atL ys j else if j = k then x else atL ys (j - 1) := by
  have hl : (ys.take k).length = k := by simp; omega
  rw [List.append_assoc]
  by_cases h1 : j < k
  · rw [if_pos h1, at_app_left (by omega), at_take h1]
  · rw [if_neg h1, at_app_right (by omega), hl]
    by_cases h2 : j = k
    · subst h2
      rw [if_pos rfl, Nat.sub_self]
      rfl
    · rw [if_neg h2]
      obtain ⟨m, hm⟩ : ∃ m, j - k = m + 1 := ⟨j - k - 1, by omega⟩
      rw [hm]
      show atL (ys.drop k) m = _
      rw [at_drop]
      congr 1
      omega
/-- One number more. -/
theorem IsSorted.put {xs ys : List Int} {k : Nat} {x : Int} (h : IsSorted xs ys) (hk : k ≤ ys.length) (h1 : ∀ j, j < k → atL ys j ≤ x) (h2 : k < ys.length → x < atL ys k) : IsSorted (xs ++ [x]) (ys.take k ++ [x] ++ ys.drop k) := by
  obtain ⟨e1, e2, e3⟩ := h
  have hlen : (ys.take k ++ [x] ++ ys.drop k).length = ys.length + 1 := by simp; omega
  refine ⟨by rw [hlen]; simp [e1], fun i j hij hj => ?_, fun y => ?_⟩
  · rw [hlen] at hj
    rw [at_ins hk, at_ins hk]
    by_cases a1 : j < k
    · rw [if_pos a1, if_pos (show i < k by omega)]
      exact e2 i j hij (by omega)
    · rw [if_neg a1]
      by_cases a2 : j = k
      · rw [if_pos a2]
        by_cases a3 : i < k
        · rw [if_pos a3]; exact h1 i a3
        · rw [if_neg a3, if_pos (show i = k by omega)]; exact Int.le_refl _
      · rw [if_neg a2]
        have hx := h2 (by omega)
        have hk2 := e2 k (j - 1) (by omega) (by omega)
        by_cases a3 : i < k
        · rw [if_pos a3]; exact e2 i (j - 1) (by omega) (by omega)
        · rw [if_neg a3]
          by_cases a4 : i = k
          · rw [if_pos a4]; omega
          · rw [if_neg a4]; exact e2 (i - 1) (j - 1) (by omega) (by omega)
  · have e4 : y ∈ ys ↔ y ∈ ys.take k ∨ y ∈ ys.drop k := by
      rw [← List.mem_append, List.take_append_drop]
    simp only [List.mem_append, List.mem_singleton]
    rw [← e3 y, e4]
    constructor
    · rintro ((h | h) | h)
      · exact .inl (.inl h)
      · exact .inr h
      · exact .inl (.inr h)
    · rintro ((h | h) | h)
      · exact .inl (.inl h)
      · exact .inr h
      · exact .inl (.inr h)
end Go.Proofs.Ytahogdcmnpidiaa
