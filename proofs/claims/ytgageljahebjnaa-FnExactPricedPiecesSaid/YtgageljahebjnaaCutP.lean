
/-
  Plain laws on cutting a list into pieces: all ways by the bits of a number, and what is least.
-/
import Derived.Test.YtgageljahebjnaaFewP
namespace Go.Proofs.Ytgageljahebjnaa
open Go.RowKit

/-- The pieces by the bits of s, of the first k numbers, and where the next one begins. -/
def stp (xs : List Int) (s : Nat) : Nat → List (List Int) × Nat
  | 0 => ([], 0)
  | k + 1 => if k + 1 = xs.length ∨ s.testBit k = true then ((stp xs s k).1 ++ [seg xs (stp xs s k).2 (k + 1)], k + 1) else stp xs s k
theorem stp_succ (xs : List Int) (s k : Nat) : stp xs s (k + 1) = if k + 1 = xs.length ∨ s.testBit k = true then ((stp xs s k).1 ++ [seg xs (stp xs s k).2 (k + 1)], k + 1) else stp xs s k := rfl
def partsOf (xs : List Int) (s : Nat) : List (List Int) := (stp xs s xs.length).1

theorem seg_zero (xs : List Int) (k : Nat) : seg xs 0 k = xs.take k := by simp [seg]
theorem seg_join {xs : List Int} {i k m : Nat} (h1 : i ≤ k) (h2 : k ≤ m) : seg xs i k ++ seg xs k m = seg xs i m := by
  unfold seg
  have : xs.drop k = (xs.drop i).drop (k - i) := by rw [List.drop_drop]; congr 1; omega
  rw [this, show m - i = (k - i) + (m - k) from by omega, List.take_add]
theorem stp_inv (xs : List Int) (s : Nat) : ∀ k, k ≤ xs.length → (stp xs s k).2 ≤ k ∧ (stp xs s k).1.flatten = seg xs 0 (stp xs s k).2 ∧ (∀ l ∈ (stp xs s k).1, l ≠ []) ∧ (stp xs s k).1.length ≤ k ∧ (k = xs.length → (stp xs s k).2 = k) ∧ (0 < k → k = xs.length → 1 ≤ (stp xs s k).1.length) := by
  intro k
  induction k with
  | zero => intro _; simp [stp, seg]
  | succ k ih =>
    intro hk
    obtain ⟨h1, h2, h3, h4, h5, h6⟩ := ih (by omega)
    rw [stp_succ]
    split
    · next hc =>
      refine ⟨Nat.le_refl _, ?_, ?_, ?_, fun _ => rfl, fun _ _ => by simp⟩
      · simp only [List.flatten_append, h2, List.flatten_singleton]
        exact seg_join (by omega) (by omega)
      · intro l hl
        rcases List.mem_append.1 hl with hl | hl
        · exact h3 l hl
        · simp only [List.mem_singleton] at hl
          subst hl
          exact seg_ne (by omega) hk
      · simp; omega
    · next hc => exact ⟨by omega, h2, h3, by omega, fun e => absurd (.inl e) hc, fun _ e => absurd (.inl e) hc⟩
theorem partsOf_flat (xs : List Int) (s : Nat) : (partsOf xs s).flatten = xs := by
  have := stp_inv xs s xs.length (Nat.le_refl _)
  rw [partsOf, this.2.1, this.2.2.2.2.1 rfl, seg_all]
theorem stp_bits {xs : List Int} {s s' : Nat} : ∀ k, (∀ j, j < k → s.testBit j = s'.testBit j) → stp xs s k = stp xs s' k := by
  intro k
  induction k with
  | zero => intro _; rfl
  | succ k ih => intro h; rw [stp_succ, stp_succ, ih fun j hj => h j (by omega), h k (by omega)]
theorem stp_quiet {xs : List Int} {s m : Nat} : ∀ d, m + d < xs.length ∨ d = 0 → (∀ j, m ≤ j → j < m + d → s.testBit j = false) → stp xs s (m + d) = stp xs s m := by
  intro d
  induction d with
  | zero => intro _ _; rfl
  | succ d ih =>
    intro h hb
    rw [← Nat.add_assoc, stp_succ, if_neg, ih (by omega) fun j h1 h2 => hb j h1 (by omega)]
    rintro (e | e)
    · omega
    · rw [hb (m + d) (by omega) (by omega)] at e; simp at e
theorem parts_onto {xs : List Int} : ∀ (n : Nat) (L : List (List Int)), L.length = n → (∀ l ∈ L, l ≠ []) → ∀ m, m < xs.length → L.flatten = xs.take m → ∃ s, s < 2 ^ m ∧ stp xs s m = (L, m) := by
  intro n
  induction n with
  | zero =>
    intro L hl _ m hm hf
    obtain rfl := List.eq_nil_of_length_eq_zero hl
    have : m = 0 := by
      have := congrArg List.length hf
      rw [List.flatten_nil, List.length_nil, List.length_take] at this
      omega
    subst this
    exact ⟨0, by simp, rfl⟩
  | succ n ih =>
    intro L hl hne m hm hf
    have hL : L ≠ [] := by rintro rfl; simp at hl
    have he := List.dropLast_concat_getLast hL
    obtain ⟨l, hl'⟩ : ∃ l, l = L.getLast hL := ⟨_, rfl⟩
    have hlne : l ≠ [] := by rw [hl']; exact hne _ (List.getLast_mem hL)
    have hlen : 1 ≤ l.length := by cases l with
      | nil => exact absurd rfl hlne
      | cons a b => simp
    rw [← hl'] at he
    have hff : L.dropLast.flatten ++ l = xs.take m := by rw [← hf, ← he]; simp
    have hml : L.dropLast.flatten.length + l.length = m := by
      have := congrArg List.length hff
      simp at this
      simp
      omega
    obtain ⟨m', hm'⟩ : ∃ m', m' = L.dropLast.flatten.length := ⟨_, rfl⟩
    have hpre : L.dropLast.flatten = xs.take m' := by
      have := congrArg (List.take m') hff
      rw [List.take_append_of_le_length (by omega), List.take_of_length_le (by omega), List.take_take, Nat.min_eq_left (by omega)] at this
      exact this
    obtain ⟨s, hs, hst⟩ := ih L.dropLast (by simp [hl]) (fun x hx => hne x (List.dropLast_subset L hx)) m' (by omega) hpre
    have hsm : s < 2 ^ (m - 1) := Nat.lt_of_lt_of_le hs (Nat.pow_le_pow_right (by omega) (by omega))
    refine ⟨2 ^ (m - 1) + s, ?_, ?_⟩
    · have : 2 ^ m = 2 ^ (m - 1) + 2 ^ (m - 1) := by rw [show m = (m - 1) + 1 from by omega, Nat.pow_succ]; simp; omega
      omega
    · have hb : ∀ j, j < m - 1 → (2 ^ (m - 1) + s).testBit j = s.testBit j := fun j hj => Nat.testBit_two_pow_add_gt hj s
      have h1 : stp xs (2 ^ (m - 1) + s) m' = (L.dropLast, m') := by rw [stp_bits m' fun j hj => hb j (by omega), hst]
      have h2 : stp xs (2 ^ (m - 1) + s) (m - 1) = (L.dropLast, m') := by
        have h3 : ∀ j, m' ≤ j → j < m' + (m - 1 - m') → (2 ^ (m - 1) + s).testBit j = false := by
          intro j h3 h4
          rw [hb j (by omega)]
          exact Nat.testBit_lt_two_pow (Nat.lt_of_lt_of_le hs (Nat.pow_le_pow_right (by omega) h3))
        have := stp_quiet (xs := xs) (s := 2 ^ (m - 1) + s) (m := m') (m - 1 - m') (by omega) h3
        rw [show m' + (m - 1 - m') = m - 1 from by omega] at this
        rw [this, h1]
      have h5 : (2 ^ (m - 1) + s).testBit (m - 1) = true := by
        rw [Nat.testBit_two_pow_add_eq, Nat.testBit_lt_two_pow hsm]; rfl
      have h6 : stp xs (2 ^ (m - 1) + s) ((m - 1) + 1) = (L, m) := by
        rw [stp_succ, if_pos (.inr h5), h2]
        simp only [Prod.mk.injEq]
        refine ⟨?_, by omega⟩
        conv => rhs; rw [← he]
        congr 2
        rw [show m - 1 + 1 = m from by omega]
        have := congrArg (List.drop m') hff
        rw [List.drop_append_of_le_length (by omega), hm', List.drop_length, List.nil_append] at this
        rw [this, ← hm', seg, List.drop_take]
      rwa [show m - 1 + 1 = m from by omega] at h6
/-- Every way to cut is some number's. -/
theorem parts_all {xs : List Int} {L : List (List Int)} (h0 : 0 < xs.length) (hne : ∀ l ∈ L, l ≠ []) (hf : L.flatten = xs) : ∃ s, s < 2 ^ (xs.length - 1) ∧ partsOf xs s = L := by
  have hL : L ≠ [] := by rintro rfl; rw [← hf] at h0; simp at h0
  have he := List.dropLast_concat_getLast hL
  obtain ⟨l, hl'⟩ : ∃ l, l = L.getLast hL := ⟨_, rfl⟩
  have hlne : l ≠ [] := by rw [hl']; exact hne _ (List.getLast_mem hL)
  have hlen : 1 ≤ l.length := by cases l with
    | nil => exact absurd rfl hlne
    | cons a b => simp
  rw [← hl'] at he
  have hff : L.dropLast.flatten ++ l = xs := by
    rw [← hf]
    conv => rhs; rw [← he]
    simp
  obtain ⟨m', hm'⟩ : ∃ m', m' = L.dropLast.flatten.length := ⟨_, rfl⟩
  have hml : m' + l.length = xs.length := by
    have := congrArg List.length hff
    rw [List.length_append] at this
    omega
  have hpre : L.dropLast.flatten = xs.take m' := by
    have := congrArg (List.take m') hff
    rw [List.take_append_of_le_length (by omega), List.take_of_length_le (by omega)] at this
    exact this
  obtain ⟨s, hs, hst⟩ := parts_onto _ L.dropLast rfl (fun x hx => hne x (List.dropLast_subset L hx)) m' (by omega) hpre
  refine ⟨s, Nat.lt_of_lt_of_le hs (Nat.pow_le_pow_right (by omega) (by omega)), ?_⟩
  unfold partsOf
  have h2 : stp xs s (xs.length - 1) = (L.dropLast, m') := by
    have := stp_quiet (xs := xs) (s := s) (m := m') (xs.length - 1 - m') (by omega) (fun j h3 h4 => Nat.testBit_lt_two_pow (Nat.lt_of_lt_of_le hs (Nat.pow_le_pow_right (by omega) h3)))
    rw [show m' + (xs.length - 1 - m') = xs.length - 1 from by omega] at this
    rw [this, hst]
  obtain ⟨n, hn⟩ : ∃ n, xs.length = n + 1 := ⟨xs.length - 1, by omega⟩
  rw [hn] at h2 ⊢
  simp only [Nat.add_sub_cancel] at h2
  rw [stp_succ, if_pos (.inl hn.symm), h2]
  conv => rhs; rw [← he]
  congr 2
  rw [← hn]
  have := congrArg (List.drop m') hff
  rw [List.drop_append_of_le_length (by omega), hm', List.drop_length, List.nil_append, ← hm'] at this
  rw [this, seg, List.take_of_length_le (by simp)]
end Go.Proofs.Ytgageljahebjnaa
