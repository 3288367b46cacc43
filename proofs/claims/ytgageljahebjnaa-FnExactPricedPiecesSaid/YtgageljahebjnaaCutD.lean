
/-
  Plain laws on the least sum of pieces, step by step: exactly so many pieces (the program's rows), at most so many (the reference's rows); the cost of a piece is any function of its ends.
-/
import Derived.WalkKit
namespace Go.Proofs.Ytgageljahebjnaa
open Go.RowKit

/-- r is the cost of a way to cut the first k numbers into exactly p + 1 pieces. -/
def CX (m : Nat → Nat → Rat) : Nat → Nat → Rat → Prop
  | 0, k, r => 0 < k ∧ r = m 0 k
  | p + 1, k, r => ∃ i r', i < k ∧ CX m p i r' ∧ r = r' + m i k
theorem CX.lt {m : Nat → Nat → Rat} : ∀ {p k : Nat} {r : Rat}, CX m p k r → p < k
  | 0, _, _, h => h.1
  | p + 1, k, r, h => by
    obtain ⟨i, r', h1, h2, _⟩ := h
    have := CX.lt h2
    omega
/-- The least of what S holds of. -/
def LstQ (S : Rat → Prop) (r : Rat) : Prop := S r ∧ ∀ r', S r' → r ≤ r'
theorem LstQ.eq {S : Rat → Prop} {r r' : Rat} (h : LstQ S r) (h' : LstQ S r') : r = r' := Rat.le_antisymm (h.2 _ h'.1) (h'.2 _ h.1)

/-- The program's inner loop: places p + 1 to p + 1 + j. -/
def mE (m : Nat → Nat → Rat) (f : Nat → Rat) (p k : Nat) : Nat → Rat
  | 0 => f (p + 1) + m (p + 1) k
  | j + 1 => if f (p + 2 + j) + m (p + 2 + j) k < mE m f p k j then f (p + 2 + j) + m (p + 2 + j) k else mE m f p k j
/-- Exactly p + 1 pieces of the first k numbers. -/
def eR (m : Nat → Nat → Rat) : Nat → Nat → Rat
  | 0, k => m 0 k
  | p + 1, k => mE m (eR m p) p k (k - (p + 2))
theorem mE_zero (m : Nat → Nat → Rat) (f : Nat → Rat) (p k : Nat) : mE m f p k 0 = f (p + 1) + m (p + 1) k := rfl
theorem mE_succ (m : Nat → Nat → Rat) (f : Nat → Rat) (p k j : Nat) : mE m f p k (j + 1) = if f (p + 2 + j) + m (p + 2 + j) k < mE m f p k j then f (p + 2 + j) + m (p + 2 + j) k else mE m f p k j := rfl
theorem mE_spec {m : Nat → Nat → Rat} {f : Nat → Rat} {p k : Nat} : ∀ j, (∃ i, p < i ∧ i ≤ p + 1 + j ∧ mE m f p k j = f i + m i k) ∧ ∀ i, p < i → i ≤ p + 1 + j → mE m f p k j ≤ f i + m i k := by
  intro j
  induction j with
  | zero =>
    refine ⟨⟨p + 1, by omega, by omega, rfl⟩, fun i h1 h2 => ?_⟩
    obtain rfl : i = p + 1 := by omega
    exact Rat.le_refl
  | succ j ih =>
    obtain ⟨⟨i0, h1, h2, h3⟩, h4⟩ := ih
    rw [mE_succ]
    split
    · next hc =>
      refine ⟨⟨p + 2 + j, by omega, by omega, rfl⟩, fun i q1 q2 => ?_⟩
      by_cases e : i = p + 2 + j
      · subst e; exact Rat.le_refl
      · exact Rat.le_trans (Rat.le_of_lt hc) (h4 i q1 (by omega))
    · next hc =>
      refine ⟨⟨i0, h1, by omega, h3⟩, fun i q1 q2 => ?_⟩
      by_cases e : i = p + 2 + j
      · subst e; exact Rat.not_lt.1 hc
      · exact h4 i q1 (by omega)
theorem eR_lst {m : Nat → Nat → Rat} : ∀ {p k : Nat}, p < k → LstQ (CX m p k) (eR m p k) := by
  intro p
  induction p with
  | zero => intro k hk; exact ⟨⟨hk, rfl⟩, fun r' h => by rw [h.2]; exact Rat.le_refl⟩
  | succ p ih =>
    intro k hk
    obtain ⟨⟨i, h1, h2, h3⟩, h4⟩ := mE_spec (m := m) (f := eR m p) (p := p) (k := k) (k - (p + 2))
    refine ⟨⟨i, eR m p i, by omega, (ih h1).1, h3⟩, fun r' h => ?_⟩
    obtain ⟨i', r'', q1, q2, rfl⟩ := h
    have q3 := q2.lt
    have q4 := (ih q3).2 _ q2
    have q5 := h4 i' q3 (by omega)
    show mE m (eR m p) p k (k - (p + 2)) ≤ _
    grind

/-- The reference's inner loop: places 1 to j. -/
def mA (m : Nat → Nat → Rat) (f : Nat → Rat) (k : Nat) : Nat → Rat
  | 0 => f k
  | j + 1 => if f (j + 1) + m (j + 1) k < mA m f k j then f (j + 1) + m (j + 1) k else mA m f k j
/-- At most p + 1 pieces of the first k numbers. -/
def aR (m : Nat → Nat → Rat) : Nat → Nat → Rat
  | 0, k => if k = 0 then 0 else m 0 k
  | p + 1, k => if k = 0 then 0 else mA m (aR m p) k (k - 1)
theorem mA_succ (m : Nat → Nat → Rat) (f : Nat → Rat) (k j : Nat) : mA m f k (j + 1) = if f (j + 1) + m (j + 1) k < mA m f k j then f (j + 1) + m (j + 1) k else mA m f k j := rfl
theorem mA_spec {m : Nat → Nat → Rat} {f : Nat → Rat} {k : Nat} : ∀ j, (mA m f k j = f k ∨ ∃ i, 0 < i ∧ i ≤ j ∧ mA m f k j = f i + m i k) ∧ mA m f k j ≤ f k ∧ ∀ i, 0 < i → i ≤ j → mA m f k j ≤ f i + m i k := by
  intro j
  induction j with
  | zero => exact ⟨.inl rfl, Rat.le_refl, fun i h1 h2 => by omega⟩
  | succ j ih =>
    obtain ⟨h1, h2, h3⟩ := ih
    rw [mA_succ]
    split
    · next hc =>
      refine ⟨.inr ⟨j + 1, by omega, by omega, rfl⟩, Rat.le_trans (Rat.le_of_lt hc) h2, fun i q1 q2 => ?_⟩
      by_cases e : i = j + 1
      · subst e; exact Rat.le_refl
      · exact Rat.le_trans (Rat.le_of_lt hc) (h3 i q1 (by omega))
    · next hc =>
      refine ⟨?_, h2, fun i q1 q2 => ?_⟩
      · rcases h1 with h1 | ⟨i, q1, q2, q3⟩
        · exact .inl h1
        · exact .inr ⟨i, q1, by omega, q3⟩
      · by_cases e : i = j + 1
        · subst e; exact Rat.not_lt.1 hc
        · exact h3 i q1 (by omega)
theorem aR_lst {m : Nat → Nat → Rat} : ∀ {p k : Nat}, 0 < k → LstQ (fun r => ∃ q, q ≤ p ∧ CX m q k r) (aR m p k) := by
  intro p
  induction p with
  | zero =>
    intro k hk
    have e : aR m 0 k = m 0 k := by rw [aR, if_neg (by omega)]
    rw [e]
    refine ⟨⟨0, Nat.le_refl _, hk, rfl⟩, fun r' h => ?_⟩
    obtain ⟨q, h1, h2⟩ := h
    obtain rfl : q = 0 := by omega
    rw [h2.2]
    exact Rat.le_refl
  | succ p ih =>
    intro k hk
    have e : aR m (p + 1) k = mA m (aR m p) k (k - 1) := by rw [aR, if_neg (by omega)]
    rw [e]
    obtain ⟨h1, h2, h3⟩ := mA_spec (m := m) (f := aR m p) (k := k) (k - 1)
    refine ⟨?_, fun r' h => ?_⟩
    · rcases h1 with h1 | ⟨i, q1, q2, q3⟩
      · rw [h1]
        obtain ⟨q, q1, q2⟩ := (ih hk).1
        exact ⟨q, by omega, q2⟩
      · rw [q3]
        obtain ⟨q, q4, q5⟩ := (ih q1).1
        exact ⟨q + 1, by omega, i, _, by omega, q5, rfl⟩
    · obtain ⟨q, q1, q2⟩ := h
      cases q with
      | zero => exact Rat.le_trans h2 ((ih hk).2 _ ⟨0, by omega, q2⟩)
      | succ q =>
        obtain ⟨i, r'', q3, q4, rfl⟩ := q2
        have q5 := q4.lt
        have q6 := (ih (k := i) (by omega)).2 _ ⟨q, by omega, q4⟩
        have q7 := h3 i (by omega) (by omega)
        grind
/-- One row more. -/
theorem aR_zero (m : Nat → Nat → Rat) {n : Nat} (hn : 0 < n) : aR m 0 n = eR m 0 n := by rw [aR, if_neg (by omega)]; rfl
theorem aR_step {m : Nat → Nat → Rat} {p n : Nat} (hn : p + 1 < n) : aR m (p + 1) n = if eR m (p + 1) n < aR m p n then eR m (p + 1) n else aR m p n := by
  refine LstQ.eq (aR_lst (by omega)) ⟨?_, fun r' h => ?_⟩
  · split
    · exact ⟨p + 1, Nat.le_refl _, (eR_lst hn).1⟩
    · obtain ⟨q, q1, q2⟩ := (aR_lst (m := m) (p := p) (k := n) (by omega)).1
      exact ⟨q, by omega, q2⟩
  · obtain ⟨q, q1, q2⟩ := h
    by_cases e : q = p + 1
    · subst e
      have := (eR_lst hn).2 _ q2
      split
      · exact this
      · next hc => exact Rat.le_trans (Rat.not_lt.1 hc) this
    · have := (aR_lst (m := m) (p := p) (k := n) (by omega)).2 _ ⟨q, by omega, q2⟩
      split
      · next hc => exact Rat.le_trans (Rat.le_of_lt hc) this
      · exact this
theorem aR_same {m : Nat → Nat → Rat} {p n : Nat} (h0 : 0 < n) (hn : n ≤ p + 1) : aR m (p + 1) n = aR m p n := by
  refine LstQ.eq (aR_lst h0) ⟨?_, fun r' h => ?_⟩
  · obtain ⟨q, q1, q2⟩ := (aR_lst (m := m) (p := p) h0).1
    exact ⟨q, by omega, q2⟩
  · obtain ⟨q, q1, q2⟩ := h
    have := q2.lt
    exact (aR_lst (m := m) (p := p) h0).2 _ ⟨q, by omega, q2⟩

/-- What the program's search for the least of the first rows comes to. -/
def mnE (m : Nat → Nat → Rat) (n : Nat) : Nat → Rat
  | 0 => eR m 0 n
  | j + 1 => if eR m (j + 1) n < mnE m n j then eR m (j + 1) n else mnE m n j
theorem mnE_aR {m : Nat → Nat → Rat} {n : Nat} (h0 : 0 < n) : ∀ j, j < n → mnE m n j = aR m j n := by
  intro j
  induction j with
  | zero => intro _; rw [aR_zero m h0]; rfl
  | succ j ih => intro h; rw [aR_step h, ← ih (by omega)]; rfl
theorem aR_past {m : Nat → Nat → Rat} {n : Nat} (h0 : 0 < n) : ∀ p, n ≤ p + 1 → aR m p n = mnE m n (n - 1) := by
  intro p hp
  rw [mnE_aR h0 _ (by omega)]
  induction p with
  | zero => rw [show n - 1 = 0 by omega]
  | succ p ih =>
    by_cases e : n ≤ p + 1
    · rw [aR_same h0 e, ih e]
    · rw [show n - 1 = p + 1 by omega]

/-- Prices: the best after p + 1 rows, of the program and of the reference. -/
def bE (m : Nat → Nat → Rat) (n : Nat) (c : Rat) : Nat → Rat × Nat
  | 0 => (eR m 0 n + c, 1)
  | p + 1 => if eR m (p + 1) n + c * ((p + 2 : Nat) : Rat) < (bE m n c p).1 then (eR m (p + 1) n + c * ((p + 2 : Nat) : Rat), p + 2) else bE m n c p
def bA (m : Nat → Nat → Rat) (n : Nat) (c : Rat) : Nat → Rat × Nat
  | 0 => (aR m 0 n + c, 1)
  | p + 1 => if aR m (p + 1) n + c * ((p + 2 : Nat) : Rat) < (bA m n c p).1 then (aR m (p + 1) n + c * ((p + 2 : Nat) : Rat), p + 2) else bA m n c p
theorem bE_bA {m : Nat → Nat → Rat} {n : Nat} {c : Rat} (hc : 0 ≤ c) : ∀ p, p < n → bE m n c p = bA m n c p ∧ (bA m n c p).1 ≤ aR m p n + c * ((p + 1 : Nat) : Rat) := by
  intro p
  induction p with
  | zero =>
    intro hn
    refine ⟨by rw [bE, bA, aR_zero m hn], ?_⟩
    show aR m 0 n + c ≤ _
    simp [Rat.mul_one]
  | succ p ih =>
    intro hn
    obtain ⟨h1, h2⟩ := ih (by omega)
    have h3 := aR_step (m := m) hn
    have hcp : c * ((p + 2 : Nat) : Rat) = c * ((p + 1 : Nat) : Rat) + c := by
      rw [show p + 2 = (p + 1) + 1 by omega, Rat.natCast_add, Rat.mul_add]; simp [Rat.mul_one]
    rw [bE, bA, h1]
    obtain ⟨B, hB⟩ : ∃ B, (bA m n c p).1 = B := ⟨_, rfl⟩
    obtain ⟨E, hE⟩ : ∃ B, eR m (p + 1) n = B := ⟨_, rfl⟩
    obtain ⟨A, hA⟩ : ∃ B, aR m p n = B := ⟨_, rfl⟩
    obtain ⟨A1, hA1⟩ : ∃ B, aR m (p + 1) n = B := ⟨_, rfl⟩
    obtain ⟨P, hP⟩ : ∃ B, c * ((p + 1 : Nat) : Rat) = B := ⟨_, rfl⟩
    rw [hcp, hB, hE, hA1, hP]
    rw [hE, hA, hA1] at h3
    rw [hB, hA, hP] at h2
    by_cases q : E + (P + c) < B
    · have q2 : E < A := by grind
      rw [if_pos q2] at h3
      subst h3
      rw [if_pos q]
      exact ⟨rfl, Rat.le_refl⟩
    · have q2 : ¬ A1 + (P + c) < B := by
        rw [h3]
        split
        · exact q
        · grind
      rw [if_neg q, if_neg q2, hB]
      exact ⟨rfl, Rat.not_lt.1 q2⟩
end Go.Proofs.Ytgageljahebjnaa
