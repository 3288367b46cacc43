/-
  Small steps: the least greatest steps by going over one thing after the other. Plain laws.
-/
import Derived.Test.YtncglgkpgbhejaaGapsI
import Derived.Test.YtncglgkpgbhejaaReach
namespace Go.Proofs.Ytncglgkpgbhejaa
open Go.RowKit

/-- Row a, place b turned to x. -/
def setM (M : List (List Int)) (a b : Nat) (x : Int) : List (List Int) := M.set a ((rw_ M a).set b x)
def Sq (n : Nat) (M : List (List Int)) : Prop := M.length = n ∧ ∀ i, i < n → (rw_ M i).length = n
section
variable {n : Nat} {M : List (List Int)}
theorem rw_set {M : List (List Int)} {a i : Nat} {r : List Int} (ha : a < M.length) : rw_ (M.set a r) i = if i = a then r else rw_ M i := by
  unfold rw_
  by_cases e : i = a
  · subst e; simp [List.getD, ha]
  · simp [List.getD, List.getElem?_set_ne (Ne.symm e), e]
theorem Sq.setM (h : Sq n M) {a b : Nat} {x : Int} (ha : a < n) : Sq n (setM M a b x) := by
  obtain ⟨h1, h2⟩ := h
  refine ⟨by simpa [Go.Proofs.Ytncglgkpgbhejaa.setM] using h1, fun i hi => ?_⟩
  unfold Go.Proofs.Ytncglgkpgbhejaa.setM
  rw [rw_set (by omega)]
  split
  · simpa using h2 a ha
  · exact h2 i hi
theorem gp_set (h : Sq n M) {a b i j : Nat} {x : Int} (ha : a < n) (hb : b < n) : gp (setM M a b x) i j = if i = a ∧ j = b then x else gp M i j := by
  obtain ⟨h1, h2⟩ := h
  unfold setM gp
  rw [rw_set (by omega)]
  by_cases e : i = a
  · subst e
    have := h2 i ha
    by_cases e2 : j = b
    · subst e2; simp [atL, List.getD, this, hb]
    · simp [atL, List.getD, List.getElem?_set_ne (Ne.symm e2), e2]
  · simp [e]
def stepM (M : List (List Int)) (c a b : Nat) : Int := min (gp M a b) (max (gp M a c) (gp M c b))
def fwB (M : List (List Int)) (c a : Nat) : Nat → List (List Int)
  | 0 => M
  | b + 1 => setM (fwB M c a b) a b (stepM (fwB M c a b) c a b)
def fwA (n : Nat) (M : List (List Int)) (c : Nat) : Nat → List (List Int)
  | 0 => M
  | a + 1 => fwB (fwA n M c a) c a n
def fwC (n : Nat) (M : List (List Int)) : Nat → List (List Int)
  | 0 => M
  | c + 1 => fwA n (fwC n M c) c n
theorem Sq.fwB (h : Sq n M) {c a : Nat} (ha : a < n) : ∀ m, Sq n (fwB M c a m)
  | 0 => h
  | m + 1 => (Sq.fwB h ha m).setM ha
theorem Sq.fwA (h : Sq n M) {c : Nat} : ∀ m, m ≤ n → Sq n (fwA n M c m)
  | 0, _ => h
  | m + 1, hm => (Sq.fwA h m (by omega)).fwB (by omega) n
theorem Sq.fwC (h : Sq n M) : ∀ m, Sq n (fwC n M m)
  | 0 => h
  | m + 1 => (Sq.fwC h m).fwA n (Nat.le_refl _)
/-- Nothing below 0, 0 to itself. -/
def Z0 (n : Nat) (M : List (List Int)) : Prop := ∀ i, i < n → gp M i i = 0 ∧ ∀ j, j < n → 0 ≤ gp M i j
/-- One thing c: the rows and columns of c stay. -/
theorem fwB_get (h : Sq n M) (hz : Z0 n M) {c a : Nat} (hc : c < n) (ha : a < n) : ∀ m, m ≤ n → ∀ i j, i < n → j < n → gp (fwB M c a m) i j = if i = a ∧ j < m then stepM M c a j else gp M i j
  | 0, _, i, j, _, _ => by simp [Go.Proofs.Ytncglgkpgbhejaa.fwB]
  | m + 1, hm, i, j, hi, hj => by
    have ih := fwB_get h hz hc ha m (by omega)
    have hsq := h.fwB (c := c) ha m
    simp only [Go.Proofs.Ytncglgkpgbhejaa.fwB]
    rw [gp_set hsq ha (by omega)]
    have hac : gp (Go.Proofs.Ytncglgkpgbhejaa.fwB M c a m) a c = gp M a c := by
      rw [ih a c ha hc]
      split
      · have := (hz c hc).1
        have := (hz a ha).2 c hc
        unfold stepM
        omega
      · rfl
    have hcm : gp (Go.Proofs.Ytncglgkpgbhejaa.fwB M c a m) c m = gp M c m := by
      rw [ih c m hc (by omega)]
      split
      · omega
      · rfl
    have ham : gp (Go.Proofs.Ytncglgkpgbhejaa.fwB M c a m) a m = gp M a m := by
      rw [ih a m ha (by omega)]
      split
      · omega
      · rfl
    have e : stepM (Go.Proofs.Ytncglgkpgbhejaa.fwB M c a m) c a m = stepM M c a m := by unfold stepM; rw [hac, hcm, ham]
    rw [e, ih i j hi hj]
    by_cases e1 : i = a
    · subst e1
      by_cases e2 : j = m
      · subst e2; simp
      · have : (j < m + 1) = (j < m) := by simp; omega
        simp [e2, this]
    · simp [e1]
theorem fwB_z0 (h : Sq n M) (hz : Z0 n M) {c a : Nat} (hc : c < n) (ha : a < n) : Z0 n (fwB M c a n) := by
  intro i hi
  have hg := fwB_get h hz hc ha n (Nat.le_refl _)
  refine ⟨?_, fun j hj => ?_⟩
  · rw [hg i i hi hi]
    split
    · next e => obtain ⟨rfl, _⟩ := e; have := (hz i hi).1; have := (hz i hi).2 c hc; have := (hz c hc).2 i hi; unfold stepM; omega
    · exact (hz i hi).1
  · rw [hg i j hi hj]
    split
    · next e => obtain ⟨rfl, _⟩ := e; have := (hz i hi).2 j hj; have := (hz i hi).2 c hc; have := (hz c hc).2 j hj; unfold stepM; omega
    · exact (hz i hi).2 j hj
theorem fwA_get (h : Sq n M) (hz : Z0 n M) {c : Nat} (hc : c < n) : ∀ m, m ≤ n → Z0 n (fwA n M c m) ∧ ∀ i j, i < n → j < n → gp (fwA n M c m) i j = if i < m then stepM M c i j else gp M i j
  | 0, _ => ⟨hz, fun i j _ _ => by simp [Go.Proofs.Ytncglgkpgbhejaa.fwA]⟩
  | m + 1, hm => by
    obtain ⟨iz, ih⟩ := fwA_get h hz hc m (by omega)
    have hsq := h.fwA (c := c) m (by omega)
    have hg := fwB_get hsq iz hc (show m < n by omega) n (Nat.le_refl _)
    refine ⟨fwB_z0 hsq iz hc (by omega), fun i j hi hj => ?_⟩
    simp only [Go.Proofs.Ytncglgkpgbhejaa.fwA]
    rw [hg i j hi hj]
    have hcx : ∀ x, x < n → gp (Go.Proofs.Ytncglgkpgbhejaa.fwA n M c m) c x = gp M c x := fun x hx => by
      rw [ih c x hc hx]
      split
      · have := (hz c hc).1; have := (hz c hc).2 x hx; unfold stepM; omega
      · rfl
    by_cases e : i = m
    · subst e
      have e1 : gp (Go.Proofs.Ytncglgkpgbhejaa.fwA n M c i) i j = gp M i j := by rw [ih i j hi hj]; simp
      have e2 : gp (Go.Proofs.Ytncglgkpgbhejaa.fwA n M c i) i c = gp M i c := by rw [ih i c hi hc]; simp
      simp only [true_and, hj, if_true, Nat.lt_succ_self]
      unfold stepM
      rw [e1, e2, hcx j hj]
    · have : (i < m + 1) = (i < m) := by simp; omega
      simp only [e, false_and, if_false, this]
      exact ih i j hi hj
/-- Over one thing more: never more, and not more than over it. -/
theorem fwC_get (h : Sq n M) (hz : Z0 n M) : ∀ m, m ≤ n → Z0 n (fwC n M m) ∧ ∀ c, c < m → ∀ i j, i < n → j < n → gp (fwC n M m) i j ≤ max (gp (fwC n M m) i c) (gp (fwC n M m) c j)
  | 0, _ => ⟨hz, fun c hc => by omega⟩
  | m + 1, hm => by
    obtain ⟨iz, ih⟩ := fwC_get h hz m (by omega)
    have hsq := h.fwC m
    obtain ⟨z1, hg⟩ := fwA_get hsq iz (show m < n by omega) n (Nat.le_refl _)
    refine ⟨z1, fun c hc i j hi hj => ?_⟩
    simp only [Go.Proofs.Ytncglgkpgbhejaa.fwC]
    rw [hg i j hi hj, hg i c hi (by omega), hg c j (by omega) hj, if_pos hi, if_pos hi, if_pos (show c < n by omega)]
    unfold stepM
    by_cases e : c = m
    · subst e
      have := (iz c (by omega)).1
      have := (iz i hi).2 c (by omega)
      have := (iz c (by omega)).2 j hj
      omega
    · have a1 := ih c (by omega) i j hi hj
      have a2 := ih c (by omega) i m hi (by omega)
      have a3 := ih c (by omega) m j (by omega) hj
      omega
theorem fwC_le (h : Sq n M) (hz : Z0 n M) : ∀ m, m ≤ n → ∀ i j, i < n → j < n → gp (fwC n M m) i j ≤ gp M i j
  | 0, _, i, j, _, _ => Int.le_refl _
  | m + 1, hm, i, j, hi, hj => by
    have ih := fwC_le h hz m (by omega) i j hi hj
    obtain ⟨z1, hg⟩ := fwA_get (h.fwC m) (fwC_get h hz m (by omega)).1 (show m < n by omega) n (Nat.le_refl _)
    simp only [Go.Proofs.Ytncglgkpgbhejaa.fwC]
    rw [hg i j hi hj, if_pos hi]
    unfold stepM
    omega
theorem fwC_rc (h : Sq n M) (hz : Z0 n M) {d : Int} : ∀ m, m ≤ n → ∀ i j, i < n → j < n → gp (fwC n M m) i j ≤ d → rcB (gp M) n d i j = true
  | 0, _, i, j, hi, hj, hd => rcB_edge hi hj hd
  | m + 1, hm, i, j, hi, hj, hd => by
    have ih := fwC_rc h hz (d := d) m (by omega)
    obtain ⟨z1, hg⟩ := fwA_get (h.fwC m) (fwC_get h hz m (by omega)).1 (show m < n by omega) n (Nat.le_refl _)
    simp only [Go.Proofs.Ytncglgkpgbhejaa.fwC] at hd
    rw [hg i j hi hj, if_pos hi] at hd
    unfold stepM at hd
    by_cases e : gp (Go.Proofs.Ytncglgkpgbhejaa.fwC n M m) i j ≤ d
    · exact ih i j hi hj e
    · exact rcB_trans hi hj (ih i m hi (by omega) (by omega)) (ih m j (by omega) hj (by omega))
/-- Small steps are at most d exactly between things that reach each other over steps of at most d. -/
theorem fwC_iff (h : Sq n M) (hz : Z0 n M) {d : Int} (hd : 0 ≤ d) {i j : Nat} (hi : i < n) (hj : j < n) : gp (fwC n M n) i j ≤ d ↔ rcB (gp M) n d i j = true := by
  refine ⟨fwC_rc h hz n (Nat.le_refl _) i j hi hj, fun hr => ?_⟩
  obtain ⟨z1, hg⟩ := fwC_get h hz n (Nat.le_refl _)
  have key : ∀ r i, i < n → rnB (gp M) n d r i j = true → gp (fwC n M n) i j ≤ d := by
    intro r
    induction r with
    | zero => intro i _ h2; have := rnB_zero.1 h2; subst this; rw [(z1 i hj).1]; exact hd
    | succ r ih =>
      intro i hi h2
      rcases rnB_succ.1 h2 with h3 | ⟨c, hc, h3, h4⟩
      · exact ih i hi h3
      · have a1 := fwC_le h hz n (Nat.le_refl _) i c hi hc
        have a2 := ih c hc h4
        have a3 := hg c hc i j hi hj
        omega
  exact key n i hi hr
end
end Go.Proofs.Ytncglgkpgbhejaa
