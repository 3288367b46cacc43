/-
  Plain laws: a line that is turned, point by point, round by round; how often it is turned at most, if there is a line that parts.
-/
import Derived.Test.YtcmjmnlccempfaaSum
namespace Go.Proofs.Ytcmjmnlccempfaa
open Go.RowKit

/-- A line, and how often it has been turned. -/
structure PL where
  a : Int
  b : Int
  c : Int
  t : Int
/-- How far a point is on its own side. -/
def sideP (x y m : Int) (s : PL) : Int := (2 * m - 1) * (s.a * x + s.b * y + s.c)
def stepP (x y m : Int) (s : PL) : PL := if sideP x y m s ≤ 0 then ⟨s.a + (2 * m - 1) * x, s.b + (2 * m - 1) * y, s.c + (2 * m - 1), s.t + 1⟩ else s
def roundP (xs ys ms : List Int) (s : PL) : Nat → PL
  | 0 => s
  | k + 1 => stepP (atL xs k) (atL ys k) (atL ms k) (roundP xs ys ms s k)
theorem roundP_succ (xs ys ms : List Int) (s : PL) (k : Nat) : roundP xs ys ms s (k + 1) = stepP (atL xs k) (atL ys k) (atL ms k) (roundP xs ys ms s k) := rfl
theorem stepP_yes {x y m : Int} {s : PL} (h : sideP x y m s ≤ 0) : stepP x y m s = ⟨s.a + (2 * m - 1) * x, s.b + (2 * m - 1) * y, s.c + (2 * m - 1), s.t + 1⟩ := by rw [stepP, if_pos h]
theorem stepP_no {x y m : Int} {s : PL} (h : ¬ sideP x y m s ≤ 0) : stepP x y m s = s := by rw [stepP, if_neg h]
/-- Rounds, at most so many. -/
def runP (xs ys ms : List Int) : Nat → PL → List Int × Int × Bool
  | 0, s => ([], s.t, false)
  | f + 1, s => if (roundP xs ys ms s xs.length).t = s.t then ([s.a, s.b, s.c], s.t, true) else runP xs ys ms f (roundP xs ys ms s xs.length)

def okP (s : PL) (T : Int) : Prop := (-(12 * T) ≤ s.a ∧ s.a ≤ 12 * T) ∧ (-(12 * T) ≤ s.b ∧ s.b ≤ 12 * T) ∧ (-T ≤ s.c ∧ s.c ≤ T) ∧ 0 ≤ s.t ∧ s.t ≤ T
theorem mark_mul {x m : Int} (h : m = 0 ∨ m = 1) : (2 * m - 1) * x = x ∨ (2 * m - 1) * x = -x := by
  rcases h with rfl | rfl
  · right; omega
  · left; omega
theorem okP_step {x y m : Int} {s : PL} {T : Int} (hx : -12 ≤ x ∧ x ≤ 12) (hy : -12 ≤ y ∧ y ≤ 12) (hm : m = 0 ∨ m = 1) (h : okP s T) : okP (stepP x y m s) (T + 1) := by
  obtain ⟨h1, h2, h3, h4⟩ := h
  by_cases c : sideP x y m s ≤ 0
  · rw [stepP_yes c]
    have e1 := mark_mul (x := x) hm
    have e2 := mark_mul (x := y) hm
    simp only [okP]
    omega
  · rw [stepP_no c]
    simp only [okP]
    omega
theorem okP_round {xs ys ms : List Int} {s : PL} {T : Int} (hx : ∀ k, -12 ≤ atL xs k ∧ atL xs k ≤ 12) (hy : ∀ k, -12 ≤ atL ys k ∧ atL ys k ≤ 12) (hm : ∀ k, atL ms k = 0 ∨ atL ms k = 1) (h : okP s T) : ∀ k : Nat, okP (roundP xs ys ms s k) (T + k) := by
  intro k
  induction k with
  | zero => simpa [roundP] using h
  | succ k ih =>
    rw [roundP_succ, show T + ((k + 1 : Nat) : Int) = T + k + 1 from by omega]
    exact okP_step (hx k) (hy k) (hm k) ih
theorem stepP_t (x y m : Int) (s : PL) : s.t ≤ (stepP x y m s).t := by
  by_cases c : sideP x y m s ≤ 0
  · rw [stepP_yes c]; show s.t ≤ s.t + 1; omega
  · rw [stepP_no c]; exact Int.le_refl _
theorem roundP_t (xs ys ms : List Int) (s : PL) : ∀ k, s.t ≤ (roundP xs ys ms s k).t := by
  intro k
  induction k with
  | zero => exact Int.le_refl _
  | succ k ih => exact Int.le_trans ih (stepP_t _ _ _ _)
theorem roundP_mono (xs ys ms : List Int) (s : PL) (k : Nat) : ∀ j, (roundP xs ys ms s k).t ≤ (roundP xs ys ms s (k + j)).t := by
  intro j
  induction j with
  | zero => exact Int.le_refl _
  | succ j ih => exact Int.le_trans ih (stepP_t _ _ _ _)
/-- A round that turns nothing. -/
theorem round_clean {xs ys ms : List Int} {s : PL} : ∀ {n : Nat}, (roundP xs ys ms s n).t = s.t → roundP xs ys ms s n = s ∧ ∀ i, i < n → 0 < sideP (atL xs i) (atL ys i) (atL ms i) s := by
  intro n
  induction n with
  | zero => intro _; exact ⟨rfl, fun i hi => by omega⟩
  | succ n ih =>
    intro h
    have h1 := roundP_t xs ys ms s n
    rw [roundP_succ] at h
    have h2 := stepP_t (atL xs n) (atL ys n) (atL ms n) (roundP xs ys ms s n)
    have h3 : (roundP xs ys ms s n).t = s.t := by omega
    obtain ⟨e, hall⟩ := ih h3
    by_cases c : sideP (atL xs n) (atL ys n) (atL ms n) s ≤ 0
    · rw [e, stepP_yes c] at h
      have : s.t + 1 = s.t := h
      omega
    · refine ⟨by rw [roundP_succ, e, stepP_no c], fun i hi => ?_⟩
      by_cases hin : i = n
      · subst hin; omega
      · exact hall i (by omega)
theorem runP_zero (xs ys ms : List Int) (s : PL) : runP xs ys ms 0 s = ([], s.t, false) := rfl
theorem runP_clean {xs ys ms : List Int} {s : PL} (f : Nat) (h : (roundP xs ys ms s xs.length).t = s.t) : runP xs ys ms (f + 1) s = ([s.a, s.b, s.c], s.t, true) := by rw [runP, if_pos h]
theorem runP_next {xs ys ms : List Int} {s : PL} (f : Nat) (h : ¬ (roundP xs ys ms s xs.length).t = s.t) : runP xs ys ms (f + 1) s = runP xs ys ms f (roundP xs ys ms s xs.length) := by rw [runP, if_neg h]

def zeroP : PL := ⟨0, 0, 0, 0⟩
def okPts (xs ys : List Int) : Bool := decide (xs.length = ys.length) && decide (xs.length ≤ 7) && allB (-12) 12 xs && allB (-12) 12 ys
def okPart (xs ys ms : List Int) : Bool := allB 0 1 ms && okPts xs ys && decide (xs.length = ms.length) && decide (0 < xs.length)
def partX (xs ys ms : List Int) : List Int × Int × Bool := if okPart xs ys ms then runP xs ys ms 60 zeroP else ([], -1, false)
theorem partX_bad {xs ys ms : List Int} (h : okPart xs ys ms = false) : partX xs ys ms = ([], -1, false) := by simp [partX, h]
theorem partX_ok {xs ys ms : List Int} (h : okPart xs ys ms = true) : partX xs ys ms = runP xs ys ms 60 zeroP := by simp [partX, h]
theorem okPart_iff {xs ys ms : List Int} : okPart xs ys ms = true ↔ allB 0 1 ms = true ∧ (xs.length = ys.length ∧ xs.length ≤ 7 ∧ allB (-12) 12 xs = true ∧ allB (-12) 12 ys = true) ∧ xs.length = ms.length ∧ 0 < xs.length := by
  simp [okPart, okPts, and_assoc]
theorem at_all {lo hi : Int} {xs : List Int} (h : allB lo hi xs = true) (h0 : lo ≤ 0 ∧ 0 ≤ hi) (k : Nat) : lo ≤ atL xs k ∧ atL xs k ≤ hi := by
  by_cases c : k < xs.length
  · exact allB_iff.1 h _ (atL_mem c)
  · have : atL xs k = 0 := by simp [atL, List.getD, List.getElem?_eq_none (Nat.le_of_not_lt c)]
    omega
theorem mark_at {ms : List Int} (h : allB 0 1 ms = true) (k : Nat) : atL ms k = 0 ∨ atL ms k = 1 := by
  have := at_all h (by omega) k
  omega

/-! How often a line is turned at most. -/
def invP (A B C far : Int) (s : PL) : Prop := 0 ≤ s.t ∧ s.t ≤ s.a * A + s.b * B + s.c * C ∧ s.a * s.a + s.b * s.b + s.c * s.c ≤ s.t * far
theorem sq_nonneg' (x : Int) : 0 ≤ x * x := by
  rcases Int.le_total 0 x with h | h
  · exact Int.mul_nonneg h h
  · have := Int.mul_nonneg (Int.neg_nonneg_of_nonpos h) (Int.neg_nonneg_of_nonpos h)
    rwa [Int.neg_mul_neg] at this
theorem invP_step {A B C far x y m : Int} {s : PL} (hm : m = 0 ∨ m = 1) (hs : 0 < (2 * m - 1) * (A * x + B * y + C)) (hf : x * x + y * y + 1 ≤ far) (h : invP A B C far s) : invP A B C far (stepP x y m s) := by
  obtain ⟨h0, h1, h2⟩ := h
  by_cases c : sideP x y m s ≤ 0
  · rw [stepP_yes c]
    rw [sideP] at c
    have e1 : (s.a + (2 * m - 1) * x) * A + (s.b + (2 * m - 1) * y) * B + (s.c + (2 * m - 1)) * C = (s.a * A + s.b * B + s.c * C) + (2 * m - 1) * (A * x + B * y + C) := by grind
    have hq : (2 * m - 1) * (2 * m - 1) = 1 := by rcases hm with rfl | rfl <;> rfl
    have e2 : (s.a + (2 * m - 1) * x) * (s.a + (2 * m - 1) * x) + (s.b + (2 * m - 1) * y) * (s.b + (2 * m - 1) * y) + (s.c + (2 * m - 1)) * (s.c + (2 * m - 1)) = (s.a * s.a + s.b * s.b + s.c * s.c) + 2 * ((2 * m - 1) * (s.a * x + s.b * y + s.c)) + (x * x + y * y + 1) := by grind
    have e3 : (s.t + 1) * far = s.t * far + far := by grind
    refine ⟨?_, ?_, ?_⟩
    · show 0 ≤ s.t + 1; omega
    · show s.t + 1 ≤ (s.a + (2 * m - 1) * x) * A + (s.b + (2 * m - 1) * y) * B + (s.c + (2 * m - 1)) * C
      omega
    · show (s.a + (2 * m - 1) * x) * (s.a + (2 * m - 1) * x) + (s.b + (2 * m - 1) * y) * (s.b + (2 * m - 1) * y) + (s.c + (2 * m - 1)) * (s.c + (2 * m - 1)) ≤ (s.t + 1) * far
      omega
  · rw [stepP_no c]; exact ⟨h0, h1, h2⟩
theorem invP_round {A B C far : Int} {xs ys ms : List Int} {n : Nat} (hm : ∀ i, i < n → atL ms i = 0 ∨ atL ms i = 1) (hs : ∀ i, i < n → 0 < (2 * atL ms i - 1) * (A * atL xs i + B * atL ys i + C)) (hf : ∀ i, i < n → atL xs i * atL xs i + atL ys i * atL ys i + 1 ≤ far) {s : PL} (h : invP A B C far s) :
    ∀ k, k ≤ n → invP A B C far (roundP xs ys ms s k) := by
  intro k
  induction k with
  | zero => intro _; exact h
  | succ k ih => intro hk; exact invP_step (hm k (by omega)) (hs k (by omega)) (hf k (by omega)) (ih (by omega))
theorem cauchy (a b c A B C : Int) : (a * A + b * B + c * C) * (a * A + b * B + c * C) ≤ (a * a + b * b + c * c) * (A * A + B * B + C * C) := by
  have h1 : (a * a + b * b + c * c) * (A * A + B * B + C * C) = (a * A + b * B + c * C) * (a * A + b * B + c * C) + (a * B - b * A) * (a * B - b * A) + (a * C - c * A) * (a * C - c * A) + (b * C - c * B) * (b * C - c * B) := by grind
  have := sq_nonneg' (a * B - b * A)
  have := sq_nonneg' (a * C - c * A)
  have := sq_nonneg' (b * C - c * B)
  omega
theorem invP_bound {A B C far : Int} {s : PL} (h : invP A B C far s) (hf : 0 ≤ far) : s.t ≤ far * (A * A + B * B + C * C) := by
  obtain ⟨h0, h1, h2⟩ := h
  have hQ : 0 ≤ A * A + B * B + C * C := by
    have := sq_nonneg' A
    have := sq_nonneg' B
    have := sq_nonneg' C
    omega
  have h3 : s.t * s.t ≤ (s.a * A + s.b * B + s.c * C) * (s.a * A + s.b * B + s.c * C) := Int.mul_le_mul h1 h1 h0 (by omega)
  have h4 := cauchy s.a s.b s.c A B C
  have h5 : (s.a * s.a + s.b * s.b + s.c * s.c) * (A * A + B * B + C * C) ≤ s.t * far * (A * A + B * B + C * C) := Int.mul_le_mul_of_nonneg_right h2 hQ
  have h6 : s.t * s.t ≤ s.t * (far * (A * A + B * B + C * C)) := by
    rw [← Int.mul_assoc]
    omega
  by_cases c : s.t = 0
  · rw [c]; exact Int.mul_nonneg hf hQ
  · exact Int.le_of_mul_le_mul_left h6 (by omega)
theorem runP_bound {A B C far : Int} {xs ys ms : List Int} (hm : ∀ i, i < xs.length → atL ms i = 0 ∨ atL ms i = 1) (hs : ∀ i, i < xs.length → 0 < (2 * atL ms i - 1) * (A * atL xs i + B * atL ys i + C)) (hf : ∀ i, i < xs.length → atL xs i * atL xs i + atL ys i * atL ys i + 1 ≤ far) (hf0 : 0 ≤ far) :
    ∀ (f : Nat) (s : PL), invP A B C far s → (runP xs ys ms f s).2.1 ≤ far * (A * A + B * B + C * C) := by
  intro f
  induction f with
  | zero => intro s h; exact invP_bound h hf0
  | succ f ih =>
    intro s h
    by_cases c : (roundP xs ys ms s xs.length).t = s.t
    · rw [runP_clean f c]; exact invP_bound h hf0
    · rw [runP_next f c]
      exact ih _ (invP_round hm hs hf h _ (Nat.le_refl _))
theorem invP_zero (A B C far : Int) : invP A B C far zeroP := by simp [invP, zeroP]
/-- What has been found parts the points. -/
theorem runP_parts {xs ys ms : List Int} : ∀ (f : Nat) (s : PL), (runP xs ys ms f s).2.2 = true → ∃ q : PL, (runP xs ys ms f s).1 = [q.a, q.b, q.c] ∧ ∀ i, i < xs.length → 0 < sideP (atL xs i) (atL ys i) (atL ms i) q := by
  intro f
  induction f with
  | zero => intro s h; simp [runP] at h
  | succ f ih =>
    intro s h
    by_cases c : (roundP xs ys ms s xs.length).t = s.t
    · rw [runP_clean f c]; exact ⟨s, rfl, (round_clean c).2⟩
    · rw [runP_next f c] at h ⊢
      exact ih _ h
theorem runP_len (xs ys ms : List Int) : ∀ (f : Nat) (s : PL), (runP xs ys ms f s).1.length ≤ 3 := by
  intro f
  induction f with
  | zero => intro s; simp [runP]
  | succ f ih =>
    intro s
    by_cases c : (roundP xs ys ms s xs.length).t = s.t
    · rw [runP_clean f c]; simp
    · rw [runP_next f c]; exact ih _
theorem runP_size {xs ys ms : List Int} (hx : ∀ k, -12 ≤ atL xs k ∧ atL xs k ≤ 12) (hy : ∀ k, -12 ≤ atL ys k ∧ atL ys k ≤ 12) (hm : ∀ k, atL ms k = 0 ∨ atL ms k = 1) (hn : xs.length ≤ 7) :
    ∀ (f : Nat) (s : PL) (T : Int), okP s T → (0 ≤ (runP xs ys ms f s).2.1 ∧ (runP xs ys ms f s).2.1 ≤ T + 7 * f) ∧ ∀ x ∈ (runP xs ys ms f s).1, -(12 * (T + 7 * f)) ≤ x ∧ x ≤ 12 * (T + 7 * f) := by
  intro f
  induction f with
  | zero =>
    intro s T h
    obtain ⟨h1, h2, h3, h4, h5⟩ := h
    simp [runP]
    omega
  | succ f ih =>
    intro s T h
    by_cases c : (roundP xs ys ms s xs.length).t = s.t
    · obtain ⟨h1, h2, h3, h4, h5⟩ := h
      rw [runP_clean f c]
      refine ⟨?_, fun x hx => ?_⟩
      · show 0 ≤ s.t ∧ s.t ≤ _; omega
      · simp at hx; omega
    · rw [runP_next f c]
      have h7 := okP_round hx hy hm h xs.length
      obtain ⟨h1, h2⟩ := ih _ _ h7
      refine ⟨by omega, fun x hx => ?_⟩
      have := h2 x hx
      omega
end Go.Proofs.Ytcmjmnlccempfaa
