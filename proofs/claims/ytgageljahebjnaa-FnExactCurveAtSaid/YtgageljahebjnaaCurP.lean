
/-
  Plain laws on the curve through points: divided differences over products of the points' distances; bounds.
-/
import Derived.Test.YtgageljahebjnaaQP
namespace Go.Proofs.Ytgageljahebjnaa
open Go.RowKit

/-- The divided differences. -/
def dd (x y : Nat → Int) : Nat → Nat → Rat
  | 0, i => qf (y i) 1
  | k + 1, i => (dd x y k (i + 1) - dd x y k i) * qf 1 (x (i + k + 1) - x i)

theorem qf_step {p q : Rat} {n1 v1 n0 v0 A B : Int} (e : Int) (hp : p = qf n1 v1) (hq : q = qf n0 v0) (hA : A ≠ 0) (hB : B ≠ 0) (h1 : v1 ≠ 0) (hv : v1 * A = v0 * B) :
    (p - q) * qf 1 e = qf (n1 * A - n0 * B) (v1 * A * e) := by
  have h2 : v1 * A ≠ 0 := Int.mul_ne_zero h1 hA
  rw [hp, hq, ← qf_scale (n := n1) (d := v1) hA, ← qf_scale (n := n0) (d := v0) hB, ← hv]
  have h3 : qf (n1 * A) (v1 * A) - qf (n0 * B) (v1 * A) = qf (n1 * A - n0 * B) (v1 * A) := by
    unfold qf
    rw [Rat.divInt_sub_divInt _ _ h2 h2, ← Int.sub_mul]
    exact Rat.divInt_mul_right h2
  rw [h3]
  unfold qf
  rw [Rat.divInt_mul_divInt, Int.mul_one]

def v3 (a b c : Int) : Int := (b - a) * ((c - a) * (c - b))
def v4 (a b c d : Int) : Int := v3 a b c * ((d - a) * ((d - b) * (d - c)))
def v5 (a b c d e : Int) : Int := v4 a b c d * ((e - a) * ((e - b) * ((e - c) * (e - d))))
def n3 (a b c p q r : Int) : Int := p * (c - b) - q * (c - a) + r * (b - a)
def n4 (a b c d p q r s : Int) : Int := s * v3 a b c - r * v3 a b d + q * v3 a c d - p * v3 b c d
def n5 (a b c d e p q r s t : Int) : Int := t * v4 a b c d - s * v4 a b c e + r * v4 a b d e - q * v4 a c d e + p * v4 b c d e

/-- All distances are other than 0. -/
def Dis (x : Nat → Int) (n : Nat) : Prop := ∀ i j, i < j → j < n → x j - x i ≠ 0

theorem dd1 {x y : Nat → Int} {n i : Nat} (_h : Dis x n) (_hi : i + 1 < n) : dd x y 1 i = qf (y (i + 1) - y i) (x (i + 1) - x i) := by
  have := qf_step (p := dd x y 0 (i + 1)) (q := dd x y 0 i) (A := 1) (B := 1) (x (i + 1) - x i) rfl rfl (by decide) (by decide) (by decide) rfl
  rw [Int.mul_one, Int.mul_one, Int.mul_one, Int.one_mul] at this
  exact this
theorem dd2 {x y : Nat → Int} {n i : Nat} (h : Dis x n) (hi : i + 2 < n) : dd x y 2 i = qf (n3 (x i) (x (i + 1)) (x (i + 2)) (y i) (y (i + 1)) (y (i + 2))) (v3 (x i) (x (i + 1)) (x (i + 2))) := by
  have h01 := h i (i + 1) (by omega) (by omega)
  have h12 := h (i + 1) (i + 2) (by omega) (by omega)
  have := qf_step (x (i + 2) - x i) (dd1 (y := y) h (i := i + 1) (by omega)) (dd1 (y := y) h (i := i) (by omega)) (A := x (i + 1) - x i) (B := x (i + 2) - x (i + 1)) h01 h12 h12 (Int.mul_comm _ _)
  refine (show dd x y 2 i = _ from this).trans ?_
  congr 1
  · show (y (i + 2) - y (i + 1)) * _ - _ = _
    unfold n3; grind
  · show (x (i + 2) - x (i + 1)) * _ * _ = _
    unfold v3; grind
theorem v3_ne {x : Nat → Int} {n : Nat} (h : Dis x n) {i j k : Nat} (h1 : i < j) (h2 : j < k) (h3 : k < n) : v3 (x i) (x j) (x k) ≠ 0 :=
  Int.mul_ne_zero (h i j h1 (by omega)) (Int.mul_ne_zero (h i k (by omega) h3) (h j k h2 h3))
theorem v4_ne {x : Nat → Int} {n : Nat} (h : Dis x n) {i j k l : Nat} (h1 : i < j) (h2 : j < k) (h3 : k < l) (h4 : l < n) : v4 (x i) (x j) (x k) (x l) ≠ 0 :=
  Int.mul_ne_zero (v3_ne h h1 h2 (by omega)) (Int.mul_ne_zero (h i l (by omega) h4) (Int.mul_ne_zero (h j l (by omega) h4) (h k l h3 h4)))
theorem dd3 {x y : Nat → Int} {n i : Nat} (h : Dis x n) (hi : i + 3 < n) : dd x y 3 i = qf (n4 (x i) (x (i + 1)) (x (i + 2)) (x (i + 3)) (y i) (y (i + 1)) (y (i + 2)) (y (i + 3))) (v4 (x i) (x (i + 1)) (x (i + 2)) (x (i + 3))) := by
  have h01 := h i (i + 1) (by omega) (by omega)
  have h02 := h i (i + 2) (by omega) (by omega)
  have h13 := h (i + 1) (i + 3) (by omega) (by omega)
  have h23 := h (i + 2) (i + 3) (by omega) (by omega)
  have := qf_step (x (i + 3) - x i) (dd2 (y := y) h (i := i + 1) (by omega)) (dd2 (y := y) h (i := i) (by omega)) (A := (x (i + 1) - x i) * (x (i + 2) - x i)) (B := (x (i + 3) - x (i + 1)) * (x (i + 3) - x (i + 2)))
    (Int.mul_ne_zero h01 h02) (Int.mul_ne_zero h13 h23) (v3_ne h (by omega) (by omega) (by omega)) (by
      show v3 (x (i + 1)) (x (i + 2)) (x (i + 3)) * _ = _
      unfold v3; grind)
  refine (show dd x y 3 i = _ from this).trans ?_
  congr 1
  · show n3 (x (i + 1)) (x (i + 2)) (x (i + 3)) (y (i + 1)) (y (i + 2)) (y (i + 3)) * _ - _ = _
    unfold n4 n3 v3; grind
  · show v3 (x (i + 1)) (x (i + 2)) (x (i + 3)) * _ * _ = _
    unfold v4 v3; grind
theorem dd4 {x y : Nat → Int} {n i : Nat} (h : Dis x n) (hi : i + 4 < n) : dd x y 4 i = qf (n5 (x i) (x (i + 1)) (x (i + 2)) (x (i + 3)) (x (i + 4)) (y i) (y (i + 1)) (y (i + 2)) (y (i + 3)) (y (i + 4))) (v5 (x i) (x (i + 1)) (x (i + 2)) (x (i + 3)) (x (i + 4))) := by
  have h01 := h i (i + 1) (by omega) (by omega)
  have h02 := h i (i + 2) (by omega) (by omega)
  have h03 := h i (i + 3) (by omega) (by omega)
  have h14 := h (i + 1) (i + 4) (by omega) (by omega)
  have h24 := h (i + 2) (i + 4) (by omega) (by omega)
  have h34 := h (i + 3) (i + 4) (by omega) (by omega)
  have := qf_step (x (i + 4) - x i) (dd3 (y := y) h (i := i + 1) (by omega)) (dd3 (y := y) h (i := i) (by omega)) (A := (x (i + 1) - x i) * ((x (i + 2) - x i) * (x (i + 3) - x i))) (B := (x (i + 4) - x (i + 1)) * ((x (i + 4) - x (i + 2)) * (x (i + 4) - x (i + 3))))
    (Int.mul_ne_zero h01 (Int.mul_ne_zero h02 h03)) (Int.mul_ne_zero h14 (Int.mul_ne_zero h24 h34)) (v4_ne h (by omega) (by omega) (by omega) (by omega)) (by
      show v4 (x (i + 1)) (x (i + 2)) (x (i + 3)) (x (i + 4)) * _ = _
      unfold v4 v3; grind)
  refine (show dd x y 4 i = _ from this).trans ?_
  congr 1
  · show n4 (x (i + 1)) (x (i + 2)) (x (i + 3)) (x (i + 4)) (y (i + 1)) (y (i + 2)) (y (i + 3)) (y (i + 4)) * _ - _ = _
    unfold n5 n4 v4 v3; grind
  · show v4 (x (i + 1)) (x (i + 2)) (x (i + 3)) (x (i + 4)) * _ * _ = _
    unfold v5 v4 v3; grind

theorem nabs_comm (a b : Int) : (a - b).natAbs = (b - a).natAbs := by omega
/-! ### How great the products of the distances are -/
def prd (a : Int) : List Int → Nat
  | [] => 1
  | b :: l => (a - b).natAbs * prd a l
def vd : List Int → Nat
  | [] => 1
  | a :: l => prd a l * vd l
theorem prd_perm (a : Int) {l m : List Int} (h : l.Perm m) : prd a l = prd a m := by
  induction h with
  | nil => rfl
  | cons b _ ih => simp only [prd, ih]
  | swap b c l => simp only [prd]; rw [← Nat.mul_assoc, ← Nat.mul_assoc, Nat.mul_comm (a - c).natAbs]
  | trans _ _ h1 h2 => exact h1.trans h2
theorem vd_perm {l m : List Int} (h : l.Perm m) : vd l = vd m := by
  induction h with
  | nil => rfl
  | cons b k ih => simp only [vd, ih, prd_perm b k]
  | swap b c l => simp only [vd, prd]; rw [nabs_comm c b]; ac_rfl
  | trans _ _ h1 h2 => exact h1.trans h2
theorem vd_sorted (l : List Int) : ∃ m : List Int, vd l = vd m ∧ m.length = l.length ∧ m.Pairwise (· ≤ ·) ∧ ∀ a ∈ m, a ∈ l := by
  refine ⟨l.mergeSort (fun a b => decide (a ≤ b)), (vd_perm (List.mergeSort_perm _ _)).symm, List.length_mergeSort _, ?_, fun a h => (List.mergeSort_perm l _).mem_iff.1 h⟩
  have := List.pairwise_mergeSort (le := fun a b : Int => decide (a ≤ b)) (fun a b c h1 h2 => by simp at *; omega) (fun a b => by simp; omega) l
  exact this.imp fun h => by simpa using h
theorem mul144 {u v : Nat} (h : u + v ≤ 24) : u * v ≤ 144 := by
  have h1 : ∀ u, u < 25 → u * (24 - u) ≤ 144 := by decide
  exact Nat.le_trans (Nat.mul_le_mul_left u (by omega)) (h1 u (by omega))
theorem four_mul (p q : Nat) : 4 * (p * q) ≤ (p + q) * (p + q) := by
  rcases Nat.le_total p q with h | h
  · obtain ⟨t, rfl⟩ := Nat.exists_eq_add_of_le h
    have : (p + (p + t)) * (p + (p + t)) = 4 * (p * (p + t)) + t * t := by grind
    omega
  · obtain ⟨t, rfl⟩ := Nat.exists_eq_add_of_le h
    have : (q + t + q) * (q + t + q) = 4 * ((q + t) * q) + t * t := by grind
    omega
theorem mul1296 {p q r s : Nat} (h : p + q + r + s ≤ 24) : (p * q) * (r * s) ≤ 1296 := by
  have h1 := four_mul p q
  have h2 := four_mul r s
  have h3 := mul144 (u := p + q) (v := r + s) (by omega)
  have h4 := Nat.mul_le_mul h1 h2
  have h5 := Nat.mul_le_mul h3 h3
  have h6 : 4 * (p * q) * (4 * (r * s)) = 16 * ((p * q) * (r * s)) := by grind
  have h7 : (p + q) * (p + q) * ((r + s) * (r + s)) = (p + q) * (r + s) * ((p + q) * (r + s)) := by grind
  omega
theorem gap {a b : Int} (h : a ≤ b) : ∃ p : Nat, b = a + p := ⟨(b - a).toNat, by omega⟩
theorem ab_gap {a : Int} (p : Nat) : (a - (a + p)).natAbs = p := by omega
theorem vd3_le {a b c : Int} (ha : -12 ≤ a ∧ a ≤ 12) (hb : -12 ≤ b ∧ b ≤ 12) (hc : -12 ≤ c ∧ c ≤ 12) : vd [a, b, c] ≤ 3456 := by
  obtain ⟨m, h1, h2, h3, h4⟩ := vd_sorted [a, b, c]
  rw [h1]
  have h5 : ∀ z ∈ m, -12 ≤ z ∧ z ≤ 12 := fun z hz => by have := h4 z hz; simp at this; rcases this with rfl | rfl | rfl <;> assumption
  match m, h2 with
  | [a, b, c], _ =>
    simp only [List.pairwise_cons, List.mem_cons, List.not_mem_nil, or_false, forall_eq_or_imp, forall_eq, false_implies, implies_true, and_true] at h3 h5
    obtain ⟨p, rfl⟩ := gap h3.1.1
    obtain ⟨q, rfl⟩ := gap h3.2.1
    have e1 : (a - (a + p)).natAbs = p := by omega
    have e2 : (a - (a + p + q)).natAbs = p + q := by omega
    have e3 : (a + p - (a + p + q)).natAbs = q := by omega
    simp only [vd, prd, e1, e2, e3, Nat.mul_one]
    have k1 := mul144 (u := p) (v := q) (by omega)
    have k2 := Nat.mul_le_mul k1 (show p + q ≤ 24 by omega)
    refine Nat.le_trans (Nat.le_of_eq ?_) k2
    ac_rfl
theorem vd4_le {a b c d : Int} (ha : -12 ≤ a ∧ a ≤ 12) (hb : -12 ≤ b ∧ b ≤ 12) (hc : -12 ≤ c ∧ c ≤ 12) (hd : -12 ≤ d ∧ d ≤ 12) : vd [a, b, c, d] ≤ 11943936 := by
  obtain ⟨m, h1, h2, h3, h4⟩ := vd_sorted [a, b, c, d]
  rw [h1]
  have h5 : ∀ z ∈ m, -12 ≤ z ∧ z ≤ 12 := fun z hz => by have := h4 z hz; simp at this; rcases this with rfl | rfl | rfl | rfl <;> assumption
  match m, h2 with
  | [a, b, c, d], _ =>
    simp only [List.pairwise_cons, List.mem_cons, List.not_mem_nil, or_false, forall_eq_or_imp, forall_eq, false_implies, implies_true, and_true] at h3 h5
    obtain ⟨p, rfl⟩ := gap h3.1.1
    obtain ⟨q, rfl⟩ := gap h3.2.1.1
    obtain ⟨r, rfl⟩ := gap h3.2.2.1
    have e1 : (a - (a + p)).natAbs = p := by omega
    have e2 : (a - (a + p + q)).natAbs = p + q := by omega
    have e3 : (a - (a + p + q + r)).natAbs = p + q + r := by omega
    have e4 : (a + p - (a + p + q)).natAbs = q := by omega
    have e5 : (a + p - (a + p + q + r)).natAbs = q + r := by omega
    have e6 : (a + p + q - (a + p + q + r)).natAbs = r := by omega
    simp only [vd, prd, e1, e2, e3, e4, e5, e6, Nat.mul_one]
    have k1 := mul144 (u := p) (v := q + r) (by omega)
    have k2 := mul144 (u := p + q) (v := r) (by omega)
    have k3 := Nat.mul_le_mul (Nat.mul_le_mul k1 k2) (Nat.mul_le_mul (show q ≤ 24 by omega) (show p + q + r ≤ 24 by omega))
    refine Nat.le_trans (Nat.le_of_eq ?_) k3
    ac_rfl
theorem vd5_le {a b c d e : Int} (ha : -12 ≤ a ∧ a ≤ 12) (hb : -12 ≤ b ∧ b ≤ 12) (hc : -12 ≤ c ∧ c ≤ 12) (hd : -12 ≤ d ∧ d ≤ 12) (he : -12 ≤ e ∧ e ≤ 12) : vd [a, b, c, d, e] ≤ 61917364224 := by
  obtain ⟨m, h1, h2, h3, h4⟩ := vd_sorted [a, b, c, d, e]
  rw [h1]
  have h5 : ∀ z ∈ m, -12 ≤ z ∧ z ≤ 12 := fun z hz => by have := h4 z hz; simp at this; rcases this with rfl | rfl | rfl | rfl | rfl <;> assumption
  match m, h2 with
  | [a, b, c, d, e], _ =>
    simp only [List.pairwise_cons, List.mem_cons, List.not_mem_nil, or_false, forall_eq_or_imp, forall_eq, false_implies, implies_true, and_true] at h3 h5
    obtain ⟨p, rfl⟩ := gap h3.1.1
    obtain ⟨q, rfl⟩ := gap h3.2.1.1
    obtain ⟨r, rfl⟩ := gap h3.2.2.1.1
    obtain ⟨s, rfl⟩ := gap h3.2.2.2.1
    have e1 : (a - (a + p)).natAbs = p := by omega
    have e2 : (a - (a + p + q)).natAbs = p + q := by omega
    have e3 : (a - (a + p + q + r)).natAbs = p + q + r := by omega
    have e4 : (a - (a + p + q + r + s)).natAbs = p + q + r + s := by omega
    have e5 : (a + p - (a + p + q)).natAbs = q := by omega
    have e6 : (a + p - (a + p + q + r)).natAbs = q + r := by omega
    have e7 : (a + p - (a + p + q + r + s)).natAbs = q + r + s := by omega
    have e8 : (a + p + q - (a + p + q + r)).natAbs = r := by omega
    have e9 : (a + p + q - (a + p + q + r + s)).natAbs = r + s := by omega
    have e10 : (a + p + q + r - (a + p + q + r + s)).natAbs = s := by omega
    simp only [vd, prd, e1, e2, e3, e4, e5, e6, e7, e8, e9, e10, Nat.mul_one]
    have k1 := mul1296 (p := p) (q := q) (r := r) (s := s) (by omega)
    have k2 := mul144 (u := p + q) (v := r + s) (by omega)
    have k3 := Nat.mul_le_mul (show p + q + r ≤ 24 by omega) (show q + r + s ≤ 24 by omega)
    have k4 := Nat.mul_le_mul (Nat.mul_le_mul k1 k2) (Nat.mul_le_mul k3 (Nat.mul_le_mul (show q + r ≤ 24 by omega) (show p + q + r + s ≤ 24 by omega)))
    refine Nat.le_trans (Nat.le_of_eq ?_) k4
    ac_rfl
theorem v3_le {a b c : Int} (ha : -12 ≤ a ∧ a ≤ 12) (hb : -12 ≤ b ∧ b ≤ 12) (hc : -12 ≤ c ∧ c ≤ 12) : (v3 a b c).natAbs ≤ 3456 := by
  refine Nat.le_trans (Nat.le_of_eq ?_) (vd3_le ha hb hc)
  simp only [v3, Int.natAbs_mul, vd, prd, Nat.mul_one]
  rw [nabs_comm b a, nabs_comm c a, nabs_comm c b]; ac_rfl
theorem v4_le {a b c d : Int} (ha : -12 ≤ a ∧ a ≤ 12) (hb : -12 ≤ b ∧ b ≤ 12) (hc : -12 ≤ c ∧ c ≤ 12) (hd : -12 ≤ d ∧ d ≤ 12) : (v4 a b c d).natAbs ≤ 11943936 := by
  refine Nat.le_trans (Nat.le_of_eq ?_) (vd4_le ha hb hc hd)
  simp only [v4, v3, Int.natAbs_mul, vd, prd, Nat.mul_one]
  rw [nabs_comm b a, nabs_comm c a, nabs_comm c b, nabs_comm d a, nabs_comm d b, nabs_comm d c]; ac_rfl
theorem v5_le {a b c d e : Int} (ha : -12 ≤ a ∧ a ≤ 12) (hb : -12 ≤ b ∧ b ≤ 12) (hc : -12 ≤ c ∧ c ≤ 12) (hd : -12 ≤ d ∧ d ≤ 12) (he : -12 ≤ e ∧ e ≤ 12) : (v5 a b c d e).natAbs ≤ 61917364224 := by
  refine Nat.le_trans (Nat.le_of_eq ?_) (vd5_le ha hb hc hd he)
  simp only [v5, v4, v3, Int.natAbs_mul, vd, prd, Nat.mul_one]
  rw [nabs_comm b a, nabs_comm c a, nabs_comm c b, nabs_comm d a, nabs_comm d b, nabs_comm d c, nabs_comm e a, nabs_comm e b, nabs_comm e c, nabs_comm e d]; ac_rfl

theorem nmul {a b : Int} {A B : Nat} (ha : a.natAbs ≤ A) (hb : b.natAbs ≤ B) : (a * b).natAbs ≤ A * B := by
  rw [Int.natAbs_mul]; exact Nat.mul_le_mul ha hb
theorem n3_le {a b c p q r : Int} (ha : -12 ≤ a ∧ a ≤ 12) (hb : -12 ≤ b ∧ b ≤ 12) (hc : -12 ≤ c ∧ c ≤ 12) (hp : -12 ≤ p ∧ p ≤ 12) (hq : -12 ≤ q ∧ q ≤ 12) (hr : -12 ≤ r ∧ r ≤ 12) : -864 ≤ n3 a b c p q r ∧ n3 a b c p q r ≤ 864 := by
  have h1 := nmul (a := p) (b := c - b) (A := 12) (B := 24) (by omega) (by omega)
  have h2 := nmul (a := q) (b := c - a) (A := 12) (B := 24) (by omega) (by omega)
  have h3 := nmul (a := r) (b := b - a) (A := 12) (B := 24) (by omega) (by omega)
  unfold n3
  omega
theorem n4_le {a b c d p q r s : Int} (ha : -12 ≤ a ∧ a ≤ 12) (hb : -12 ≤ b ∧ b ≤ 12) (hc : -12 ≤ c ∧ c ≤ 12) (hd : -12 ≤ d ∧ d ≤ 12) (hp : -12 ≤ p ∧ p ≤ 12) (hq : -12 ≤ q ∧ q ≤ 12) (hr : -12 ≤ r ∧ r ≤ 12) (hs : -12 ≤ s ∧ s ≤ 12) :
    -165888 ≤ n4 a b c d p q r s ∧ n4 a b c d p q r s ≤ 165888 := by
  have h1 := nmul (a := s) (A := 12) (by omega) (v3_le ha hb hc)
  have h2 := nmul (a := r) (A := 12) (by omega) (v3_le ha hb hd)
  have h3 := nmul (a := q) (A := 12) (by omega) (v3_le ha hc hd)
  have h4 := nmul (a := p) (A := 12) (by omega) (v3_le hb hc hd)
  unfold n4
  omega
theorem n5_le {a b c d e p q r s t : Int} (ha : -12 ≤ a ∧ a ≤ 12) (hb : -12 ≤ b ∧ b ≤ 12) (hc : -12 ≤ c ∧ c ≤ 12) (hd : -12 ≤ d ∧ d ≤ 12) (he : -12 ≤ e ∧ e ≤ 12) (hp : -12 ≤ p ∧ p ≤ 12) (hq : -12 ≤ q ∧ q ≤ 12) (hr : -12 ≤ r ∧ r ≤ 12) (hs : -12 ≤ s ∧ s ≤ 12) (ht : -12 ≤ t ∧ t ≤ 12) :
    -716636160 ≤ n5 a b c d e p q r s t ∧ n5 a b c d e p q r s t ≤ 716636160 := by
  have h1 := nmul (a := t) (A := 12) (by omega) (v4_le ha hb hc hd)
  have h2 := nmul (a := s) (A := 12) (by omega) (v4_le ha hb hc he)
  have h3 := nmul (a := r) (A := 12) (by omega) (v4_le ha hb hd he)
  have h4 := nmul (a := q) (A := 12) (by omega) (v4_le ha hc hd he)
  have h5 := nmul (a := p) (A := 12) (by omega) (v4_le hb hc hd he)
  unfold n5
  omega

theorem fbd {V M : Int} {r : Rat} (h : FB V M r) (hV : V ≠ 0) : (-M ≤ r.num ∧ r.num ≤ M) ∧ (r.den : Int) ≤ V.natAbs := by
  rcases Int.lt_or_gt_of_ne hV with h0 | h0
  · obtain ⟨m, hm, hb⟩ := h
    rw [← divInt_neg'] at hm
    have := FB.bd (D := -V) (M := M) ⟨-m, hm, by omega⟩ (by omega)
    omega
  · have := h.bd h0
    omega
theorem fb_add {D M N : Int} {p q : Rat} (hD : D ≠ 0) (h : FB D M p) (k : FB D N q) : FB D (M + N) (p + q) := by
  obtain ⟨m, rfl, hm⟩ := h
  obtain ⟨n, rfl, hn⟩ := k
  refine ⟨m + n, ?_, by omega⟩
  rw [qf, qf, Rat.divInt_add_divInt _ _ hD hD, ← Int.add_mul]
  exact Rat.divInt_mul_right hD
theorem fb_up {D M k : Int} {K : Nat} {p : Rat} (h : FB D M p) (hk : k ≠ 0) (hK : k.natAbs ≤ K) (hM : 0 ≤ M) : FB (D * k) (M * K) p := by
  obtain ⟨m, rfl, hm⟩ := h
  refine ⟨m * k, (qf_scale hk).symm, ?_⟩
  have := nmul (a := m) (b := k) (A := M.natAbs) (B := K) (by omega) hK
  have h2 : ((M.natAbs * K : Nat) : Int) = M * K := by rw [Int.natCast_mul]; congr 1; omega
  omega
/-- All numbers up to n are small. -/
def Pl (x : Nat → Int) (n : Nat) : Prop := ∀ i, i < n → -12 ≤ x i ∧ x i ≤ 12

/-- The product of the distances of the first k points. -/
def vv (x : Nat → Int) : Nat → Int
  | 0 => 1
  | 1 => 1
  | 2 => x 1 - x 0
  | 3 => v3 (x 0) (x 1) (x 2)
  | 4 => v4 (x 0) (x 1) (x 2) (x 3)
  | _ => v5 (x 0) (x 1) (x 2) (x 3) (x 4)
def vm : Nat → Nat
  | 0 => 1
  | 1 => 1
  | 2 => 24
  | 3 => 3456
  | 4 => 11943936
  | _ => 61917364224
def dm : Nat → Nat
  | 0 => 12
  | 1 => 24
  | 2 => 864
  | 3 => 165888
  | _ => 716636160
theorem vv_le {x : Nat → Int} {n : Nat} (h : Pl x n) (hn : n ≤ 5) : (vv x n).natAbs ≤ vm n := by
  match n, hn with
  | 0, _ => exact (by decide : (1 : Int).natAbs ≤ 1)
  | 1, _ => exact (by decide : (1 : Int).natAbs ≤ 1)
  | 2, _ => have := h 0 (by omega); have := h 1 (by omega); simp only [vv, vm]; omega
  | 3, _ => exact v3_le (h 0 (by omega)) (h 1 (by omega)) (h 2 (by omega))
  | 4, _ => exact v4_le (h 0 (by omega)) (h 1 (by omega)) (h 2 (by omega)) (h 3 (by omega))
  | 5, _ => exact v5_le (h 0 (by omega)) (h 1 (by omega)) (h 2 (by omega)) (h 3 (by omega)) (h 4 (by omega))
theorem Dis.mono {x : Nat → Int} {n m : Nat} (h : Dis x n) (hm : m ≤ n) : Dis x m := fun i j h1 h2 => h i j h1 (by omega)
theorem Pl.mono {x : Nat → Int} {n m : Nat} (h : Pl x n) (hm : m ≤ n) : Pl x m := fun i h1 => h i (by omega)
theorem vv_ne {x : Nat → Int} {n : Nat} (h : Dis x n) (hn : n ≤ 5) : vv x n ≠ 0 := by
  match n, hn with
  | 0, _ => exact (by decide : (1 : Int) ≠ 0)
  | 1, _ => exact (by decide : (1 : Int) ≠ 0)
  | 2, _ => exact h 0 1 (by omega) (by omega)
  | 3, _ => exact v3_ne h (by omega) (by omega) (by omega)
  | 4, _ => exact v4_ne h (by omega) (by omega) (by omega) (by omega)
  | 5, _ => exact Int.mul_ne_zero (v4_ne h (by omega) (by omega) (by omega) (by omega)) (Int.mul_ne_zero (h 0 4 (by omega) (by omega)) (Int.mul_ne_zero (h 1 4 (by omega) (by omega)) (Int.mul_ne_zero (h 2 4 (by omega) (by omega)) (h 3 4 (by omega) (by omega)))))
def sh (x : Nat → Int) (i : Nat) : Nat → Int := fun j => x (i + j)
theorem dd_fb {x y : Nat → Int} {n k i : Nat} (h : Dis x n) (hx : Pl x n) (hy : Pl y n) (hi : i + k < n) (hk : k ≤ 4) : FB (vv (sh x i) (k + 1)) (dm k) (dd x y k i) := by
  match k, hk with
  | 0, _ => exact ⟨y i, rfl, hy i (by omega)⟩
  | 1, _ =>
    refine ⟨_, dd1 h (by omega), ?_⟩
    have := hy i (by omega); have := hy (i + 1) (by omega)
    simp only [dm]; omega
  | 2, _ => exact ⟨_, dd2 h (by omega), n3_le (hx i (by omega)) (hx (i + 1) (by omega)) (hx (i + 2) (by omega)) (hy i (by omega)) (hy (i + 1) (by omega)) (hy (i + 2) (by omega))⟩
  | 3, _ => exact ⟨_, dd3 h (by omega), n4_le (hx i (by omega)) (hx (i + 1) (by omega)) (hx (i + 2) (by omega)) (hx (i + 3) (by omega)) (hy i (by omega)) (hy (i + 1) (by omega)) (hy (i + 2) (by omega)) (hy (i + 3) (by omega))⟩
  | 4, _ => exact ⟨_, dd4 h (by omega), n5_le (hx i (by omega)) (hx (i + 1) (by omega)) (hx (i + 2) (by omega)) (hx (i + 3) (by omega)) (hx (i + 4) (by omega)) (hy i (by omega)) (hy (i + 1) (by omega)) (hy (i + 2) (by omega)) (hy (i + 3) (by omega)) (hy (i + 4) (by omega))⟩
theorem dd_bd {x y : Nat → Int} {n k i : Nat} (h : Dis x n) (hx : Pl x n) (hy : Pl y n) (hi : i + k < n) (hk : k ≤ 4) : (-(dm k : Int) ≤ (dd x y k i).num ∧ (dd x y k i).num ≤ dm k) ∧ ((dd x y k i).den : Int) ≤ vm (k + 1) := by
  have hs : Dis (sh x i) (k + 1) := fun a b h1 h2 => h (i + a) (i + b) (by omega) (by omega)
  have hp : Pl (sh x i) (k + 1) := fun a h1 => hx (i + a) (by omega)
  have h1 := fbd (dd_fb (y := y) h hx hy hi hk) (vv_ne hs (by omega))
  have h2 := vv_le hp (by omega)
  exact ⟨h1.1, by omega⟩

end Go.Proofs.Ytgageljahebjnaa
