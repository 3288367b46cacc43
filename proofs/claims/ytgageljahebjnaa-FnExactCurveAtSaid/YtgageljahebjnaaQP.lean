
/-
  Plain laws on fractions: the arithmetic of the program and of its reference is that of the rational numbers; fractions over a common denominator and their bounds.
-/
import Derived.Test.YtgageljahebjnaaRat
namespace Go.Proofs.Ytgageljahebjnaa
open Go.RowKit

/-- A fraction whose numerator and denominator are at most 2^30 in size. -/
def Sm (p : Rat) : Prop := (-1073741824 ≤ p.num ∧ p.num ≤ 1073741824) ∧ (p.den : Int) ≤ 1073741824
theorem qden_pos (p : Rat) : 0 < (p.den : Int) := by have := p.den_nz; omega
theorem qf_add (p q : Rat) : qf (p.num * q.den + q.num * p.den) (p.den * q.den) = p + q := by
  have h := Rat.divInt_add_divInt p.num q.num (d₁ := p.den) (d₂ := q.den) (by have := qden_pos p; omega) (by have := qden_pos q; omega)
  rw [Rat.num_divInt_den, Rat.num_divInt_den] at h
  exact h.symm
theorem qf_sub (p q : Rat) : qf (p.num * q.den - q.num * p.den) (p.den * q.den) = p - q := by
  have h := Rat.divInt_sub_divInt p.num q.num (d₁ := p.den) (d₂ := q.den) (by have := qden_pos p; omega) (by have := qden_pos q; omega)
  rw [Rat.num_divInt_den, Rat.num_divInt_den] at h
  exact h.symm
theorem qf_mul (p q : Rat) : qf (p.num * q.num) (p.den * q.den) = p * q := by
  have h := Rat.divInt_mul_divInt p.num q.num (d₁ := p.den) (d₂ := q.den)
  rw [Rat.num_divInt_den, Rat.num_divInt_den] at h
  exact h.symm
theorem qf_scale {n d a : Int} (h : a ≠ 0) : qf (n * a) (d * a) = qf n d := Rat.divInt_mul_right h
theorem qf_inv (q : Rat) : qf q.den q.num = q⁻¹ := (Rat.inv_def q).symm
theorem qf_self (q : Rat) : qf q.num q.den = q := Rat.num_divInt_den q
theorem qf_one (n : Int) : qf n 1 = (n : Rat) := by
  have := qf_self (n : Rat)
  rwa [Rat.num_intCast, Rat.den_intCast] at this
theorem tdiv_mul_gcd {a b : Int} : a.tdiv (Int.gcd a b) * (Int.gcd a b : Int) = a := Int.tdiv_mul_cancel (Int.gcd_dvd_left ..)
theorem tdiv_mul_gcd' {a b : Int} : b.tdiv (Int.gcd a b) * (Int.gcd a b : Int) = b := Int.tdiv_mul_cancel (Int.gcd_dvd_right ..)
theorem qf_plus_impl (p q : Rat) : qf (p.num * ((q.den : Int).tdiv (Int.gcd p.den q.den)) + q.num * ((p.den : Int).tdiv (Int.gcd p.den q.den))) ((p.den : Int).tdiv (Int.gcd p.den q.den) * q.den) = p + q := by
  have hp := qden_pos p
  have h0 : (Int.gcd p.den q.den : Int) ≠ 0 := by
    have := Int.gcd_pos_iff (a := p.den) (b := q.den)
    have : 0 < Int.gcd p.den q.den := this.2 (.inl (by omega))
    omega
  rw [← qf_scale h0, ← qf_add]
  have h1 := tdiv_mul_gcd (a := p.den) (b := q.den)
  have h2 := tdiv_mul_gcd' (a := p.den) (b := q.den)
  congr 1
  · rw [Int.add_mul, Int.mul_assoc, h2, Int.mul_assoc, h1]
  · rw [Int.mul_assoc, Int.mul_comm _ (Int.gcd _ _ : Int), ← Int.mul_assoc, h1]
theorem times_num (p q : Rat) : (p * q).num = (qf p.num q.den).num * (qf q.num p.den).num := by
  have h1 := tdiv_gcd_num p.num q.den (qden_pos q)
  have h2 := tdiv_gcd_num q.num p.den (qden_pos p)
  rw [← h1, ← h2]
  show (Rat.mul p q).num = _
  unfold Rat.mul
  simp only [Int.divExact_eq_tdiv]
  rfl
theorem times_den (p q : Rat) : ((p * q).den : Int) = (qf p.num q.den).den * (qf q.num p.den).den := by
  have h1 := tdiv_gcd_den p.num q.den (qden_pos q)
  have h2 := tdiv_gcd_den q.num p.den (qden_pos p)
  rw [← h1, ← h2]
  show ((Rat.mul p q).den : Int) = _
  unfold Rat.mul
  simp only [Nat.divExact_eq_div, Int.natCast_mul, Int.natCast_ediv]
  rw [Int.mul_comm]
  rfl
theorem lt_num (p q : Rat) : p < q ↔ (p - q).num < 0 := by
  have h := Rat.num_nonneg (q := p - q)
  constructor
  · intro h1
    have : ¬ 0 ≤ p - q := by grind
    rw [← h] at this
    omega
  · intro h1
    have : ¬ 0 ≤ p - q := by rw [← h]; omega
    grind
theorem lt_cross (p q : Rat) : p < q ↔ p.num * q.den < q.num * p.den := Rat.lt_iff p q
/-- r is a fraction over D whose numerator is at most M in size. -/
def FB (D M : Int) (r : Rat) : Prop := ∃ m : Int, r = qf m D ∧ -M ≤ m ∧ m ≤ M
theorem FB.bd {D M : Int} {r : Rat} (h : FB D M r) (hD : 0 < D) : (-M ≤ r.num ∧ r.num ≤ M) ∧ (r.den : Int) ≤ D := by
  obtain ⟨m, rfl, hm⟩ := h
  have h2 := tdiv_bound D (Int.gcd m D) (M := D) (by omega)
  rw [tdiv_gcd_den _ _ hD] at h2
  have h3 := tdiv_bound m (Int.gcd m D) hm
  rw [tdiv_gcd_num _ _ hD] at h3
  exact ⟨h3, h2.2⟩
theorem FB.sm {D M : Int} {r : Rat} (h : FB D M r) (hD : 0 < D) (hD2 : D ≤ 1073741824) (hM : M ≤ 1073741824) : Sm r := by
  have := h.bd hD
  unfold Sm
  omega
theorem FB.mono {D M N : Int} {r : Rat} (h : FB D M r) (hN : M ≤ N) : FB D N r := by
  obtain ⟨m, h1, h2⟩ := h
  exact ⟨m, h1, by omega⟩
theorem FB.add {D M N : Int} {p q : Rat} (hD : 0 < D) (h : FB D M p) (k : FB D N q) : FB D (M + N) (p + q) := by
  obtain ⟨m, rfl, hm⟩ := h
  obtain ⟨n, rfl, hn⟩ := k
  refine ⟨m + n, ?_, by omega⟩
  rw [qf, qf, Rat.divInt_add_divInt _ _ (by omega) (by omega), ← Int.add_mul]
  exact Rat.divInt_mul_right (by omega)
theorem FB.neg {D M : Int} {p : Rat} (h : FB D M p) : FB D M (-p) := by
  obtain ⟨m, rfl, hm⟩ := h
  exact ⟨-m, by rw [qf, qf, Rat.neg_divInt], by omega⟩
theorem FB.sub {D M N : Int} {p q : Rat} (hD : 0 < D) (h : FB D M p) (k : FB D N q) : FB D (M + N) (p - q) := by
  rw [Rat.sub_eq_add_neg]; exact h.add hD k.neg
theorem FB.int {D : Int} (hD : 0 < D) (n : Int) {N : Int} (hn : -N ≤ n ∧ n ≤ N) : FB D (N * D) (n : Rat) := by
  refine ⟨n * D, ?_, ?_, ?_⟩
  · rw [← qf_one]
    have := qf_scale (n := n) (d := 1) (a := D) (by omega)
    rw [Int.one_mul] at this
    exact this.symm
  · rw [← Int.neg_mul]; exact Int.mul_le_mul_of_nonneg_right hn.1 (by omega)
  · exact Int.mul_le_mul_of_nonneg_right hn.2 (by omega)
theorem FB.mul {D E M N : Int} {p q : Rat} (h : FB D M p) (k : FB E N q) (hM : 0 ≤ M) (hN : 0 ≤ N) : FB (D * E) (M * N) (p * q) := by
  obtain ⟨m, rfl, hm⟩ := h
  obtain ⟨n, rfl, hn⟩ := k
  refine ⟨m * n, by rw [qf, qf, Rat.divInt_mul_divInt]; rfl, ?_⟩
  have h1 : (m * n).natAbs = m.natAbs * n.natAbs := Int.natAbs_mul m n
  have h2 : m.natAbs * n.natAbs ≤ M.natAbs * N.natAbs := Nat.mul_le_mul (by omega) (by omega)
  have h3 : (M * N).natAbs = M.natAbs * N.natAbs := Int.natAbs_mul M N
  have h4 : 0 ≤ M * N := Int.mul_nonneg hM hN
  omega
theorem FB.qf {D M m : Int} (h : -M ≤ m ∧ m ≤ M) : FB D M (qf m D) := ⟨m, rfl, h⟩
end Go.Proofs.Ytgageljahebjnaa
