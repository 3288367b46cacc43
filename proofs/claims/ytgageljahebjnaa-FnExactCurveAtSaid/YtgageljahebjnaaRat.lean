
/-
  Plain laws on fractions: what the greatest common divisor and the reduced fraction are; the arithmetic of Rat by numerators and denominators; bounds.
-/
import Derived.Test.YtgageljahebjnaaBase
namespace Go.Proofs.Ytgageljahebjnaa
open Go.RowKit

/-- The fraction u over d, reduced (a name that the walk's simp leaves as it stands). -/
def qf (u d : Int) : Rat := Rat.divInt u d
theorem gcd_step (a b : Int) : Int.gcd b (a.tmod b) = Int.gcd a b := by
  unfold Int.gcd
  rw [Int.natAbs_tmod, Nat.gcd_comm b.natAbs, ← Nat.gcd_rec, Nat.gcd_comm]
theorem gcd_zero (a : Int) : (Int.gcd a 0 : Int) = max a (-a) := by
  rw [Int.gcd_zero_right]; omega
theorem tmod_lt (a b : Int) (h : b ≠ 0) : (a.tmod b).natAbs < b.natAbs := by
  rw [Int.natAbs_tmod]
  exact Nat.mod_lt _ (by omega)
theorem tmod_bound {a b M : Int} (h : b ≠ 0) (hb : -M ≤ b ∧ b ≤ M) : -M ≤ a.tmod b ∧ a.tmod b ≤ M := by
  have := tmod_lt a b h
  omega

theorem gcd_pos' {a b : Int} (h : b ≠ 0) : 0 < (Int.gcd a b : Int) := by
  have := Int.gcd_pos_iff (a := a) (b := b)
  have : 0 < Int.gcd a b := this.2 (.inr h)
  omega
theorem tdiv_gcd_num (u d : Int) (hd : 0 < d) : u.tdiv (Int.gcd u d) = (qf u d).num := by
  rw [qf, Rat.num_divInt, Int.sign_eq_one_of_pos hd, Int.one_mul, Int.gcd_comm, Int.tdiv_eq_ediv_of_dvd]
  exact Int.gcd_dvd_right ..
theorem tdiv_gcd_den (u d : Int) (hd : 0 < d) : d.tdiv (Int.gcd u d) = ((qf u d).den : Int) := by
  rw [qf, Rat.den_divInt, if_neg (by omega), Int.gcd_comm, Int.tdiv_eq_ediv_of_dvd (Int.gcd_dvd_left ..)]
  have : (d.natAbs : Int) = d := by omega
  rw [Int.natCast_ediv, this]
theorem divInt_neg' (u d : Int) : qf (-u) (-d) = qf u d := by unfold qf; rw [Rat.divInt_neg', Int.neg_neg]
theorem tdiv_bound (u : Int) (g : Nat) {M : Int} (h : -M ≤ u ∧ u ≤ M) : -M ≤ u.tdiv g ∧ u.tdiv g ≤ M := by
  have h1 : (u.tdiv g).natAbs = u.natAbs / g := by rw [Int.natAbs_tdiv]; rfl
  have h2 : u.natAbs / g ≤ u.natAbs := Nat.div_le_self _ _
  omega
theorem tdiv_gcd_num' (u d : Int) (hd : d < 0) : -(u.tdiv (Int.gcd u d)) = (qf u d).num := by
  have h := tdiv_gcd_num (-u) (-d) (by omega)
  rw [Int.gcd_neg, Int.neg_gcd, divInt_neg'] at h
  rw [← h, Int.neg_tdiv]
theorem tdiv_gcd_den' (u d : Int) (hd : d < 0) : -(d.tdiv (Int.gcd u d)) = ((qf u d).den : Int) := by
  have h := tdiv_gcd_den (-u) (-d) (by omega)
  rw [Int.gcd_neg, Int.neg_gcd, divInt_neg'] at h
  rw [← h, Int.neg_tdiv]
theorem tdiv_neg_num (u d : Int) (hd : d < 0) : u.tdiv (-(Int.gcd u d : Int)) = (qf u d).num := by rw [Int.tdiv_neg, tdiv_gcd_num' u d hd]
theorem tdiv_neg_den (u d : Int) (hd : d < 0) : d.tdiv (-(Int.gcd u d : Int)) = ((qf u d).den : Int) := by rw [Int.tdiv_neg, tdiv_gcd_den' u d hd]
end Go.Proofs.Ytgageljahebjnaa
