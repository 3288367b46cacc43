/-
  Plain laws: the line of the least squares.
-/
import Derived.Test.YtahogdcmnpidiaaSz
import Derived.Test.YtahogdcmnpidiaaValid
namespace Go.Proofs.Ytahogdcmnpidiaa
open Go.RowKit

theorem sq_le' {x y m n : Int} (h : -m ≤ x ∧ x ≤ m) (k : -n ≤ y ∧ y ≤ n) : -(m * n) ≤ x * y ∧ x * y ≤ m * n := by
  have h1 : (x * y).natAbs = x.natAbs * y.natAbs := Int.natAbs_mul x y
  have h2 : x.natAbs * y.natAbs ≤ m.natAbs * n.natAbs := Nat.mul_le_mul (by omega) (by omega)
  have h3 : (m * n).natAbs = m.natAbs * n.natAbs := Int.natAbs_mul m n
  have h4 : 0 ≤ m * n := Int.mul_nonneg (by omega) (by omega)
  omega
theorem sumL_sumTo (xs : List Int) : sumL xs = sumTo (atL xs) xs.length := by
  have : ∀ k, k ≤ xs.length → sumL (xs.take k) = sumTo (atL xs) k := by
    intro k
    induction k with
    | zero => intro _; rfl
    | succ k ih => intro hk; rw [sumL_take (by omega), ih (by omega), sumTo_succ, atL_lt (by omega)]
  have h := this xs.length (Nat.le_refl _)
  rwa [List.take_length] at h
def xyTo (xs ys : List Int) (k : Nat) : Int := sumTo (fun i => atL xs i * atL ys i) k
theorem xyTo_succ (xs ys : List Int) (k : Nat) : xyTo xs ys (k + 1) = xyTo xs ys k + atL xs k * atL ys k := rfl
theorem xyTo_bd {xs ys : List Int} (h1 : allB (-12) 12 xs = true) (h2 : allB (-12) 12 ys = true) {k : Nat} (hk : k ≤ xs.length) (hk2 : k ≤ ys.length) : -(144 * (k : Int)) ≤ xyTo xs ys k ∧ xyTo xs ys k ≤ 144 * k :=
  sumTo_bd fun i hi => sq_le' (m := 12) (n := 12) (allB_at h1 (by omega)) (allB_at h2 (by omega))
theorem sum_bd {xs : List Int} (h1 : allB (-12) 12 xs = true) : -(12 * (xs.length : Int)) ≤ sumL xs ∧ sumL xs ≤ 12 * xs.length := by
  rw [sumL_sumTo]
  exact sumTo_bd fun i hi => allB_at h1 hi
def sqN (xs ys : List Int) : Int := (xs.length : Int) * xyTo xs ys xs.length - sumL xs * sumL ys
def sqD (xs : List Int) : Int := (xs.length : Int) * xyTo xs xs xs.length - sumL xs * sumL xs
theorem sq_sum (f : Nat → Int) (a c : Int) (n : Nat) : sumTo (fun i => (a * f i - c) * (a * f i - c)) n = a * a * sumTo (fun i => f i * f i) n - 2 * a * c * sumTo f n + n * (c * c) := by
  induction n with
  | zero => simp [sumTo]
  | succ n ih => rw [sumTo_succ, sumTo_succ, sumTo_succ, ih]; grind
theorem sqD_pos {xs : List Int} (h : wideB xs = true) : 0 < sqD xs := by
  have h2 := wide_two h
  obtain ⟨x, hx, y, hy, hl⟩ := wide_iff.1 h
  obtain ⟨i, hi, rfl⟩ := List.getElem_of_mem hx
  obtain ⟨j, hj, rfl⟩ := List.getElem_of_mem hy
  have e := sq_sum (atL xs) xs.length (sumL xs) xs.length
  have e1 : sumTo (atL xs) xs.length = sumL xs := (sumL_sumTo xs).symm
  have e2 : sumTo (fun i => atL xs i * atL xs i) xs.length = xyTo xs xs xs.length := rfl
  have hnn : ∀ k, k < xs.length → 0 ≤ ((xs.length : Int) * atL xs k - sumL xs) * ((xs.length : Int) * atL xs k - sumL xs) := fun k _ => by
    have := Int.natAbs_mul_self (a := (xs.length : Int) * atL xs k - sumL xs)
    omega
  have h0 := sumTo_zero_le hnn
  have hD : sumTo (fun k => ((xs.length : Int) * atL xs k - sumL xs) * ((xs.length : Int) * atL xs k - sumL xs)) xs.length = (xs.length : Int) * sqD xs := by
    rw [e, e1, e2, sqD]
    grind
  by_cases hp : 0 < sqD xs
  · exact hp
  · exfalso
    have hle : (xs.length : Int) * sqD xs ≤ 0 := Int.mul_nonpos_of_nonneg_of_nonpos (by omega) (by omega)
    have hz := (sumTo_eq_zero hnn).1 (by omega)
    have key : ∀ k, k < xs.length → (xs.length : Int) * atL xs k = sumL xs := fun k hk => by
      have := hz k hk
      rcases Int.mul_eq_zero.1 this with h | h <;> omega
    have k1 := key i hi
    have k2 := key j hj
    rw [atL_lt hi] at k1
    rw [atL_lt hj] at k2
    have : (xs.length : Int) * xs[i] = (xs.length : Int) * xs[j] := by omega
    have := Int.eq_of_mul_eq_mul_left (by omega) this
    omega
theorem sq_bds {xs ys : List Int} (h : okCloud xs ys = true) : (-14112 ≤ sqN xs ys ∧ sqN xs ys ≤ 14112) ∧ (0 < sqD xs ∧ sqD xs ≤ 14112) ∧ (-84 ≤ sumL xs ∧ sumL xs ≤ 84) ∧ (-84 ≤ sumL ys ∧ sumL ys ≤ 84) ∧ (-1008 ≤ xyTo xs ys xs.length ∧ xyTo xs ys xs.length ≤ 1008) ∧ (-1008 ≤ xyTo xs xs xs.length ∧ xyTo xs xs xs.length ≤ 1008) := by
  obtain ⟨⟨h1, h2, h3, h4, h5⟩, h6⟩ := okCloud_all h
  have a1 := xyTo_bd h4 h5 (k := xs.length) (Nat.le_refl _) (by omega)
  have a2 := xyTo_bd h4 h4 (k := xs.length) (Nat.le_refl _) (Nat.le_refl _)
  have a3 := sum_bd h4
  have a4 := sum_bd h5
  have a5 := sqD_pos h6
  have b1 := sq_le' (x := sumL xs) (y := sumL ys) (m := 84) (n := 84) (by omega) (by omega)
  have b2 := sq_le' (x := sumL xs) (y := sumL xs) (m := 84) (n := 84) (by omega) (by omega)
  have b3 := sq_le' (x := (xs.length : Int)) (y := xyTo xs ys xs.length) (m := 7) (n := 1008) (by omega) (by omega)
  have b4 := sq_le' (x := (xs.length : Int)) (y := xyTo xs xs xs.length) (m := 7) (n := 1008) (by omega) (by omega)
  have e1 : sqN xs ys = (xs.length : Int) * xyTo xs ys xs.length - sumL xs * sumL ys := rfl
  have e2 : sqD xs = (xs.length : Int) * xyTo xs xs xs.length - sumL xs * sumL xs := rfl
  omega
theorem qf_div (u : Int) (n : Int) : qf u n = (u : Rat) * (n : Rat)⁻¹ := by
  unfold qf
  rw [Rat.divInt_eq_div, Rat.div_def]
theorem sq_same (s : Rat) (a b n : Int) : ((a : Rat) - s * (b : Rat)) * (n : Rat)⁻¹ = qf a n - s * qf b n := by
  rw [qf_div, qf_div]
  grind
def slR (xs ys : List Int) : Rat := qf (sqN xs ys) (sqD xs)
def hgR (xs ys : List Int) : Rat := qf (sumL ys) xs.length - slR xs ys * qf (sumL xs) xs.length
theorem sm_int {n : Int} (h : -1000000000 ≤ n ∧ n ≤ 1000000000) : Sm (n : Rat) := by
  unfold Sm
  rw [Rat.num_intCast, Rat.den_intCast]
  omega
theorem sl_sm {xs ys : List Int} (h : okCloud xs ys = true) : Sm (slR xs ys) ∧ Sm (qf (sumL xs) xs.length) ∧ Sm (qf (sumL ys) xs.length) ∧ Sm (slR xs ys * qf (sumL xs) xs.length) ∧ Sm (slR xs ys * (sumL xs : Rat)) ∧ Sm ((sumL ys : Rat) - slR xs ys * (sumL xs : Rat)) ∧ Sm ((xs.length : Int) : Rat)⁻¹ := by
  obtain ⟨h1, h2, h3, h4, _, _⟩ := sq_bds h
  obtain ⟨⟨_, l1, l2, _, _⟩, _⟩ := okCloud_all h
  have f1 : FB (sqD xs) 14112 (slR xs ys) := FB.qf h1
  have f2 : FB (xs.length : Int) 84 (qf (sumL xs) xs.length) := FB.qf h3
  have f3 : FB (xs.length : Int) 84 (qf (sumL ys) xs.length) := FB.qf h4
  have m1 := f1.mul f2 (by omega) (by omega)
  have f4 : FB 1 84 (sumL xs : Rat) := by rw [← qf_one]; exact FB.qf h3
  have m2 := f1.mul f4 (by omega) (by omega)
  have f5 : FB (sqD xs) (84 * sqD xs) (sumL ys : Rat) := FB.int h2.1 _ h4
  rw [Int.mul_one] at m2
  have m3 := f5.sub h2.1 m2
  have b1 := sq_le' (x := sqD xs) (y := (xs.length : Int)) (m := 14112) (n := 7) (by omega) (by omega)
  have b2 : 0 < sqD xs * (xs.length : Int) := Int.mul_pos h2.1 (by omega)
  refine ⟨f1.sm h2.1 (by omega) (by omega), f2.sm (by omega) (by omega) (by omega), f3.sm (by omega) (by omega) (by omega), m1.sm b2 (by omega) (by omega), m2.sm h2.1 (by omega) (by omega), m3.sm h2.1 (by omega) (by omega), ?_⟩
  have hn : (((xs.length : Int) : Rat)) ≠ 0 := by
    intro e
    have := congrArg Rat.num e
    rw [Rat.num_intCast] at this
    have h0 : (0 : Rat).num = 0 := rfl
    omega
  exact (sm_inv (sm_int (by omega)) hn).1
end Go.Proofs.Ytahogdcmnpidiaa
