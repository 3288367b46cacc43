
/-
  Plain laws on the curve through points: Horner's sum; what is multiplied stays within bounds.
-/
import Derived.Test.YtgageljahebjnaaCurP
import Derived.Test.YtgageljahebjnaaQ
namespace Go.Proofs.Ytgageljahebjnaa
open Go.RowKit

/-- Horner's sum after m of n steps. -/
def hv (x y : Nat → Int) (n : Nat) (z : Int) : Nat → Rat
  | 0 => qf 0 1
  | m + 1 => hv x y n z m * qf (z - x (n - 1 - m)) 1 + dd x y (n - 1 - m) 0

theorem num_qf1 {a A : Int} (h : -A ≤ a ∧ a ≤ A) : (-A ≤ (qf a 1).num ∧ (qf a 1).num ≤ A) ∧ ((qf a 1).den : Int) ≤ 1 := fbd (V := 1) ⟨a, rfl, h⟩ (by decide)
theorem num_1qf {e : Int} (h0 : e ≠ 0) (he : -24 ≤ e ∧ e ≤ 24) : (-1 ≤ (qf 1 e).num ∧ (qf 1 e).num ≤ 1) ∧ ((qf 1 e).den : Int) ≤ 24 := by
  have := fbd (r := qf 1 e) (V := e) (M := 1) ⟨1, rfl, by omega⟩ h0
  omega
theorem dm_le (k : Nat) (hk : k ≤ 3) : dm k ≤ 165888 ∧ vm (k + 1) ≤ 11943936 := by
  match k, hk with
  | 0, _ => decide
  | 1, _ => decide
  | 2, _ => decide
  | 3, _ => decide
theorem dd_bd3 {x y : Nat → Int} {n k i : Nat} (h : Dis x n) (hx : Pl x n) (hy : Pl y n) (hi : i + k < n) (hk : k ≤ 3) : (-165888 ≤ (dd x y k i).num ∧ (dd x y k i).num ≤ 165888) ∧ ((dd x y k i).den : Int) ≤ 11943936 := by
  have h1 := dd_bd h hx hy hi (by omega)
  have h2 := dm_le k hk
  omega
theorem dd_fit1 {x y : Nat → Int} {n k i : Nat} (h : Dis x n) (hx : Pl x n) (hy : Pl y n) (hi : i + 1 + k < n) (hk : k ≤ 3) : Fit (dd x y k (i + 1)) (dd x y k i) := by
  have h1 := dd_bd3 h hx hy (i := i + 1) (k := k) (by omega) hk
  have h2 := dd_bd3 h hx hy (i := i) (k := k) (by omega) hk
  exact fit_of (A := 165888) (B := 11943936) (C := 165888) (D := 11943936) h1.1 h1.2 h2.1 h2.2 (by decide) (by decide) (by decide) (by decide)
theorem sub_bd {p q : Rat} (hp : (-165888 ≤ p.num ∧ p.num ≤ 165888) ∧ (p.den : Int) ≤ 11943936) (hq : (-165888 ≤ q.num ∧ q.num ≤ 165888) ∧ (q.den : Int) ≤ 11943936) :
    (-3962711310336 ≤ (p - q).num ∧ (p - q).num ≤ 3962711310336) ∧ ((p - q).den : Int) ≤ 142657607172096 := by
  have h1 := nmul (a := p.num) (b := q.den) (A := 165888) (B := 11943936) (by omega) (by omega)
  have h2 := nmul (a := q.num) (b := p.den) (A := 165888) (B := 11943936) (by omega) (by omega)
  have h3 := nmul (a := (p.den : Int)) (b := q.den) (A := 11943936) (B := 11943936) (by omega) (by omega)
  have hp0 := qden_pos p
  have hq0 := qden_pos q
  have := fbd (V := p.den * q.den) (M := 3962711310336) (r := p - q) ⟨_, (qf_sub p q).symm, by omega⟩ (Int.mul_ne_zero (by omega) (by omega))
  omega
theorem dd_fit2 {x y : Nat → Int} {n k i : Nat} (h : Dis x n) (hx : Pl x n) (hy : Pl y n) (hi : i + 1 + k < n) (hk : k ≤ 3) {e : Int} (h0 : e ≠ 0) (he : -24 ≤ e ∧ e ≤ 24) : Fit (dd x y k (i + 1) - dd x y k i) (qf 1 e) := by
  have h1 := dd_bd3 h hx hy (i := i + 1) (k := k) (by omega) hk
  have h2 := dd_bd3 h hx hy (i := i) (k := k) (by omega) hk
  have h3 := sub_bd h1 h2
  have h4 := num_1qf h0 he
  exact fit_of (A := 3962711310336) (B := 142657607172096) (C := 1) (D := 24) h3.1 h3.2 h4.1 h4.2 (by decide) (by decide) (by decide) (by decide)

/-- How great Horner's sum may be before the place i is taken. -/
def tb : Nat → Nat
  | 0 => 5563802754220032
  | 1 => 200123424276480
  | 2 => 5696421740544
  | 3 => 72236924928
  | 4 => 716636160
  | _ => 0
def ev : Nat → Nat
  | 0 => 10
  | 1 => 10
  | 2 => 9
  | 3 => 7
  | 4 => 4
  | _ => 0
def kk (x : Nat → Int) : Nat → Int
  | 0 => 1
  | 1 => x 1 - x 0
  | 2 => (x 2 - x 0) * (x 2 - x 1)
  | 3 => (x 3 - x 0) * ((x 3 - x 1) * (x 3 - x 2))
  | _ => (x 4 - x 0) * ((x 4 - x 1) * ((x 4 - x 2) * (x 4 - x 3)))
theorem vv_succ (x : Nat → Int) (k : Nat) (hk : k ≤ 4) : vv x (k + 1) = vv x k * kk x k := by
  match k, hk with
  | 0, _ => rfl
  | 1, _ => exact (Int.one_mul _).symm
  | 2, _ => rfl
  | 3, _ => rfl
  | 4, _ => rfl
theorem kk_le {x : Nat → Int} {k : Nat} (h : Pl x (k + 1)) (hk : k ≤ 4) : (kk x k).natAbs ≤ 24 ^ k := by
  match k, hk with
  | 0, _ => exact (by decide : (1 : Int).natAbs ≤ 1)
  | 1, _ => have := h 0 (by omega); have := h 1 (by omega); simp only [kk]; omega
  | 2, _ => have := h 0 (by omega); have := h 1 (by omega); have := h 2 (by omega); exact nmul (A := 24) (B := 24) (by omega) (by omega)
  | 3, _ => have := h 0 (by omega); have := h 1 (by omega); have := h 2 (by omega); have := h 3 (by omega); exact nmul (A := 24) (B := 576) (by omega) (nmul (A := 24) (B := 24) (by omega) (by omega))
  | 4, _ => have := h 0 (by omega); have := h 1 (by omega); have := h 2 (by omega); have := h 3 (by omega); have := h 4 (by omega); exact nmul (A := 24) (B := 13824) (by omega) (nmul (A := 24) (B := 576) (by omega) (nmul (A := 24) (B := 24) (by omega) (by omega)))
theorem raise {x : Nat → Int} {n : Nat} (h : Dis x n) (hx : Pl x n) (hn : n ≤ 5) {r : Rat} : ∀ (d k M : Nat), k + d = n → FB (vv x k) M r → FB (vv x n) ((M * 24 ^ (ev k) : Nat) : Int) r
  | 0, k, M, hk, hf => by
    obtain rfl : k = n := hk
    exact hf.mono (Int.ofNat_le.2 (Nat.le_mul_of_pos_right _ (Nat.pow_pos (by decide))))
  | d + 1, k, M, hk, hf => by
    have h1 := vv_succ x k (by omega)
    have h2 : kk x k ≠ 0 := fun e => by
      have := vv_ne (h.mono (show k + 1 ≤ n by omega)) (by omega)
      rw [h1, e, Int.mul_zero] at this
      exact this rfl
    have h3 := fb_up hf h2 (kk_le (hx.mono (by omega)) (by omega)) (by omega)
    rw [← h1] at h3
    have h4 := raise h hx hn d (k + 1) (M * 24 ^ k) (by omega) (by rw [Int.natCast_mul]; exact h3)
    refine h4.mono (Int.ofNat_le.2 (Nat.le_of_eq ?_))
    rw [Nat.mul_assoc, ← Nat.pow_add]
    congr 2
    match k, (show k ≤ 4 by omega) with
    | 0, _ => rfl
    | 1, _ => rfl
    | 2, _ => rfl
    | 3, _ => rfl
    | 4, _ => rfl
theorem tb_step (i : Nat) (hi : i ≤ 4) : tb (i + 1) * 24 + dm i * 24 ^ ev (i + 1) ≤ tb i := by
  match i, hi with
  | 0, _ => decide
  | 1, _ => decide
  | 2, _ => decide
  | 3, _ => decide
  | 4, _ => decide
theorem sh0 (x : Nat → Int) : sh x 0 = x := by funext j; simp [sh]
theorem hv_fb {x y : Nat → Int} {n : Nat} (h : Dis x n) (hx : Pl x n) (hy : Pl y n) (hn : n ≤ 5) {z : Int} (hz : -12 ≤ z ∧ z ≤ 12) : ∀ m, m ≤ n → FB (vv x n) (tb (n - m)) (hv x y n z m)
  | 0, _ => ⟨0, by unfold hv qf; rw [Rat.zero_divInt, Rat.zero_divInt], by omega⟩
  | m + 1, hm => by
    have ih := hv_fb h hx hy hn hz m (by omega)
    obtain ⟨i, hi⟩ : ∃ i, n - 1 - m = i := ⟨_, rfl⟩
    have e1 : n - m = i + 1 := by omega
    have e2 : n - (m + 1) = i := by omega
    rw [e1] at ih
    rw [e2]
    have hxi := hx i (by omega)
    have h1 : FB (vv x n) (tb (i + 1) * 24) (hv x y n z m * qf (z - x i) 1) := by
      have := FB.mul ih (FB.qf (D := 1) (M := 24) (m := z - x i) (by omega)) (by omega) (by decide)
      rwa [Int.mul_one] at this
    have h2 := dd_fb (y := y) h hx hy (k := i) (i := 0) (by omega) (by omega)
    rw [sh0] at h2
    have h3 := raise h hx hn (n - (i + 1)) (i + 1) (dm i) (by omega) h2
    have h4 := fb_add (vv_ne h hn) h1 h3
    have h5 := tb_step i (by omega)
    unfold hv
    rw [hi]
    exact h4.mono (by omega)
theorem hv_bd {x y : Nat → Int} {n : Nat} (h : Dis x n) (hx : Pl x n) (hy : Pl y n) (hn : n ≤ 5) {z : Int} (hz : -12 ≤ z ∧ z ≤ 12) {m : Nat} (hm : m ≤ n) :
    (-(tb (n - m) : Int) ≤ (hv x y n z m).num ∧ (hv x y n z m).num ≤ tb (n - m)) ∧ ((hv x y n z m).den : Int) ≤ 61917364224 := by
  have h1 := fbd (hv_fb h hx hy hn hz m hm) (vv_ne h hn)
  have h2 := vv_le hx hn
  have h3 : vm n ≤ 61917364224 := by
    match n, hn with
    | 0, _ => decide
    | 1, _ => decide
    | 2, _ => decide
    | 3, _ => decide
    | 4, _ => decide
    | 5, _ => decide
  omega
theorem hv_fit1 {x y : Nat → Int} {n : Nat} (h : Dis x n) (hx : Pl x n) (hy : Pl y n) (hn : n ≤ 5) {z : Int} (hz : -12 ≤ z ∧ z ≤ 12) {m : Nat} (hm : m < n) : Fit (hv x y n z m) (qf (z - x (n - 1 - m)) 1) := by
  have h1 := hv_bd h hx hy hn hz (m := m) (by omega)
  have hxi := hx (n - 1 - m) (by omega)
  have h2 := num_qf1 (a := z - x (n - 1 - m)) (A := 24) (by omega)
  obtain ⟨i, hi⟩ : ∃ i, n - m = i + 1 := ⟨n - m - 1, by omega⟩
  have h3 : tb (i + 1) ≤ 200123424276480 := by
    match i, (show i ≤ 4 by omega) with
    | 0, _ => decide
    | 1, _ => decide
    | 2, _ => decide
    | 3, _ => decide
    | 4, _ => decide
  rw [hi] at h1
  exact fit_of (A := 200123424276480) (B := 61917364224) (C := 24) (D := 1) (by omega) h1.2 h2.1 h2.2 (by decide) (by decide) (by decide) (by decide)
theorem hv_fit2 {x y : Nat → Int} {n : Nat} (h : Dis x n) (hx : Pl x n) (hy : Pl y n) (hn : n ≤ 5) {z : Int} (hz : -12 ≤ z ∧ z ≤ 12) {m : Nat} (hm : m < n) : Fit (hv x y n z m * qf (z - x (n - 1 - m)) 1) (dd x y (n - 1 - m) 0) := by
  have hxi := hx (n - 1 - m) (by omega)
  obtain ⟨i, hi⟩ : ∃ i, n - 1 - m = i := ⟨_, rfl⟩
  rw [hi] at hxi ⊢
  have h2 := dd_bd (y := y) h hx hy (k := i) (i := 0) (by omega) (by omega)
  match m, hm with
  | 0, _ =>
    have e : hv x y n z 0 * qf (z - x i) 1 = 0 := by
      unfold hv qf; rw [Rat.zero_divInt, Rat.zero_mul]
    rw [e]
    have h4 : dm i ≤ 716636160 ∧ vm (i + 1) ≤ 61917364224 := by
      match i, (show i ≤ 4 by omega) with
      | 0, _ => decide
      | 1, _ => decide
      | 2, _ => decide
      | 3, _ => decide
      | 4, _ => decide
    refine fit_of (A := 0) (B := 1) (C := 716636160) (D := 61917364224) (by decide) (by decide) (by omega) (by omega) (by decide) (by decide) (by decide) (by decide)
  | m + 1, hm =>
    have ih := hv_fb h hx hy hn hz (m + 1) (by omega)
    have e1 : n - (m + 1) = i + 1 := by omega
    rw [e1] at ih
    have h1 : FB (vv x n) (tb (i + 1) * 24) (hv x y n z (m + 1) * qf (z - x i) 1) := by
      have := FB.mul ih (FB.qf (D := 1) (M := 24) (m := z - x i) (by omega)) (by omega) (by decide)
      rwa [Int.mul_one] at this
    have h3 := fbd h1 (vv_ne h hn)
    have h5 := (hv_bd (y := y) h hx hy hn hz (m := 0) (by omega))
    have h6 := vv_le hx hn
    have h7 : vm n ≤ 61917364224 := by
      match n, hn with
      | 0, _ => decide
      | 1, _ => decide
      | 2, _ => decide
      | 3, _ => decide
      | 4, _ => decide
      | 5, _ => decide
    refine fit_of (A := tb (i + 1) * 24) (B := 61917364224) (C := dm i) (D := vm (i + 1)) (by omega) (by omega) h2.1 h2.2 ?_ ?_ ?_ ?_
    all_goals
      match i, (show i ≤ 3 by omega) with
      | 0, _ => decide
      | 1, _ => decide
      | 2, _ => decide
      | 3, _ => decide

end Go.Proofs.Ytgageljahebjnaa
