
/-
  Contracts: the arithmetic of fractions, in the program and in its reference: each function gives the rational number.
-/
import Derived.Test.YtgageljahebjnaaFrac
import Derived.Test.YtgageljahebjnaaQP
import Derived.Test.YtgageljahebjnaaFree
import Derived.Deep.RegionHeld3
namespace Go.Proofs.Ytgageljahebjnaa
open Go.RowKit

theorem sm_bd {p : Rat} (h : Sm p) : (-1073741824 ≤ p.num ∧ p.num ≤ 1073741824) ∧ 0 < (p.den : Int) ∧ (p.den : Int) ≤ 1073741824 := ⟨h.1, qden_pos p, h.2⟩
theorem sm_mul {a b : Int} (ha : -1073741824 ≤ a ∧ a ≤ 1073741824) (hb : -1073741824 ≤ b ∧ b ≤ 1073741824) : -1152921504606846976 ≤ a * b ∧ a * b ≤ 1152921504606846976 := by
  have h1 : (a * b).natAbs = a.natAbs * b.natAbs := Int.natAbs_mul a b
  have h2 : a.natAbs * b.natAbs ≤ 1073741824 * 1073741824 := Nat.mul_le_mul (by omega) (by omega)
  omega

theorem nat_abs_in {a M : Int} (h : -M ≤ a ∧ a ≤ M) : a.natAbs ≤ M.natAbs := by omega
theorem mul_shrink {a u c d : Int} {M : Nat} (ha : a.natAbs ≤ c.natAbs) (hu : u.natAbs ≤ d.natAbs) (h : -(M : Int) ≤ c * d ∧ c * d ≤ M) : -(M : Int) ≤ a * u ∧ a * u ≤ M := by
  have h1 : (a * u).natAbs = a.natAbs * u.natAbs := Int.natAbs_mul a u
  have h2 : (c * d).natAbs = c.natAbs * d.natAbs := Int.natAbs_mul c d
  have h3 : a.natAbs * u.natAbs ≤ c.natAbs * d.natAbs := Nat.mul_le_mul ha hu
  omega
/-- Bounds of what is multiplied in the arithmetic of two fractions a/b, c/d. -/
structure Sm4 (a b c d : Int) : Prop where
  b1 : 0 < b
  d1 : 0 < d
  m1 : -1152921504606846976 ≤ a * d ∧ a * d ≤ 1152921504606846976
  m2 : -1152921504606846976 ≤ c * b ∧ c * b ≤ 1152921504606846976
  m3 : -1152921504606846976 ≤ b * d ∧ b * d ≤ 1152921504606846976
  m4 : -1152921504606846976 ≤ a * c ∧ a * c ≤ 1152921504606846976
theorem Sm4.bd {a b c d : Int} (h : Sm4 a b c d) : (-1152921504606846976 ≤ a ∧ a ≤ 1152921504606846976) ∧ b ≤ 1152921504606846976 ∧ (-1152921504606846976 ≤ c ∧ c ≤ 1152921504606846976) ∧ d ≤ 1152921504606846976 := by
  obtain ⟨b1, d1, m1, m2, m3, m4⟩ := h
  have h1 := mul_shrink (a := a) (u := 1) (M := 1152921504606846976) (Nat.le_refl _) (by omega) m1
  have h2 := mul_shrink (a := c) (u := 1) (M := 1152921504606846976) (Nat.le_refl _) (by omega) m2
  have h3 := mul_shrink (a := b) (u := 1) (M := 1152921504606846976) (Nat.le_refl _) (by omega) m3
  have h4 := mul_shrink (a := 1) (u := d) (M := 1152921504606846976) (by omega) (Nat.le_refl _) m3
  omega
/-- The arithmetic of two fractions stays within bounds. -/
def Fit (p q : Rat) : Prop := Sm4 p.num p.den q.num q.den
theorem Fit.sm4 {p q : Rat} (h : Fit p q) : Sm4 p.num p.den q.num q.den := h
theorem fit_of {p q : Rat} {A B C D : Nat} (hp : -(A : Int) ≤ p.num ∧ p.num ≤ A) (hB : (p.den : Int) ≤ B) (hq : -(C : Int) ≤ q.num ∧ q.num ≤ C) (hD : (q.den : Int) ≤ D)
    (h1 : A * D ≤ 1152921504606846976) (h2 : C * B ≤ 1152921504606846976) (h3 : B * D ≤ 1152921504606846976) (h4 : A * C ≤ 1152921504606846976) : Fit p q := by
  have := qden_pos p
  have := qden_pos q
  have key : ∀ {x y : Int} {X Y : Nat}, (-(X : Int) ≤ x ∧ x ≤ X) → (-(Y : Int) ≤ y ∧ y ≤ Y) → X * Y ≤ 1152921504606846976 → -1152921504606846976 ≤ x * y ∧ x * y ≤ 1152921504606846976 := fun {x y X Y} hx hy h => by
    have h1 : (x * y).natAbs = x.natAbs * y.natAbs := Int.natAbs_mul x y
    have h2 : x.natAbs * y.natAbs ≤ X * Y := Nat.mul_le_mul (by omega) (by omega)
    omega
  exact ⟨by omega, by omega, key hp (by omega) h1, key hq (by omega) h2, key (by omega) (by omega) h3, key hp hq h4⟩
theorem fit {p q : Rat} (hp : Sm p) (hq : Sm q) : Fit p q :=
  fit_of (A := 1073741824) (B := 1073741824) (C := 1073741824) (D := 1073741824) hp.1 hp.2 hq.1 hq.2 (by decide) (by decide) (by decide) (by decide)

set_option maxHeartbeats 1000000 in
theorem plusS_i (a b c d : Int) (w : World) (h : Sm4 a b c d) :
    Calls Try.prog 26 #[.agg #[.int .i64 a, .int .i64 b], .agg #[.int .i64 c, .int .i64 d]] w fun e w' => e = .returned (.agg #[.int .i64 (qf (a * d + c * b) (b * d)).num, .int .i64 ((qf (a * d + c * b) (b * d)).den : Int)]) ∧ Below w.heap.size w w' := by
  have hbd := h.bd
  obtain ⟨b1, d1, m1, m2, m3, m4⟩ := h
  have h0 : b * d ≠ 0 := by have := Int.mul_pos b1 d1; omega
  have e1 : IntKind.i64.wrap (a * d) = a * d := IntWalk.i64_in _ (by omega)
  have e2 : IntKind.i64.wrap (c * b) = c * b := IntWalk.i64_in _ (by omega)
  have e3 : IntKind.i64.wrap (b * d) = b * d := IntWalk.i64_in _ (by omega)
  have e4 : IntKind.i64.wrap (a * d + c * b) = a * d + c * b := IntWalk.i64_in _ (by omega)
  have F := hide fun w => fracS_c (a * d + c * b) (b * d) w (by omega) (by omega) h0
  clear m1 m2 m3 m4 h0
  go_enter Try.func26, Try.ntmps26
  go_wp2_with fail
  refine (F.out _).mono ?_
  rintro e w1 ⟨rfl, hb1⟩
  obtain ⟨hc1, hf1⟩ := bcell hb1
  have hz1 := hb1.size
  go_wp2_with fail
  refine bodyPost_ret (v := .agg #[.int .i64 (qf (a * d + c * b) (b * d)).num, .int .i64 ((qf (a * d + c * b) (b * d)).den : Int)]) (by simp [results, Try.results26, go_sem, hc1]) rfl ⟨rfl, ?_⟩
  (repeat (first | exact Below.refl _ _ | assumption | refine Below.setCell ?_ (by first | (simp; done) | omega | (simp; omega) | (simp at *; omega)) _ | refine Below.drew ?_ | refine below_drewN ?_ _ | refine below_alloc' ?_ _ | refine below_to' ?_ (by assumption)))
theorem plusS_d (p q : Rat) (w : World) (h : Fit p q) :
    Calls Try.prog 26 #[.agg #[.int .i64 (p).num, .int .i64 ((p).den : Int)], .agg #[.int .i64 (q).num, .int .i64 ((q).den : Int)]] w fun e w' => e = .returned (.agg #[.int .i64 (p + q).num, .int .i64 ((p + q).den : Int)]) ∧ Below w.heap.size w w' := by
  have := plusS_i p.num p.den q.num q.den w h.sm4
  rwa [qf_add] at this
theorem plusS_c (p q : Rat) (w : World) (hp : Sm p) (hq : Sm q) :
    Calls Try.prog 26 #[.agg #[.int .i64 (p).num, .int .i64 ((p).den : Int)], .agg #[.int .i64 (q).num, .int .i64 ((q).den : Int)]] w fun e w' => e = .returned (.agg #[.int .i64 (p + q).num, .int .i64 ((p + q).den : Int)]) ∧ Below w.heap.size w w' := plusS_d p q w (fit hp hq)
set_option maxHeartbeats 1000000 in
theorem minusS_i (a b c d : Int) (w : World) (h : Sm4 a b c d) :
    Calls Try.prog 52 #[.agg #[.int .i64 a, .int .i64 b], .agg #[.int .i64 c, .int .i64 d]] w fun e w' => e = .returned (.agg #[.int .i64 (qf (a * d - c * b) (b * d)).num, .int .i64 ((qf (a * d - c * b) (b * d)).den : Int)]) ∧ Below w.heap.size w w' := by
  have hbd := h.bd
  obtain ⟨b1, d1, m1, m2, m3, m4⟩ := h
  have h0 : b * d ≠ 0 := by have := Int.mul_pos b1 d1; omega
  have e1 : IntKind.i64.wrap (a * d) = a * d := IntWalk.i64_in _ (by omega)
  have e2 : IntKind.i64.wrap (c * b) = c * b := IntWalk.i64_in _ (by omega)
  have e3 : IntKind.i64.wrap (b * d) = b * d := IntWalk.i64_in _ (by omega)
  have e4 : IntKind.i64.wrap (a * d - c * b) = a * d - c * b := IntWalk.i64_in _ (by omega)
  have F := hide fun w => fracS_c (a * d - c * b) (b * d) w (by omega) (by omega) h0
  clear m1 m2 m3 m4 h0
  go_enter Try.func52, Try.ntmps52
  go_wp2_with fail
  refine (F.out _).mono ?_
  rintro e w1 ⟨rfl, hb1⟩
  obtain ⟨hc1, hf1⟩ := bcell hb1
  have hz1 := hb1.size
  go_wp2_with fail
  refine bodyPost_ret (v := .agg #[.int .i64 (qf (a * d - c * b) (b * d)).num, .int .i64 ((qf (a * d - c * b) (b * d)).den : Int)]) (by simp [results, Try.results52, go_sem, hc1]) rfl ⟨rfl, ?_⟩
  (repeat (first | exact Below.refl _ _ | assumption | refine Below.setCell ?_ (by first | (simp; done) | omega | (simp; omega) | (simp at *; omega)) _ | refine Below.drew ?_ | refine below_drewN ?_ _ | refine below_alloc' ?_ _ | refine below_to' ?_ (by assumption)))
theorem minusS_d (p q : Rat) (w : World) (h : Fit p q) :
    Calls Try.prog 52 #[.agg #[.int .i64 (p).num, .int .i64 ((p).den : Int)], .agg #[.int .i64 (q).num, .int .i64 ((q).den : Int)]] w fun e w' => e = .returned (.agg #[.int .i64 (p - q).num, .int .i64 ((p - q).den : Int)]) ∧ Below w.heap.size w w' := by
  have := minusS_i p.num p.den q.num q.den w h.sm4
  rwa [qf_sub] at this
theorem minusS_c (p q : Rat) (w : World) (hp : Sm p) (hq : Sm q) :
    Calls Try.prog 52 #[.agg #[.int .i64 (p).num, .int .i64 ((p).den : Int)], .agg #[.int .i64 (q).num, .int .i64 ((q).den : Int)]] w fun e w' => e = .returned (.agg #[.int .i64 (p - q).num, .int .i64 ((p - q).den : Int)]) ∧ Below w.heap.size w w' := minusS_d p q w (fit hp hq)
set_option maxHeartbeats 1000000 in
theorem timesS_i (a b c d : Int) (w : World) (h : Sm4 a b c d) :
    Calls Try.prog 27 #[.agg #[.int .i64 a, .int .i64 b], .agg #[.int .i64 c, .int .i64 d]] w fun e w' => e = .returned (.agg #[.int .i64 (qf (a * c) (b * d)).num, .int .i64 ((qf (a * c) (b * d)).den : Int)]) ∧ Below w.heap.size w w' := by
  have hbd := h.bd
  obtain ⟨b1, d1, m1, m2, m3, m4⟩ := h
  have h0 : b * d ≠ 0 := by have := Int.mul_pos b1 d1; omega
  have e1 : IntKind.i64.wrap (a * d) = a * d := IntWalk.i64_in _ (by omega)
  have e2 : IntKind.i64.wrap (c * b) = c * b := IntWalk.i64_in _ (by omega)
  have e3 : IntKind.i64.wrap (b * d) = b * d := IntWalk.i64_in _ (by omega)
  have e4 : IntKind.i64.wrap (a * c) = a * c := IntWalk.i64_in _ (by omega)
  have F := hide fun w => fracS_c (a * c) (b * d) w (by omega) (by omega) h0
  clear m1 m2 m3 m4 h0
  go_enter Try.func27, Try.ntmps27
  go_wp2_with fail
  refine (F.out _).mono ?_
  rintro e w1 ⟨rfl, hb1⟩
  obtain ⟨hc1, hf1⟩ := bcell hb1
  have hz1 := hb1.size
  go_wp2_with fail
  refine bodyPost_ret (v := .agg #[.int .i64 (qf (a * c) (b * d)).num, .int .i64 ((qf (a * c) (b * d)).den : Int)]) (by simp [results, Try.results27, go_sem, hc1]) rfl ⟨rfl, ?_⟩
  (repeat (first | exact Below.refl _ _ | assumption | refine Below.setCell ?_ (by first | (simp; done) | omega | (simp; omega) | (simp at *; omega)) _ | refine Below.drew ?_ | refine below_drewN ?_ _ | refine below_alloc' ?_ _ | refine below_to' ?_ (by assumption)))
theorem timesS_d (p q : Rat) (w : World) (h : Fit p q) :
    Calls Try.prog 27 #[.agg #[.int .i64 (p).num, .int .i64 ((p).den : Int)], .agg #[.int .i64 (q).num, .int .i64 ((q).den : Int)]] w fun e w' => e = .returned (.agg #[.int .i64 (p * q).num, .int .i64 ((p * q).den : Int)]) ∧ Below w.heap.size w w' := by
  have := timesS_i p.num p.den q.num q.den w h.sm4
  rwa [qf_mul] at this
theorem timesS_c (p q : Rat) (w : World) (hp : Sm p) (hq : Sm q) :
    Calls Try.prog 27 #[.agg #[.int .i64 (p).num, .int .i64 ((p).den : Int)], .agg #[.int .i64 (q).num, .int .i64 ((q).den : Int)]] w fun e w' => e = .returned (.agg #[.int .i64 (p * q).num, .int .i64 ((p * q).den : Int)]) ∧ Below w.heap.size w w' := timesS_d p q w (fit hp hq)
theorem lessS_d (p q : Rat) (w : World) (h : Fit p q) :
    Calls Try.prog 48 #[.agg #[.int .i64 (p).num, .int .i64 ((p).den : Int)], .agg #[.int .i64 (q).num, .int .i64 ((q).den : Int)]] w fun e w' => e = .returned (.bool (decide (p < q))) ∧ Below w.heap.size w w' := by
  have HQ : Hid (decide (p < q) = decide (p.num * q.den < q.num * p.den)) := by show _ = _; rw [decide_eq_decide]; exact lt_cross p q
  have h4 := h.sm4
  clear h
  obtain ⟨a, ha⟩ : ∃ a, p.num = a := ⟨_, rfl⟩
  obtain ⟨b, hb⟩ : ∃ b, (p.den : Int) = b := ⟨_, rfl⟩
  obtain ⟨c, hc⟩ : ∃ c, q.num = c := ⟨_, rfl⟩
  obtain ⟨d, hd⟩ : ∃ d, (q.den : Int) = d := ⟨_, rfl⟩
  rw [ha, hb, hc, hd] at h4 HQ ⊢
  clear ha hb hc hd
  obtain ⟨b1, d1, m1, m2, m3, m4⟩ := h4
  have e1 : IntKind.i64.wrap (a * d) = a * d := IntWalk.i64_in _ (by omega)
  have e2 : IntKind.i64.wrap (c * b) = c * b := IntWalk.i64_in _ (by omega)
  go_enter Try.func48, Try.ntmps48
  go_wp2_with fail
  go_ret
  exact ⟨ret_bool HQ.out.symm, by (repeat (first | exact Below.refl _ _ | assumption | refine Below.setCell ?_ (by first | (simp; done) | omega | (simp; omega) | (simp at *; omega)) _ | refine Below.drew ?_ | refine below_drewN ?_ _ | refine below_alloc' ?_ _ | refine below_to' ?_ (by assumption)))⟩
theorem lessS_c (p q : Rat) (w : World) (hp : Sm p) (hq : Sm q) :
    Calls Try.prog 48 #[.agg #[.int .i64 (p).num, .int .i64 ((p).den : Int)], .agg #[.int .i64 (q).num, .int .i64 ((q).den : Int)]] w fun e w' => e = .returned (.bool (decide (p < q))) ∧ Below w.heap.size w w' := lessS_d p q w (fit hp hq)
end Go.Proofs.Ytgageljahebjnaa
