
/-
  Contracts: the arithmetic of fractions in the program: each function gives the rational number.
-/
import Derived.Test.YtgageljahebjnaaQ
namespace Go.Proofs.Ytgageljahebjnaa
open Go.RowKit

set_option maxHeartbeats 1000000 in
theorem plusI_i (a b c d : Int) (w : World) (h : Sm4 a b c d) :
    Calls Try.prog 33 #[.agg #[.int .i64 a, .int .i64 b], .agg #[.int .i64 c, .int .i64 d]] w fun e w' => e = .returned (.agg #[.int .i64 (qf (a * (d.tdiv (Int.gcd b d)) + c * (b.tdiv (Int.gcd b d))) (b.tdiv (Int.gcd b d) * d)).num, .int .i64 ((qf (a * (d.tdiv (Int.gcd b d)) + c * (b.tdiv (Int.gcd b d))) (b.tdiv (Int.gcd b d) * d)).den : Int)]) ∧ Below w.heap.size w w' := by
  have hbd := h.bd
  obtain ⟨b1, d1, m1, m2, m3, m4⟩ := h
  have G0 : (Int.gcd b d : Int) ≠ 0 := by
    have := Int.gcd_pos_iff (a := b) (b := d)
    have : 0 < Int.gcd b d := this.2 (.inl (by omega))
    omega
  have gb := tdiv_mul_gcd (a := b) (b := d)
  have gd := tdiv_mul_gcd' (a := b) (b := d)
  have q1 := tdiv_bound b (Int.gcd b d) (M := b) (by omega)
  have q2 := tdiv_bound d (Int.gcd b d) (M := d) (by omega)
  have D := hide fun w => divisor_c b d w (by omega) (by omega)
  obtain ⟨G, hG⟩ : ∃ G, (Int.gcd b d : Int) = G := ⟨_, rfl⟩
  rw [hG] at G0 gb gd q1 q2 D ⊢
  clear hG
  have w1 : IntKind.i64.wrap (d.tdiv G) = d.tdiv G := IntWalk.i64_in _ (by omega)
  have w2 : IntKind.i64.wrap (b.tdiv G) = b.tdiv G := IntWalk.i64_in _ (by omega)
  have h0 : b.tdiv G * d ≠ 0 := by
    intro h
    rcases Int.mul_eq_zero.1 h with h | h
    · rw [h, Int.zero_mul] at gb; omega
    · omega
  obtain ⟨u, hu⟩ : ∃ u, d.tdiv G = u := ⟨_, rfl⟩
  obtain ⟨v, hv⟩ : ∃ v, b.tdiv G = v := ⟨_, rfl⟩
  rw [hu] at w1 q2
  rw [hv] at w2 q1 h0
  have r1 := mul_shrink (a := a) (u := u) (M := 1152921504606846976) (Nat.le_refl _) (by omega) m1
  have r2 := mul_shrink (a := c) (u := v) (M := 1152921504606846976) (Nat.le_refl _) (by omega) m2
  have r3 := mul_shrink (a := v) (u := d) (M := 1152921504606846976) (by omega) (Nat.le_refl _) m3
  have HU := hide hu
  have HV := hide hv
  rw [hu, hv]
  have e1 : IntKind.i64.wrap (a * u) = a * u := IntWalk.i64_in _ (by omega)
  have e2 : IntKind.i64.wrap (c * v) = c * v := IntWalk.i64_in _ (by omega)
  have e3 : IntKind.i64.wrap (v * d) = v * d := IntWalk.i64_in _ (by omega)
  have e4 : IntKind.i64.wrap (a * u + c * v) = a * u + c * v := IntWalk.i64_in _ (by omega)
  have F := hide fun w => frac_c (a * u + c * v) (v * d) w (by omega) (by omega) h0
  clear m1 m2 m3 m4 r1 r2 r3 h0 gb gd
  go_enter Try.func33, Try.ntmps33
  go_wp2_with fail
  refine (D.out _).mono ?_
  rintro e w1 ⟨rfl, n, rfl⟩
  go_wp2_with fail
  refine wp_region_quiet_tail 22 (by kernel_rfl) (by kernel_rfl) ?_
  simp only [List.take_succ_cons, List.take_zero, List.drop_succ_cons, List.drop_zero]
  repeat (go_big_quiet_step (fail))
  refine wpQuiet_nil ?_
  intro _ hw'
  obtain ⟨nq, rfl⟩ := hw'
  go_wp2_with fail
  refine (F.out _).mono ?_
  rintro e w1 ⟨rfl, hb1⟩
  obtain ⟨hc1, hf1⟩ := bcell hb1
  have hz1 := hb1.size
  go_wp2_with fail
  refine bodyPost_ret (v := .agg #[.int .i64 (qf (a * u + c * v) (v * d)).num, .int .i64 ((qf (a * u + c * v) (v * d)).den : Int)]) (by simp [results, Try.results33, go_sem, hc1]) rfl ⟨rfl, ?_⟩
  (repeat (first | exact Below.refl _ _ | assumption | refine Below.setCell ?_ (by first | (simp; done) | omega | (simp; omega) | (simp at *; omega)) _ | refine Below.drew ?_ | refine below_drewN ?_ _ | refine below_alloc' ?_ _ | refine below_to' ?_ (by assumption)))
theorem plusI_d (p q : Rat) (w : World) (h : Fit p q) :
    Calls Try.prog 33 #[.agg #[.int .i64 (p).num, .int .i64 ((p).den : Int)], .agg #[.int .i64 (q).num, .int .i64 ((q).den : Int)]] w fun e w' => e = .returned (.agg #[.int .i64 (p + q).num, .int .i64 ((p + q).den : Int)]) ∧ Below w.heap.size w w' := by
  have := plusI_i p.num p.den q.num q.den w h.sm4
  rwa [qf_plus_impl] at this
theorem plusI_c (p q : Rat) (w : World) (hp : Sm p) (hq : Sm q) :
    Calls Try.prog 33 #[.agg #[.int .i64 (p).num, .int .i64 ((p).den : Int)], .agg #[.int .i64 (q).num, .int .i64 ((q).den : Int)]] w fun e w' => e = .returned (.agg #[.int .i64 (p + q).num, .int .i64 ((p + q).den : Int)]) ∧ Below w.heap.size w w' := plusI_d p q w (fit hp hq)

theorem sm_neg {q : Rat} (h : Sm q) : Sm (-q) := by
  obtain ⟨⟨h1, h2⟩, h3⟩ := h
  exact ⟨by rw [Rat.neg_num]; omega, by rw [Rat.neg_den]; exact h3⟩
theorem Fit.neg {p q : Rat} (h : Fit p q) : Fit p (-q) := by
  obtain ⟨b1, d1, m1, m2, m3, m4⟩ := h
  refine ⟨b1, by rw [Rat.neg_den]; exact d1, by rw [Rat.neg_den]; exact m1, ?_, by rw [Rat.neg_den]; exact m3, ?_⟩
  · rw [Rat.neg_num, Int.neg_mul]; omega
  · rw [Rat.neg_num, Int.mul_neg]; omega
set_option maxHeartbeats 1000000 in
theorem minusI_d (p q : Rat) (w : World) (h : Fit p q) :
    Calls Try.prog 56 #[.agg #[.int .i64 (p).num, .int .i64 ((p).den : Int)], .agg #[.int .i64 (q).num, .int .i64 ((q).den : Int)]] w fun e w' => e = .returned (.agg #[.int .i64 (p - q).num, .int .i64 ((p - q).den : Int)]) ∧ Below w.heap.size w w' := by
  have F := hide fun w => plusI_d p (-q) w h.neg
  rw [← Rat.sub_eq_add_neg, Rat.neg_num, Rat.neg_den] at F
  obtain ⟨_, _, ⟨c1, c2⟩, _⟩ := h.sm4.bd
  obtain ⟨c, hc⟩ : ∃ c, q.num = c := ⟨_, rfl⟩
  rw [hc] at c1 c2 F ⊢
  clear hc h
  go_enter Try.func56, Try.ntmps56
  go_wp2_with fail
  refine (F.out _).mono ?_
  rintro e w1 ⟨rfl, hb1⟩
  obtain ⟨hc1, hf1⟩ := bcell hb1
  have hz1 := hb1.size
  go_wp2_with fail
  refine bodyPost_ret (v := .agg #[.int .i64 (p - q).num, .int .i64 ((p - q).den : Int)]) (by simp [results, Try.results56, go_sem, hc1]) rfl ⟨rfl, ?_⟩
  (repeat (first | exact Below.refl _ _ | assumption | refine Below.setCell ?_ (by first | (simp; done) | omega | (simp; omega) | (simp at *; omega)) _ | refine Below.drew ?_ | refine below_drewN ?_ _ | refine below_alloc' ?_ _ | refine below_to' ?_ (by assumption)))
theorem minusI_c (p q : Rat) (w : World) (hp : Sm p) (hq : Sm q) :
    Calls Try.prog 56 #[.agg #[.int .i64 (p).num, .int .i64 ((p).den : Int)], .agg #[.int .i64 (q).num, .int .i64 ((q).den : Int)]] w fun e w' => e = .returned (.agg #[.int .i64 (p - q).num, .int .i64 ((p - q).den : Int)]) ∧ Below w.heap.size w w' := minusI_d p q w (fit hp hq)

theorem sm_inv {q : Rat} (h : Sm q) (h0 : q ≠ 0) : Sm q⁻¹ ∧ q.num ≠ 0 := by
  obtain ⟨⟨h1, h2⟩, h3⟩ := h
  have hn : q.num ≠ 0 := fun e => h0 (Rat.num_eq_zero.1 e)
  have hp := qden_pos q
  refine ⟨?_, hn⟩
  rw [← qf_inv]
  rcases Int.lt_or_gt_of_ne hn with h | h
  · rw [← divInt_neg']
    exact (FB.qf (D := -q.num) (M := q.den) (m := -q.den) (by omega)).sm (by omega) (by omega) h3
  · exact (FB.qf (D := q.num) (M := q.den) (m := q.den) (by omega)).sm (by omega) (by omega) h3

theorem fld0 (x y : Value) (w : World) : (Instr.field 24 (.agg #[x, y]) 0).run Try.prog w = .ok x w := by
  simp [Instr.field, go_sem, Try.underlying24, part, asAgg]
theorem fld1 (x y : Value) (w : World) : (Instr.field 24 (.agg #[x, y]) 1).run Try.prog w = .ok y w := by
  simp [Instr.field, go_sem, Try.underlying24, part, asAgg]

set_option maxHeartbeats 1000000 in
theorem lessI_d (p q : Rat) (w : World) (h : Fit p q) :
    Calls Try.prog 40 #[.agg #[.int .i64 (p).num, .int .i64 ((p).den : Int)], .agg #[.int .i64 (q).num, .int .i64 ((q).den : Int)]] w fun e w' => e = .returned (.bool (decide (p < q))) ∧ Below w.heap.size w w' := by
  have F := hide fun w => minusI_d p q w h
  have HQ : Hid (decide (p < q) = decide ((p - q).num < 0)) := by show _ = _; rw [decide_eq_decide]; exact lt_num p q
  obtain ⟨c, hc⟩ : ∃ c, (p - q).num = c := ⟨_, rfl⟩
  rw [hc] at F HQ
  clear hc h
  have f0 := fld0
  go_enter Try.func40, Try.ntmps40
  go_wp2_with fail
  refine (F.out _).mono ?_
  rintro e w1 ⟨rfl, hb1⟩
  obtain ⟨hc1, hf1⟩ := bcell hb1
  have hz1 := hb1.size
  go_wp2_with fail
  go_ret
  exact ⟨ret_bool HQ.out.symm, by (repeat (first | exact Below.refl _ _ | assumption | refine Below.setCell ?_ (by first | (simp; done) | omega | (simp; omega) | (simp at *; omega)) _ | refine Below.drew ?_ | refine below_drewN ?_ _ | refine below_alloc' ?_ _ | refine below_to' ?_ (by assumption)))⟩
theorem lessI_c (p q : Rat) (w : World) (hp : Sm p) (hq : Sm q) :
    Calls Try.prog 40 #[.agg #[.int .i64 (p).num, .int .i64 ((p).den : Int)], .agg #[.int .i64 (q).num, .int .i64 ((q).den : Int)]] w fun e w' => e = .returned (.bool (decide (p < q))) ∧ Below w.heap.size w w' := lessI_d p q w (fit hp hq)

theorem whole_c (n : Int) (w : World) :
    Calls Try.prog 30 #[.int .i64 n] w fun e w' => e = .returned (.agg #[.int .i64 ((n : Rat)).num, .int .i64 (((n : Rat)).den : Int)]) ∧ Below w.heap.size w w' := by
  rw [Rat.num_intCast, Rat.den_intCast]
  go_enter Try.func30, Try.ntmps30
  go_wp2_with fail
  refine bodyPost_ret (v := .agg #[.int .i64 n, .int .i64 1]) (by simp [results, Try.results30, go_sem]) rfl ⟨rfl, ?_⟩
  (repeat (first | exact Below.refl _ _ | assumption | refine Below.setCell ?_ (by first | (simp; done) | omega | (simp; omega) | (simp at *; omega)) _ | refine Below.drew ?_ | refine below_drewN ?_ _ | refine below_alloc' ?_ _ | refine below_to' ?_ (by assumption)))

end Go.Proofs.Ytgageljahebjnaa
