/-
  MeanOf, in both; the statements' own fractions, greatest and turned numbers.
-/
import Derived.Test.YtahogdcmnpidiaaLoadsD
import Derived.Test.YtahogdcmnpidiaaNearLaw
namespace Go.Proofs.Ytahogdcmnpidiaa
open Go.RowKit

set_option maxHeartbeats 400000 in
theorem gcdL_c (a b : Int) (w : World) (ha : -4611686018427387904 ≤ a ∧ a ≤ 4611686018427387904) (hb : -4611686018427387904 ≤ b ∧ b ≤ 4611686018427387904) :
    Calls Try.prog 82 #[.int .i64 a, .int .i64 b] w fun e w' => e = .returned (.int .i64 (Int.gcd a b : Int)) ∧ w = w' := by
  go_enter Try.func82, Try.ntmps82
  go_wp2
  go_loop [0, 1] (fun u v => ∃ x y : Int, u = .int .i64 x ∧ v = .int .i64 y ∧ (-4611686018427387904 ≤ x ∧ x ≤ 4611686018427387904) ∧ (-4611686018427387904 ≤ y ∧ y ≤ 4611686018427387904) ∧ Int.gcd x y = Int.gcd a b) (fun _ v => (intOf v).natAbs)
  case atStart => exact ⟨a, b, rfl, rfl, ha, hb, rfl⟩
  case round =>
    obtain ⟨x, y, rfl, rfl, hx, hy, hg⟩ := hrel
    have HG := hide hg
    clear hg
    by_cases h0 : y = 0
    · subst h0
      have hb0 : ((0 : Int) != 0) = false := rfl
      obtain ⟨hx1, hx2⟩ := hx
      go_wp2
      all_goals
        go_ret
        refine ⟨?_, rfl⟩
        apply ret_int
        rw [← HG.out, gcd_zero]
        omega
    · have hb0 : (y != 0) = true := by simpa using h0
      have ht := tmod_bound (a := x) h0 hy
      have hl := tmod_lt x y h0
      obtain ⟨hx1, hx2⟩ := hx
      obtain ⟨hy1, hy2⟩ := hy
      go_wp2
      go_round
      case rel => exact ⟨y, x.tmod y, rfl, rfl, ⟨hy1, hy2⟩, ht, by rw [gcd_step]; exact HG.out⟩
      case measure => exact hl

set_option maxHeartbeats 400000 in
theorem fracL_c (u d : Int) (w : World) (hu : -4611686018427387904 ≤ u ∧ u ≤ 4611686018427387904) (hd : -4611686018427387904 ≤ d ∧ d ≤ 4611686018427387904) (h0 : d ≠ 0) :
    Calls Try.prog 41 #[.int .i64 u, .int .i64 d] w fun e w' => e = .returned (.agg #[.int .i64 (qf u d).num, .int .i64 ((qf u d).den : Int)]) ∧ Below w.heap.size w w' := by
  have hg := gcd_pos' (a := u) h0
  have q1 := tdiv_bound u (Int.gcd u d) hu
  have q2 := tdiv_bound d (Int.gcd u d) hd
  obtain ⟨hu1, hu2⟩ := hu
  obtain ⟨hd1, hd2⟩ := hd
  obtain ⟨q1a, q1b⟩ := q1
  obtain ⟨q2a, q2b⟩ := q2
  by_cases hn : d < 0
  · go_enter Try.func41, Try.ntmps41
    go_wp2_with (go_at_call 82; refine (gcdL_c _ _ _ ⟨by omega, by omega⟩ ⟨by omega, by omega⟩).mono ?_; rintro e w' ⟨rfl, rfl⟩)
    go_region
    go_wp2
    refine bodyPost_ret (v := .agg #[.int .i64 (qf u d).num, .int .i64 ((qf u d).den : Int)]) (by simp [results, Try.results41, go_sem, ← tdiv_gcd_num' u d (by omega), ← tdiv_gcd_den' u d (by omega)]) rfl ⟨rfl, ((Below.refl _ _).alloc (Nat.le_refl _) _).drew⟩
  · go_enter Try.func41, Try.ntmps41
    go_wp2_with (go_at_call 82; refine (gcdL_c _ _ _ ⟨by omega, by omega⟩ ⟨by omega, by omega⟩).mono ?_; rintro e w' ⟨rfl, rfl⟩)
    go_region
    go_wp2
    refine bodyPost_ret (v := .agg #[.int .i64 (qf u d).num, .int .i64 ((qf u d).den : Int)]) (by simp [results, Try.results41, go_sem, ← tdiv_gcd_num u d (by omega), ← tdiv_gcd_den u d (by omega)]) rfl ⟨rfl, ((Below.refl _ _).alloc (Nat.le_refl _) _).drew⟩

theorem lessL_d (p q : Rat) (w : World) (h : Fit p q) :
    Calls Try.prog 40 #[.agg #[.int .i64 (p).num, .int .i64 ((p).den : Int)], .agg #[.int .i64 (q).num, .int .i64 ((q).den : Int)]] w fun e w' => e = .returned (.bool (decide (p < q))) ∧ Below w.heap.size w w' := by
  have HQ : Hid (decide (p < q) = decide (p.num * q.den < q.num * p.den)) := by show _ = _; rw [decide_eq_decide]; exact lt_cross p q
  have h4 := h.sm4
  clear h
  obtain ⟨a, ha⟩ : ∃ a, p.num = a := ⟨_, rfl⟩
  obtain ⟨b, hb⟩ : ∃ b, (p.den : Int) = b := ⟨_, rfl⟩
  obtain ⟨c, hc⟩ : ∃ c, q.num = c := ⟨_, rfl⟩
  obtain ⟨d, hd⟩ : ∃ d, (q.den : Int) = d := ⟨_, rfl⟩
  rw [ha, hb, hc, hd] at h4 HQ ⊢
  clear ha hb hc hd
  obtain ⟨b1, d1, m1, m2, m3, m4⟩ := h4
  have e1 : IntKind.i64.wrap (a * d) = a * d := IntWalk.i64_in _ (by omega)
  have e2 : IntKind.i64.wrap (c * b) = c * b := IntWalk.i64_in _ (by omega)
  go_enter Try.func40, Try.ntmps40
  go_wp2_with fail
  go_ret
  exact ⟨ret_bool HQ.out.symm, by (repeat (first | exact Below.refl _ _ | assumption | refine Below.setCell ?_ (by first | (simp; done) | omega | (simp; omega) | (simp at *; omega)) _ | refine Below.drew ?_ | refine below_drewN ?_ _ | refine below_alloc' ?_ _ | refine below_to' ?_ (by assumption)))⟩
theorem lessL_c (p q : Rat) (w : World) (hp : Sm p) (hq : Sm q) :
    Calls Try.prog 40 #[.agg #[.int .i64 (p).num, .int .i64 ((p).den : Int)], .agg #[.int .i64 (q).num, .int .i64 ((q).den : Int)]] w fun e w' => e = .returned (.bool (decide (p < q))) ∧ Below w.heap.size w w' := lessL_d p q w (fit hp hq)

end Go.Proofs.Ytahogdcmnpidiaa
