
/-
  Contracts: greatest common divisors and reduced fractions, of the reference and of the program.
-/
import Derived.Test.YtgageljahebjnaaHar
import Derived.Test.YtgageljahebjnaaRat
namespace Go.Proofs.Ytgageljahebjnaa
open Go.RowKit

set_option maxHeartbeats 400000 in
theorem gcdS_c (a b : Int) (w : World) (ha : -4611686018427387904 ≤ a ∧ a ≤ 4611686018427387904) (hb : -4611686018427387904 ≤ b ∧ b ≤ 4611686018427387904) :
    Calls Try.prog 53 #[.int .i64 a, .int .i64 b] w fun e w' => e = .returned (.int .i64 (Int.gcd a b : Int)) ∧ w = w' := by
  go_enter Try.func53, Try.ntmps53
  go_wp2
  go_loop [0, 1] (fun u v => ∃ x y : Int, u = .int .i64 x ∧ v = .int .i64 y ∧ (-4611686018427387904 ≤ x ∧ x ≤ 4611686018427387904) ∧ (-4611686018427387904 ≤ y ∧ y ≤ 4611686018427387904) ∧ Int.gcd x y = Int.gcd a b) (fun _ v => (intOf v).natAbs)
  case atStart => exact ⟨a, b, rfl, rfl, ha, hb, rfl⟩
  case round =>
    obtain ⟨x, y, rfl, rfl, hx, hy, hg⟩ := hrel
    have HG := hide hg
    clear hg
    by_cases h0 : y = 0
    · subst h0
      have hb0 : ((0 : Int) != 0) = false := rfl
      obtain ⟨hx1, hx2⟩ := hx
      go_wp2
      all_goals
        go_ret
        refine ⟨?_, rfl⟩
        apply ret_int
        rw [← HG.out, gcd_zero]
        omega
    · have hb0 : (y != 0) = true := by simpa using h0
      have ht := tmod_bound (a := x) h0 hy
      have hl := tmod_lt x y h0
      obtain ⟨hx1, hx2⟩ := hx
      obtain ⟨hy1, hy2⟩ := hy
      go_wp2
      go_round
      case rel => exact ⟨y, x.tmod y, rfl, rfl, ⟨hy1, hy2⟩, ht, by rw [gcd_step]; exact HG.out⟩
      case measure => exact hl

set_option maxHeartbeats 400000 in
theorem divisor_c (a b : Int) (w : World) (ha : -4611686018427387904 ≤ a ∧ a ≤ 4611686018427387904) (hb : -4611686018427387904 ≤ b ∧ b ≤ 4611686018427387904) :
    Calls Try.prog 61 #[.int .i64 a, .int .i64 b] w fun e w' => e = .returned (.int .i64 (Int.gcd a b : Int)) ∧ ∃ n, w' = w.drewN n := by
  go_enter Try.func61, Try.ntmps61
  go_wp2
  go_loopw [0, 1] (fun u v wr => (∃ x y : Int, u = .int .i64 x ∧ v = .int .i64 y ∧ (-4611686018427387904 ≤ x ∧ x ≤ 4611686018427387904) ∧ (-4611686018427387904 ≤ y ∧ y ≤ 4611686018427387904) ∧ Int.gcd x y = Int.gcd a b) ∧ ∃ n, wr = w.drewN n) (fun _ v _ => (intOf v).natAbs)
  case atStart => exact ⟨⟨a, b, rfl, rfl, ha, hb, rfl⟩, 0, rfl⟩
  case round =>
    obtain ⟨⟨x, y, rfl, rfl, hx, hy, hg⟩, n, rfl⟩ := hrel
    have HG := hide hg
    clear hg
    by_cases h0 : y = 0
    · subst h0
      have hb0 : ((0 : Int) != 0) = false := rfl
      obtain ⟨hx1, hx2⟩ := hx
      go_wp2
      all_goals
        go_ret
        refine ⟨?_, n, rfl⟩
        apply ret_int
        rw [← HG.out, gcd_zero]
        omega
    · have hb0 : (y != 0) = true := by simpa using h0
      have ht := tmod_bound (a := x) h0 hy
      have hl := tmod_lt x y h0
      obtain ⟨hx1, hx2⟩ := hx
      obtain ⟨hy1, hy2⟩ := hy
      go_wp2
      go_quiet (fail)
      go_wp2
      go_roundw
      case rel => exact ⟨⟨y, x.tmod y, rfl, rfl, ⟨hy1, hy2⟩, ht, by rw [gcd_step]; exact HG.out⟩, _, World.drewN_drewN ..⟩
      case measure => exact hl

set_option maxHeartbeats 400000 in
theorem fracS_c (u d : Int) (w : World) (hu : -4611686018427387904 ≤ u ∧ u ≤ 4611686018427387904) (hd : -4611686018427387904 ≤ d ∧ d ≤ 4611686018427387904) (h0 : d ≠ 0) :
    Calls Try.prog 25 #[.int .i64 u, .int .i64 d] w fun e w' => e = .returned (.agg #[.int .i64 (qf u d).num, .int .i64 ((qf u d).den : Int)]) ∧ Below w.heap.size w w' := by
  have hg := gcd_pos' (a := u) h0
  have q1 := tdiv_bound u (Int.gcd u d) hu
  have q2 := tdiv_bound d (Int.gcd u d) hd
  obtain ⟨hu1, hu2⟩ := hu
  obtain ⟨hd1, hd2⟩ := hd
  obtain ⟨q1a, q1b⟩ := q1
  obtain ⟨q2a, q2b⟩ := q2
  by_cases hn : d < 0
  · go_enter Try.func25, Try.ntmps25
    go_wp2_with (go_at_call 53; refine (gcdS_c _ _ _ ⟨by omega, by omega⟩ ⟨by omega, by omega⟩).mono ?_; rintro e w' ⟨rfl, rfl⟩)
    go_region
    go_wp2
    refine bodyPost_ret (v := .agg #[.int .i64 (qf u d).num, .int .i64 ((qf u d).den : Int)]) (by simp [results, Try.results25, go_sem, ← tdiv_gcd_num' u d (by omega), ← tdiv_gcd_den' u d (by omega)]) rfl ⟨rfl, ((Below.refl _ _).alloc (Nat.le_refl _) _).drew⟩
  · go_enter Try.func25, Try.ntmps25
    go_wp2_with (go_at_call 53; refine (gcdS_c _ _ _ ⟨by omega, by omega⟩ ⟨by omega, by omega⟩).mono ?_; rintro e w' ⟨rfl, rfl⟩)
    go_region
    go_wp2
    refine bodyPost_ret (v := .agg #[.int .i64 (qf u d).num, .int .i64 ((qf u d).den : Int)]) (by simp [results, Try.results25, go_sem, ← tdiv_gcd_num u d (by omega), ← tdiv_gcd_den u d (by omega)]) rfl ⟨rfl, ((Below.refl _ _).alloc (Nat.le_refl _) _).drew⟩

set_option maxHeartbeats 400000 in
theorem frac_c (u d : Int) (w : World) (hu : -4611686018427387904 ≤ u ∧ u ≤ 4611686018427387904) (hd : -4611686018427387904 ≤ d ∧ d ≤ 4611686018427387904) (h0 : d ≠ 0) :
    Calls Try.prog 60 #[.int .i64 u, .int .i64 d] w fun e w' => e = .returned (.agg #[.int .i64 (qf u d).num, .int .i64 ((qf u d).den : Int)]) ∧ Below w.heap.size w w' := by
  have hg := gcd_pos' (a := u) h0
  have q1 := tdiv_bound u (Int.gcd u d) hu
  have q2 := tdiv_bound d (Int.gcd u d) hd
  have hgd : (Int.gcd u d : Int) ≤ 4611686018427387904 := by
    have := Int.le_of_dvd (a := (Int.gcd u d : Int)) (b := (d.natAbs : Int)) (by omega) (by rw [Int.dvd_natAbs]; exact Int.gcd_dvd_right ..)
    omega
  obtain ⟨hu1, hu2⟩ := hu
  obtain ⟨hd1, hd2⟩ := hd
  obtain ⟨q1a, q1b⟩ := q1
  obtain ⟨q2a, q2b⟩ := q2
  by_cases hn : d < 0
  · go_enter Try.func60, Try.ntmps60
    go_wp2_with (go_at_call 61; refine (divisor_c _ _ _ ⟨by omega, by omega⟩ ⟨by omega, by omega⟩).mono ?_; rintro e w' ⟨rfl, n, rfl⟩)
    go_region
    go_wp2
    refine bodyPost_ret (v := .agg #[.int .i64 (qf u d).num, .int .i64 ((qf u d).den : Int)]) (by simp [results, Try.results60, go_sem, ← tdiv_gcd_num' u d (by omega), ← tdiv_gcd_den' u d (by omega)]) rfl ⟨rfl, ?_⟩
    (repeat (first | exact Below.refl _ _ | assumption | refine Below.setCell ?_ (by first | (simp; done) | omega | (simp; omega) | (simp at *; omega)) _ | refine Below.drew ?_ | refine below_drewN ?_ _ | refine below_alloc' ?_ _ | refine below_to' ?_ (by assumption)))
  · go_enter Try.func60, Try.ntmps60
    go_wp2_with (go_at_call 61; refine (divisor_c _ _ _ ⟨by omega, by omega⟩ ⟨by omega, by omega⟩).mono ?_; rintro e w' ⟨rfl, n, rfl⟩)
    go_region
    go_wp2
    refine bodyPost_ret (v := .agg #[.int .i64 (qf u d).num, .int .i64 ((qf u d).den : Int)]) (by simp [results, Try.results60, go_sem, ← tdiv_gcd_num u d (by omega), ← tdiv_gcd_den u d (by omega)]) rfl ⟨rfl, ?_⟩
    (repeat (first | exact Below.refl _ _ | assumption | refine Below.setCell ?_ (by first | (simp; done) | omega | (simp; omega) | (simp at *; omega)) _ | refine Below.drew ?_ | refine below_drewN ?_ _ | refine below_alloc' ?_ _ | refine below_to' ?_ (by assumption)))
end Go.Proofs.Ytgageljahebjnaa
