
/-
  Contracts: sums, and what a piece misses, of the reference and of the program.
-/
import Derived.Test.YtgageljahebjnaaC9b
import Derived.Test.YtgageljahebjnaaFrac
namespace Go.Proofs.Ytgageljahebjnaa
open Go.RowKit

set_option maxHeartbeats 400000 in
theorem sumI_c (v : Value) (xs : List Int) (w : World) (hr : Rd w v xs) (hb : allB (-1000000000) 1000000000 xs = true) (hn : xs.length ≤ 1000000000) :
    Calls Try.prog 45 #[v] w fun e w' => e = .returned (.int .i64 (sumL xs)) ∧ w = w' := by
  obtain ⟨A, c, rfl, hc, hm, hcell⟩ := hr
  go_enter Try.func45, Try.ntmps45
  go_wp2
  go_loop [3, 8] (fun s i => ∃ k : Nat, k ≤ xs.length ∧ i = .int .i64 k ∧ s = .int .i64 (sumL (xs.take k))) (fun _ i => xs.length - (intOf i).toNat)
  case atStart => exact ⟨0, Nat.zero_le _, rfl, rfl⟩
  case round =>
    obtain ⟨k, hk, rfl, rfl⟩ := hrel
    by_cases hlt : k < xs.length
    · obtain ⟨g, off, rfl, hg, hcl⟩ := hcell (by omega)
      have hck : w.cell? ⟨g, off + k, none⟩ = some (.int .i64 xs[k]) := by rw [hcl k hlt, getD_lt hlt]
      have hx := allB_get hb hlt
      have hs := sumL_bound (m := 1000000000) (by omega) (allB_iff.1 hb) k
      clear hcl hcell hb
      go_wp2
      go_round
      case rel => exact ⟨k + 1, by omega, by go_num, by rw [sumL_take hlt]⟩
      case measure => simp [intOf]; omega
    · go_wp2
      go_ret
      obtain rfl : k = xs.length := by omega
      exact ⟨by simp, rfl⟩


def sqL (xs : List Int) : Int := sumL (xs.map fun x => x * x)
theorem sqL_snoc (xs : List Int) (y : Int) : sqL (xs ++ [y]) = sqL xs + y * y := by simp [sqL, sumL_snoc]
/-- What a piece misses. -/
def missR (ys : List Int) : Rat := qf (ys.length * sqL ys - sumL ys * sumL ys) ys.length
theorem sq_le {x m : Int} (h : -m ≤ x ∧ x ≤ m) : 0 ≤ x * x ∧ x * x ≤ m * m := by
  have h1 : x * x = (x.natAbs * x.natAbs : Nat) := (Int.natAbs_mul_self (a := x)).symm
  have h2 : m * m = (m.natAbs * m.natAbs : Nat) := (Int.natAbs_mul_self (a := m)).symm
  have h3 : x.natAbs * x.natAbs ≤ m.natAbs * m.natAbs := Nat.mul_le_mul (by omega) (by omega)
  omega
theorem sums_bound {ys : List Int} (hb : allB (-30) 30 ys = true) : (-(30 * (ys.length : Int)) ≤ sumL ys ∧ sumL ys ≤ 30 * ys.length) ∧ 0 ≤ sqL ys ∧ sqL ys ≤ 900 * ys.length := by
  constructor
  · have := sumL_bound (m := 30) (by omega) (allB_iff.1 hb) ys.length
    simpa using this
  · have h : ∀ (n : Nat) (ys : List Int), ys.length = n → allB (-30) 30 ys = true → 0 ≤ sqL ys ∧ sqL ys ≤ 900 * ys.length := by
      intro n
      induction n with
      | zero => intro ys h _; obtain rfl := List.eq_nil_of_length_eq_zero h; simp [sqL, sumL]
      | succ n ih =>
        intro ys hl hb
        have hne : ys ≠ [] := by rintro rfl; simp at hl
        have he := List.dropLast_concat_getLast hne
        rw [← he] at hb ⊢
        rw [allB_snoc, Bool.and_eq_true] at hb
        have h1 := ih ys.dropLast (by simp [hl]) hb.1
        have h2 := sq_le (x := ys.getLast hne) (m := 30) (by simpa using hb.2)
        rw [sqL_snoc, List.length_append, List.length_singleton]
        omega
    exact h _ ys rfl hb
theorem mul_bd {a b M N : Int} (ha : 0 ≤ a ∧ a ≤ M) (hb : 0 ≤ b ∧ b ≤ N) : 0 ≤ a * b ∧ a * b ≤ M * N :=
  ⟨Int.mul_nonneg ha.1 hb.1, Int.mul_le_mul ha.2 hb.2 hb.1 (by omega)⟩
theorem mul_bds {a b M N : Int} (ha : -M ≤ a ∧ a ≤ M) (hb : -N ≤ b ∧ b ≤ N) : -(M * N) ≤ a * b ∧ a * b ≤ M * N := by
  have h : (a * b).natAbs ≤ (M * N).natAbs := by
    rw [Int.natAbs_mul, Int.natAbs_mul]
    exact Nat.mul_le_mul (by omega) (by omega)
  have h2 : 0 ≤ M * N := Int.mul_nonneg (by omega) (by omega)
  omega
theorem wrap_in {n : Int} (h : -9223372036854775808 ≤ n ∧ n ≤ 9223372036854775807) : IntKind.i64.wrap n = n := IntWalk.i64_in n h

set_option maxHeartbeats 400000 in
theorem missS_c (v : Value) (xs : List Int) (i k : Nat) (w : World) (hr : Rd w v xs) (hb : allB (-30) 30 xs = true) (hn : xs.length ≤ 8) (hi : i < k) (hk : k ≤ xs.length) :
    Calls Try.prog 62 #[v, .int .i64 i, .int .i64 k] w fun e w' => e = .returned (.agg #[.int .i64 (missR (seg xs i k)).num, .int .i64 ((missR (seg xs i k)).den : Int)]) ∧ Below w.heap.size w w' := by
  obtain ⟨A, c, rfl, hc, hm, hcell⟩ := hr
  obtain ⟨g, off, rfl, hg, hcl⟩ := hcell (by omega)
  clear hcell
  go_enter Try.func62, Try.ntmps62
  go_wp2
  go_loopw [8, 9, 10] (fun s q j wr => ∃ m : Nat, i ≤ m ∧ m ≤ k ∧ j = .int .i64 m ∧ s = .int .i64 (sumL (seg xs i m)) ∧ q = .int .i64 (sqL (seg xs i m)) ∧ ∃ n, wr = (w.alloc (.cells #[.int .i64 0, .int .i64 0] 24)).drewN n) (fun _ _ j _ => k - (intOf j).toNat)
  case atStart => exact ⟨i, Nat.le_refl _, by omega, rfl, by rw [seg_self]; rfl, by rw [seg_self]; rfl, 0, rfl⟩
  case round =>
    obtain ⟨m, him, hmk, rfl, rfl, rfl, n, rfl⟩ := hrel
    by_cases hlt : m < k
    · have hml : m < xs.length := by omega
      have hck : w.cell? ⟨g, off + m, none⟩ = some (.int .i64 xs[m]) := by rw [hcl m hml, getD_lt hml]
      have hx := allB_get hb hml
      have hl := seg_len (xs := xs) (i := i) (k := m) (by omega)
      obtain ⟨hs, hq⟩ := sums_bound (seg_allB hb i m)
      have hxx := sq_le hx
      have hi' : (m : Int) < (xs.length : Int) := by omega
      have hw1 : IntKind.i64.wrap (xs[m] * xs[m]) = xs[m] * xs[m] := wrap_in (by omega)
      have hw2 : IntKind.i64.wrap (sqL (seg xs i m) + xs[m] * xs[m]) = sqL (seg xs i m) + xs[m] * xs[m] := wrap_in (by omega)
      have HS := hide (seg_succ (xs := xs) him hml)
      clear hcl hb
      have HL := hide hl
      have hsl : -240 ≤ sumL (seg xs i m) ∧ sumL (seg xs i m) ≤ 240 := by omega
      clear hl hs hq
      go_wp2
      go_quiet (fail)
      go_wp2
      go_roundw
      case rel => exact ⟨m + 1, by omega, by omega, by go_num, by rw [HS.out, sumL_snoc], by rw [HS.out, sqL_snoc], _, rfl⟩
      case measure => simp [intOf]; omega
    · obtain rfl : m = k := by omega
      have hl := seg_len (xs := xs) (i := i) (k := m) (by omega)
      obtain ⟨hs, hq⟩ := sums_bound (seg_allB hb i m)
      have hP := mul_bd (a := (m : Int) - i) (b := sqL (seg xs i m)) (M := 8) (N := 7200) (by omega) (by omega)
      have hS := sq_le (x := sumL (seg xs i m)) (m := 240) (by omega)
      have hfin : Hid (qf (((m : Int) - i) * sqL (seg xs i m) - sumL (seg xs i m) * sumL (seg xs i m)) ((m : Int) - i) = missR (seg xs i m)) := by
        show _ = _
        unfold missR
        rw [hl, Int.natCast_sub him]
      have hsl : -240 ≤ sumL (seg xs i m) ∧ sumL (seg xs i m) ≤ 240 := by omega
      have hql : 0 ≤ sqL (seg xs i m) ∧ sqL (seg xs i m) ≤ 7200 := by omega
      clear hb hcl hl hs hq
      go_wp2_with (go_at_call 25; refine (fracS_c _ _ _ ⟨by omega, by omega⟩ ⟨by omega, by omega⟩ (by omega)).mono ?_; rintro e w' ⟨rfl, hb1⟩; obtain ⟨hc1, hf1⟩ := bcell hb1; have hz1 := hb1.size)
      have hz2 : w.heap.size + 1 ≤ w'.heap.size := by simpa using hz1
      rw [hfin.out]
      refine bodyPost_ret (v := .agg #[.int .i64 (missR (seg xs i m)).num, .int .i64 ((missR (seg xs i m)).den : Int)]) (by simp [results, Try.results62, go_sem, hc1]) rfl ⟨rfl, ?_⟩
      (repeat (first | exact Below.refl _ _ | assumption | refine Below.setCell ?_ (by first | (simp; done) | omega | (simp; omega) | (simp at *; omega)) _ | refine Below.drew ?_ | refine below_drewN ?_ _ | refine below_alloc' ?_ _ | refine below_to' ?_ (by assumption)))

set_option maxHeartbeats 400000 in
theorem pieceMiss_c (v : Value) (xs : List Int) (w : World) (hr : Rd w v xs) (hb : allB (-30) 30 xs = true) (hn : xs.length ≤ 8) (h0 : 0 < xs.length) :
    Calls Try.prog 37 #[v] w fun e w' => e = .returned (.agg #[.int .i64 (missR xs).num, .int .i64 ((missR xs).den : Int)]) ∧ Below w.heap.size w w' := by
  have hr' := hr
  obtain ⟨A, c, rfl, hc, hm, hcell⟩ := hr
  obtain ⟨g, off, rfl, hg, hcl⟩ := hcell (by omega)
  clear hcell
  go_enter Try.func37, Try.ntmps37
  go_wp2
  go_loop [3, 8] (fun q i => ∃ k : Nat, k ≤ xs.length ∧ i = .int .i64 k ∧ q = .int .i64 (sqL (xs.take k))) (fun _ i => xs.length - (intOf i).toNat)
  case atStart => exact ⟨0, Nat.zero_le _, rfl, rfl⟩
  case round =>
    obtain ⟨k, hk, rfl, rfl⟩ := hrel
    by_cases hlt : k < xs.length
    · have hck : (w.alloc (.cells #[.int .i64 0, .int .i64 0] 24)).cell? ⟨g, off + k, none⟩ = some (.int .i64 xs[k]) := by
        rw [World.cell?_alloc_lt _ _ _ hg, hcl k hlt, getD_lt hlt]
      have hx := allB_get hb hlt
      obtain ⟨hs, hq⟩ := sums_bound (allB_take hb k)
      have hl : (xs.take k).length ≤ 8 := by simp; omega
      have hxx := sq_le hx
      have HS : Hid (sqL (xs.take (k + 1)) = sqL (xs.take k) + xs[k] * xs[k]) := by show _ = _; rw [List.take_succ_eq_append_getElem hlt, sqL_snoc]
      have hql : 0 ≤ sqL (xs.take k) ∧ sqL (xs.take k) ≤ 7200 := by omega
      clear hcl hb hs hq hl
      go_wp2
      go_round
      case rel => exact ⟨k + 1, by omega, by go_num, by rw [HS.out]⟩
      case measure => simp [intOf]; omega
    · obtain rfl : k = xs.length := by omega
      obtain ⟨hs, hq⟩ := sums_bound hb
      have hP := mul_bd (a := sqL xs) (b := (xs.length : Int)) (M := 7200) (N := 8) (by omega) (by omega)
      have hS := sq_le (x := sumL xs) (m := 240) (by omega)
      have hfin : Hid (qf (sqL xs * (xs.length : Int) - sumL xs * sumL xs) (xs.length : Int) = missR xs) := by
        show _ = _
        unfold missR
        rw [Int.mul_comm]
      have hsl : -240 ≤ sumL xs ∧ sumL xs ≤ 240 := by omega
      have hql : 0 ≤ sqL xs ∧ sqL xs ≤ 7200 := by omega
      have hb' : allB (-1000000000) 1000000000 xs = true := allB_iff.2 fun x hx => by have := allB_iff.1 hb x hx; omega
      clear hb hcl hs hq
      go_wp2_with (first | (go_at_call 45; refine (sumI_c _ xs _ (hr'.alloc _) hb' (by omega)).mono ?_; rintro e w' ⟨rfl, rfl⟩) | (go_at_call 60; refine (frac_c _ _ _ ⟨by omega, by omega⟩ ⟨by omega, by omega⟩ (by omega)).mono ?_; rintro e w' ⟨rfl, hb1⟩; obtain ⟨hc1, hf1⟩ := bcell hb1; have hz1 := hb1.size))
      rw [hfin.out]
      refine bodyPost_ret (v := .agg #[.int .i64 (missR xs).num, .int .i64 ((missR xs).den : Int)]) (by simp [results, Try.results37, go_sem, hc1]) rfl ⟨rfl, ?_⟩
      (repeat (first | exact Below.refl _ _ | assumption | refine Below.setCell ?_ (by first | (simp; done) | omega | (simp; omega) | (simp at *; omega)) _ | refine Below.drew ?_ | refine below_drewN ?_ _ | refine below_alloc' ?_ _ | refine below_to' ?_ (by assumption)))
end Go.Proofs.Ytgageljahebjnaa
