/-
  Contracts: tables of four numbers: whether they are accepted, their ways, the shifted table.
-/
import Derived.Test.YtgclgcfhcomplaaTwoI
import Derived.Test.YtgclgcfhcomplaaDraw
namespace Go.Proofs.Ytgclgcfhcomplaa
open Go.RowKit

def okFour (a b c d : Int) : Bool := allB 0 8 [a, b, c, d]
theorem okFour_iff {a b c d : Int} : okFour a b c d = true ↔ (0 ≤ a ∧ a ≤ 8) ∧ (0 ≤ b ∧ b ≤ 8) ∧ (0 ≤ c ∧ c ≤ 8) ∧ 0 ≤ d ∧ d ≤ 8 := by simp [okFour, allB]
def waysN (a b c d : Nat) : Int := pasc (a + b) a * pasc (c + d) c
theorem pasc_bd24 {n : Nat} (h : n ≤ 24) (k : Nat) : 0 ≤ pasc n k ∧ pasc n k ≤ 16777216 := by
  have h1 := pasc_bd n k
  have h2 : 2 ^ n ≤ 2 ^ 24 := Nat.pow_le_pow_right (by omega) h
  omega
theorem waysN_bd {a b c d : Nat} (h1 : a + b ≤ 24) (h2 : c + d ≤ 24) : 0 ≤ waysN a b c d ∧ waysN a b c d ≤ 281474976710656 := by
  have := mul_pos_bd (pasc_bd24 h1 a) (pasc_bd24 h2 c)
  exact this

set_option maxHeartbeats 1000000 in
theorem waysI_c (a b c d : Nat) (w : World) (h1 : a + b ≤ 24) (h2 : c + d ≤ 24) : Calls Try.prog 81 #[.agg #[.int .i64 (a), .int .i64 (b), .int .i64 (c), .int .i64 (d)]] w fun e w' => e = .returned (.int .i64 (waysN a b c d)) ∧ Below w.heap.size w w' := by
  have hb1 := pasc_bd24 h1 a
  have hb2 := pasc_bd24 h2 c
  have hmb := mul_pos_bd hb1 hb2
  have HW : Hid (waysN a b c d = pasc (a + b) a * pasc (c + d) c) := rfl
  have c1 : ∀ w, Calls Try.prog 83 #[.int .i64 ((a : Int) + b), .int .i64 a] w fun e w' => e = .returned (.int .i64 (pasc (a + b) a)) ∧ w = w' := fun w => by
    have := chooseI_c (a + b) a w (by omega) (by omega)
    rwa [show ((a + b : Nat) : Int) = (a : Int) + b from by omega] at this
  have c2 : ∀ w, Calls Try.prog 83 #[.int .i64 ((c : Int) + d), .int .i64 c] w fun e w' => e = .returned (.int .i64 (pasc (c + d) c)) ∧ w = w' := fun w => by
    have := chooseI_c (c + d) c w (by omega) (by omega)
    rwa [show ((c + d : Nat) : Int) = (c : Int) + d from by omega] at this
  have hw1 : IntKind.i64.wrap ((a : Int) + b) = (a : Int) + b := IntWalk.i64_in _ (by omega)
  have hw2 : IntKind.i64.wrap ((c : Int) + d) = (c : Int) + d := IntWalk.i64_in _ (by omega)
  obtain ⟨X, hX⟩ : ∃ X, pasc (a + b) a = X := ⟨_, rfl⟩
  obtain ⟨Y, hY⟩ : ∃ X, pasc (c + d) c = X := ⟨_, rfl⟩
  rw [hX, hY] at HW hmb
  simp only [hX] at c1
  simp only [hY] at c2
  have C1 := hide c1
  have C2 := hide c2
  clear hX hY c1 c2 hb1 hb2
  have hw3 : IntKind.i64.wrap (X * Y) = X * Y := IntWalk.i64_in _ (by omega)
  go_enter Try.func81, Try.ntmps81
  go_wp2_with fail
  go_quiet ((go_at_call 83; first | with_reducible exact quiet_eq (C1.out _) | with_reducible exact quiet_eq (C2.out _)))
  go_wp2
  go_ret
  exact ⟨ret_int HW.out.symm, by (repeat (first | exact Below.refl _ _ | assumption | refine Below.setCell ?_ (by first | (simp; done) | omega | (simp; omega) | (simp at *; omega)) _ | refine Below.drew ?_ | refine below_drewN ?_ _ | refine below_alloc' ?_ _ | refine below_to' ?_ (by assumption)))⟩

set_option maxHeartbeats 1000000 in
theorem waysS_c (a b c d : Nat) (w : World) (h1 : a + b ≤ 24) (h2 : c + d ≤ 24) : Calls Try.prog 82 #[.agg #[.int .i64 (a), .int .i64 (b), .int .i64 (c), .int .i64 (d)]] w fun e w' => e = .returned (.int .i64 (waysN a b c d)) ∧ Below w.heap.size w w' := by
  have hb1 := pasc_bd24 h1 a
  have hb2 := pasc_bd24 h2 c
  have hmb := mul_pos_bd hb1 hb2
  have HW : Hid (waysN a b c d = pasc (a + b) a * pasc (c + d) c) := rfl
  have c1 : ∀ w, Calls Try.prog 64 #[.int .i64 ((a : Int) + b), .int .i64 a] w fun e w' => e = .returned (.int .i64 (pasc (a + b) a)) ∧ w = w' := fun w => by
    have := chooseS_c (a + b) a w (by omega) (by omega)
    rwa [show ((a + b : Nat) : Int) = (a : Int) + b from by omega] at this
  have c2 : ∀ w, Calls Try.prog 64 #[.int .i64 ((c : Int) + d), .int .i64 c] w fun e w' => e = .returned (.int .i64 (pasc (c + d) c)) ∧ w = w' := fun w => by
    have := chooseS_c (c + d) c w (by omega) (by omega)
    rwa [show ((c + d : Nat) : Int) = (c : Int) + d from by omega] at this
  have hw1 : IntKind.i64.wrap ((a : Int) + b) = (a : Int) + b := IntWalk.i64_in _ (by omega)
  have hw2 : IntKind.i64.wrap ((c : Int) + d) = (c : Int) + d := IntWalk.i64_in _ (by omega)
  obtain ⟨X, hX⟩ : ∃ X, pasc (a + b) a = X := ⟨_, rfl⟩
  obtain ⟨Y, hY⟩ : ∃ X, pasc (c + d) c = X := ⟨_, rfl⟩
  rw [hX, hY] at HW hmb
  simp only [hX] at c1
  simp only [hY] at c2
  have C1 := hide c1
  have C2 := hide c2
  clear hX hY c1 c2 hb1 hb2
  have hw3 : IntKind.i64.wrap (X * Y) = X * Y := IntWalk.i64_in _ (by omega)
  go_enter Try.func82, Try.ntmps82
  go_wp2_with fail
  go_quiet ((go_at_call 64; first | with_reducible exact quiet_eq (C1.out _) | with_reducible exact quiet_eq (C2.out _)))
  go_wp2
  go_ret
  exact ⟨ret_int HW.out.symm, by (repeat (first | exact Below.refl _ _ | assumption | refine Below.setCell ?_ (by first | (simp; done) | omega | (simp; omega) | (simp at *; omega)) _ | refine Below.drew ?_ | refine below_drewN ?_ _ | refine below_alloc' ?_ _ | refine below_to' ?_ (by assumption)))⟩

set_option maxRecDepth 100000 in
set_option maxHeartbeats 1000000 in
theorem fourI_c (a b c d : Int) (r : Bool) (w : World) (hr : okFour a b c d = r) : Calls Try.prog 48 #[.agg #[.int .i64 (a), .int .i64 (b), .int .i64 (c), .int .i64 (d)]] w fun e w' => e = .returned (.bool r) ∧ Below w.heap.size w w' := by
  have HR := hide hr
  clear hr
  go_enter Try.func48, Try.ntmps48
  go_wp2_with fail
  refine (allIn_c _ [a, b, c, d] 0 8 r _ ?_ HR.out).mono ?_
  · exact Sl.rd (B := 0) (lit_sl [a, b, c, d] rfl (by simp) rfl (by simp) (Nat.zero_le _))
  rintro e w2 ⟨rfl, hb2⟩
  go_wp2_with fail
  go_ret
  exact ⟨rfl, by (repeat (first | exact Below.refl _ _ | assumption | refine Below.setCell ?_ (by first | (simp; done) | omega | (simp; omega) | (simp at *; omega)) _ | refine Below.drew ?_ | refine below_drewN ?_ _ | refine below_alloc' ?_ _ | refine below_to' ?_ (by assumption)))⟩

theorem okFour_no1 {a b c d : Int} (h : (decide (0 ≤ a) && decide (a ≤ 8)) = false) : okFour a b c d = false := by simp [okFour, allB]; simp at h; omega
theorem okFour_no2 {a b c d : Int} (h : (decide (0 ≤ b) && decide (b ≤ 8)) = false) : okFour a b c d = false := by simp [okFour, allB]; simp at h; omega
theorem okFour_no3 {a b c d : Int} (h : (decide (0 ≤ c) && decide (c ≤ 8)) = false) : okFour a b c d = false := by simp [okFour, allB]; simp at h; omega
theorem okFour_no4 {a b c d : Int} (h : (decide (0 ≤ d) && decide (d ≤ 8)) = false) : okFour a b c d = false := by simp [okFour, allB]; simp at h; omega

set_option maxHeartbeats 1000000 in
theorem fourS_c (a b c d : Int) (r : Bool) (w : World) (hr : okFour a b c d = r) : Calls Try.prog 51 #[.agg #[.int .i64 (a), .int .i64 (b), .int .i64 (c), .int .i64 (d)]] w fun e w' => e = .returned (.bool r) ∧ Below w.heap.size w w' := by
  cases h1 : (decide (0 ≤ a) && decide (a ≤ 8))
  · obtain rfl := (okFour_no1 h1).symm.trans hr
    clear hr
    go_enter Try.func51, Try.ntmps51
    go_wp2_with fail
    refine (inRange_c false _ _ _ _ h1).mono ?_
    rintro e w2 ⟨rfl, rfl⟩
    go_wp2_with fail
    go_ret
    exact ⟨rfl, by (repeat (first | exact Below.refl _ _ | assumption | refine Below.setCell ?_ (by first | (simp; done) | omega | (simp; omega) | (simp at *; omega)) _ | refine Below.drew ?_ | refine below_drewN ?_ _ | refine below_alloc' ?_ _ | refine below_to' ?_ (by assumption)))⟩
  cases h2 : (decide (0 ≤ b) && decide (b ≤ 8))
  · obtain rfl := (okFour_no2 h2).symm.trans hr
    clear hr
    go_enter Try.func51, Try.ntmps51
    go_wp2_with fail
    refine (inRange_c true _ _ _ _ h1).mono ?_
    rintro e w2 ⟨rfl, rfl⟩
    go_wp2_with fail
    refine (inRange_c false _ _ _ _ h2).mono ?_
    rintro e w2 ⟨rfl, rfl⟩
    go_wp2_with fail
    go_ret
    exact ⟨rfl, by (repeat (first | exact Below.refl _ _ | assumption | refine Below.setCell ?_ (by first | (simp; done) | omega | (simp; omega) | (simp at *; omega)) _ | refine Below.drew ?_ | refine below_drewN ?_ _ | refine below_alloc' ?_ _ | refine below_to' ?_ (by assumption)))⟩
  cases h3 : (decide (0 ≤ c) && decide (c ≤ 8))
  · obtain rfl := (okFour_no3 h3).symm.trans hr
    clear hr
    go_enter Try.func51, Try.ntmps51
    go_wp2_with fail
    refine (inRange_c true _ _ _ _ h1).mono ?_
    rintro e w2 ⟨rfl, rfl⟩
    go_wp2_with fail
    refine (inRange_c true _ _ _ _ h2).mono ?_
    rintro e w2 ⟨rfl, rfl⟩
    go_wp2_with fail
    refine (inRange_c false _ _ _ _ h3).mono ?_
    rintro e w2 ⟨rfl, rfl⟩
    go_wp2_with fail
    go_ret
    exact ⟨rfl, by (repeat (first | exact Below.refl _ _ | assumption | refine Below.setCell ?_ (by first | (simp; done) | omega | (simp; omega) | (simp at *; omega)) _ | refine Below.drew ?_ | refine below_drewN ?_ _ | refine below_alloc' ?_ _ | refine below_to' ?_ (by assumption)))⟩
  · have h4 : (decide (0 ≤ d) && decide (d ≤ 8)) = r := by
      simp at h1 h2 h3
      rw [← hr, okFour, allB]
      simp [h1, h2, h3]
    clear hr
    go_enter Try.func51, Try.ntmps51
    go_wp2_with fail
    refine (inRange_c true _ _ _ _ h1).mono ?_
    rintro e w2 ⟨rfl, rfl⟩
    go_wp2_with fail
    refine (inRange_c true _ _ _ _ h2).mono ?_
    rintro e w2 ⟨rfl, rfl⟩
    go_wp2_with fail
    refine (inRange_c true _ _ _ _ h3).mono ?_
    rintro e w2 ⟨rfl, rfl⟩
    go_wp2_with fail
    refine (inRange_c r _ _ _ _ h4).mono ?_
    rintro e w2 ⟨rfl, rfl⟩
    go_wp2_with fail
    go_ret
    exact ⟨rfl, by (repeat (first | exact Below.refl _ _ | assumption | refine Below.setCell ?_ (by first | (simp; done) | omega | (simp; omega) | (simp at *; omega)) _ | refine Below.drew ?_ | refine below_drewN ?_ _ | refine below_alloc' ?_ _ | refine below_to' ?_ (by assumption)))⟩

set_option maxHeartbeats 1000000 in
theorem shifted_c (a b c d x : Int) (w : World) (ha : -100 ≤ a ∧ a ≤ 100) (hb : -100 ≤ b ∧ b ≤ 100) (hc : -100 ≤ c ∧ c ≤ 100) (hd : -100 ≤ d ∧ d ≤ 100) (hx : -100 ≤ x ∧ x ≤ 100) :
    Calls Try.prog 53 #[.agg #[.int .i64 (a), .int .i64 (b), .int .i64 (c), .int .i64 (d)], .int .i64 x] w fun e w' => e = .returned (.agg #[.int .i64 (x), .int .i64 (b + a - x), .int .i64 (c + a - x), .int .i64 (d - a + x)]) ∧ Below w.heap.size w w' := by
  go_enter Try.func53, Try.ntmps53
  go_wp2_with fail
  refine bodyPost_ret (v := .agg #[.int .i64 (x), .int .i64 (b + a - x), .int .i64 (c + a - x), .int .i64 (d - a + x)]) (by simp [results, Try.results53, go_sem]) rfl ⟨rfl, by (repeat (first | exact Below.refl _ _ | assumption | refine Below.setCell ?_ (by first | (simp; done) | omega | (simp; omega) | (simp at *; omega)) _ | refine Below.drew ?_ | refine below_drewN ?_ _ | refine below_alloc' ?_ _ | refine below_to' ?_ (by assumption)))⟩

set_option maxHeartbeats 2000000 in
theorem whole_c (a b c d : Int) (r : Bool) (w : World) (hr : decide (0 ≤ a ∧ 0 ≤ b ∧ 0 ≤ c ∧ 0 ≤ d) = r) :
    Calls Try.prog 52 #[.agg #[.int .i64 (a), .int .i64 (b), .int .i64 (c), .int .i64 (d)]] w fun e w' => e = .returned (.bool r) ∧ Below w.heap.size w w' := by
  have HR := hide hr
  clear hr
  by_cases h1 : 0 ≤ a
  · by_cases h2 : 0 ≤ b
    · by_cases h3 : 0 ≤ c
      · by_cases h4 : 0 ≤ d
        all_goals
          go_enter Try.func52, Try.ntmps52
          go_wp2_with fail
          go_ret
          exact ⟨ret_bool (by rw [← HR.out]; simp; omega), by (repeat (first | exact Below.refl _ _ | assumption | refine Below.setCell ?_ (by first | (simp; done) | omega | (simp; omega) | (simp at *; omega)) _ | refine Below.drew ?_ | refine below_drewN ?_ _ | refine below_alloc' ?_ _ | refine below_to' ?_ (by assumption)))⟩
      · go_enter Try.func52, Try.ntmps52
        go_wp2_with fail
        go_ret
        exact ⟨ret_bool (by rw [← HR.out]; simp; omega), by (repeat (first | exact Below.refl _ _ | assumption | refine Below.setCell ?_ (by first | (simp; done) | omega | (simp; omega) | (simp at *; omega)) _ | refine Below.drew ?_ | refine below_drewN ?_ _ | refine below_alloc' ?_ _ | refine below_to' ?_ (by assumption)))⟩
    · go_enter Try.func52, Try.ntmps52
      go_wp2_with fail
      go_ret
      exact ⟨ret_bool (by rw [← HR.out]; simp; omega), by (repeat (first | exact Below.refl _ _ | assumption | refine Below.setCell ?_ (by first | (simp; done) | omega | (simp; omega) | (simp at *; omega)) _ | refine Below.drew ?_ | refine below_drewN ?_ _ | refine below_alloc' ?_ _ | refine below_to' ?_ (by assumption)))⟩
  · go_enter Try.func52, Try.ntmps52
    go_wp2_with fail
    go_ret
    exact ⟨ret_bool (by rw [← HR.out]; simp; omega), by (repeat (first | exact Below.refl _ _ | assumption | refine Below.setCell ?_ (by first | (simp; done) | omega | (simp; omega) | (simp at *; omega)) _ | refine Below.drew ?_ | refine below_drewN ?_ _ | refine below_alloc' ?_ _ | refine below_to' ?_ (by assumption)))⟩
end Go.Proofs.Ytgclgcfhcomplaa
