/-
  Contracts: what data are (at most ten numbers of size at most 200), the sign of a number, sums, and twice the ranks, in the program and in its reference.
-/
import Derived.Test.YtcmjmnlccempfaaIn
namespace Go.Proofs.Ytcmjmnlccempfaa
open Go.RowKit

def okData (xs : List Int) : Bool := allB (-200) 200 xs && decide (xs.length ≤ 10)
theorem okData_all {xs : List Int} (h : okData xs = true) : allB (-200) 200 xs = true ∧ xs.length ≤ 10 := by simpa [okData] using h

set_option maxHeartbeats 400000 in
theorem validData_c (v : Value) (xs : List Int) (b : Bool) (w : World) (hr : Rd w v xs) (hb : okData xs = b) :
    Calls Try.prog 48 #[v] w fun e w' => e = .returned (.bool b) ∧ w = w' := by
  obtain ⟨A, c, rfl, hc, hm, hcell⟩ := hr
  go_enter Try.func48, Try.ntmps48
  go_wp2
  go_loop [3] (fun i => ∃ k : Nat, k ≤ xs.length ∧ i = .int .i64 k ∧ allB (-200) 200 (xs.take k) = true) (fun i => xs.length - (intOf i).toNat)
  case atStart => exact ⟨0, Nat.zero_le _, rfl, rfl⟩
  case round =>
    obtain ⟨k, hk, rfl, hall⟩ := hrel
    by_cases hlt : k < xs.length
    · obtain ⟨g, off, rfl, hg, hcl⟩ := hcell (by omega)
      have hck : w.cell? ⟨g, off + k, none⟩ = some (.int .i64 xs[k]) := by rw [hcl k hlt, getD_lt hlt]
      clear hcl hcell
      have HA := hide hall
      have HB := hide hb
      clear hall hb
      by_cases h1 : -200 ≤ xs[k] ∧ xs[k] ≤ 200
      · obtain ⟨h1, h2⟩ := h1
        go_wp2_with (go_at_call 43; refine (inRange_c true _ _ _ _ (by simp; omega)).mono ?_; rintro e w' ⟨rfl, rfl⟩)
        go_round
        case rel => exact ⟨k + 1, by omega, by go_num, allB_take_succ hlt HA.out h1 h2⟩
        case measure => simp [intOf]; omega
      · go_wp2_with (go_at_call 43; refine (inRange_c false _ _ _ _ (by simp; omega)).mono ?_; rintro e w' ⟨rfl, rfl⟩)
        go_ret
        refine ⟨ret_bool ?_, rfl⟩
        rw [← HB.out, okData, allB_no hlt (by omega)]
        rfl
    · have hfin : Hid (decide ((xs.length : Int) ≤ 10) = b) := by
        obtain rfl : k = xs.length := by omega
        rw [List.take_length] at hall
        show _ = _
        rw [← hb, okData, hall, Bool.true_and]
        congr 1; simp; omega
      have HB := hide hb
      clear hb hall
      by_cases h10 : xs.length ≤ 10
      all_goals
        go_wp2
        go_ret
        exact ⟨ret_bool (by first | (rw [← hfin.out]; done) | (rw [← hfin.out]; simp; done) | (rw [← hfin.out]; simp; omega)), rfl⟩

set_option maxHeartbeats 400000 in
theorem ValidData_c (v : Value) (xs : List Int) (b : Bool) (w : World) (hr : Rd w v xs) (hb : okData xs = b) :
    Calls Try.prog 50 #[v] w fun e w' => e = .returned (.bool b) ∧ Below w.heap.size w w' := by
  have hr' := hr
  obtain ⟨A, c, rfl, hc, hm, hcell⟩ := hr
  clear hcell
  by_cases hl : xs.length ≤ 10
  · have HB : Hid (allB (-200) 200 xs = b) := by
      show _ = _
      rw [← hb, okData]
      simp [hl]
    clear hb
    go_enter Try.func50, Try.ntmps50
    go_wp2_with (go_at_call 27; refine (allIn_c _ xs (-200) 200 b _ hr' HB.out).mono ?_; rintro e w' ⟨rfl, hb1⟩)
    go_ret
    exact ⟨rfl, by assumption⟩
  · have HB : Hid (b = false) := by
      show _ = _
      rw [← hb, okData]
      simp
      omega
    clear hb
    go_enter Try.func50, Try.ntmps50
    go_wp2
    go_ret
    exact ⟨ret_bool HB.out.symm, Below.refl _ _⟩

/-- A contract of a callee that leaves the world as it is, for a region that draws. -/
theorem quiet_eq {P : Program} {f : FuncId} {args : Array Value} {w : World} {n : Nat} {v : Value} (h : Calls P f args (w.drewN n) fun e w' => e = .returned v ∧ w.drewN n = w') :
    Calls P f args (w.drewN n) fun e w'' => e = .returned v ∧ ∃ m, w'' = w.drewN m := h.mono fun _ _ ⟨he, hm⟩ => ⟨he, n, hm.symm⟩

/-- The sign of a number. -/
def sgn (n : Int) : Int := if 0 < n then 1 else if n < 0 then -1 else 0
theorem sgn_bd (n : Int) : -1 ≤ sgn n ∧ sgn n ≤ 1 := by unfold sgn; split <;> (try split) <;> omega

set_option maxHeartbeats 400000 in
theorem signI_c (n : Int) (w : World) (hn : -1000000 ≤ n ∧ n ≤ 1000000) : Calls Try.prog 40 #[.int .i64 n] w fun e w' => e = .returned (.int .i64 (sgn n)) ∧ w = w' := by
  by_cases h1 : 0 < n
  all_goals by_cases h2 : n < 0
  all_goals
    go_enter Try.func40, Try.ntmps40
    go_wp2
    go_ret
    exact ⟨ret_int (by simp only [sgn]; repeat split <;> omega), rfl⟩

set_option maxHeartbeats 400000 in
theorem signS_c (n : Int) (w : World) (hn : -1000000 ≤ n ∧ n ≤ 1000000) : Calls Try.prog 56 #[.int .i64 n] w fun e w' => e = .returned (.int .i64 (sgn n)) ∧ w = w' := by
  by_cases h1 : 0 < n
  all_goals by_cases h2 : n < 0
  all_goals
    go_enter Try.func56, Try.ntmps56
    go_wp2
    go_ret
    exact ⟨ret_int (by simp only [sgn]; repeat split <;> omega), rfl⟩
end Go.Proofs.Ytcmjmnlccempfaa
