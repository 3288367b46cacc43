/-
  Contracts: is a number in a range.
-/
import Derived.Test.YtncglgkpgbhejaaHar
import Derived.Test.YtncglgkpgbhejaaVal
namespace Go.Proofs.Ytncglgkpgbhejaa
open Go.RowKit

set_option maxHeartbeats 400000 in
theorem inRange_c (b : Bool) (n lo hi : Int) (w : World) (hb : (decide (lo ≤ n) && decide (n ≤ hi)) = b) :
    Calls Try.prog 35 #[.int .i64 n, .int .i64 lo, .int .i64 hi] w fun e w' => e = .returned (.bool b) ∧ w = w' := by
  subst hb
  by_cases h : lo ≤ n
  all_goals
    go_enter Try.func35, Try.ntmps35
    go_wp2
    go_ret
    exact ⟨ret_bool (by simp; omega), rfl⟩

set_option maxHeartbeats 400000 in
theorem in_c (b : Bool) (n lo hi : Int) (w : World) (hb : (decide (lo ≤ n) && decide (n ≤ hi)) = b) :
    Calls Try.prog 37 #[.int .i64 n, .int .i64 lo, .int .i64 hi] w fun e w' => e = .returned (.bool b) ∧ w = w' := by
  subst hb
  by_cases h : lo ≤ n
  all_goals
    go_enter Try.func37, Try.ntmps37
    go_wp2
    go_ret
    exact ⟨ret_bool (by simp; omega), rfl⟩

end Go.Proofs.Ytncglgkpgbhejaa
