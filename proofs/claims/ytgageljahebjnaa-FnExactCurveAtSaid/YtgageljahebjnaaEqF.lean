
/-
  Contract: the statements' own comparison of fractions.
-/
import Derived.Test.YtgageljahebjnaaHar
namespace Go.Proofs.Ytgageljahebjnaa
open Go.RowKit

set_option maxHeartbeats 400000 in
theorem eqFracP_same (a b : Int) (w : World) : Calls Try.prog 11 #[.agg #[.int .i64 a, .int .i64 b], .agg #[.int .i64 a, .int .i64 b]] w fun e w' => e = .returned (.bool true) ∧ Below w.heap.size w w' := by
  go_enter Try.func11, Try.ntmps11
  go_wp2
  go_ret
  refine ⟨rfl, ?_⟩
  (repeat (first | exact Below.refl _ _ | assumption | refine Below.setCell ?_ (by first | (simp; done) | omega | (simp; omega) | (simp at *; omega)) _ | refine Below.drew ?_ | refine below_drewN ?_ _ | refine below_alloc' ?_ _ | refine below_to' ?_ (by assumption)))
end Go.Proofs.Ytgageljahebjnaa
