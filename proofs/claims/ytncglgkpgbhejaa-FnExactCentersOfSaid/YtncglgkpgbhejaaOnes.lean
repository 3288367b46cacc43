/-
  Contracts: how many bits of a small number are set.
-/
import Derived.Test.YtncglgkpgbhejaaSS
namespace Go.Proofs.Ytncglgkpgbhejaa
open Go.RowKit

/-- A Bool as a number. -/
def b2i (b : Bool) : Int := if b then 1 else 0
theorem b2i_bd (b : Bool) : 0 ≤ b2i b ∧ b2i b ≤ 1 := by cases b <;> simp [b2i]
/-- How many of the places below k are in the set s. -/
def bitN (s k : Nat) : Int := sumTo (fun i => b2i (s.testBit i)) k
theorem bitN_succ (s k : Nat) : bitN s (k + 1) = bitN s k + b2i (s.testBit k) := rfl
theorem bitN_bd (s k : Nat) : 0 ≤ bitN s k ∧ bitN s k ≤ k := by
  induction k with
  | zero => exact ⟨Int.le_refl _, Int.le_refl _⟩
  | succ k ih => rw [bitN_succ]; have := b2i_bd (s.testBit k); omega

set_option maxHeartbeats 1000000 in
theorem ones64_c (s : Nat) (w : World) (hs : s < 64) : Calls Try.prog 50 #[.int .u64 s] w fun e w' => e = .returned (.int .i64 (bitN s 6)) ∧ w = w' := by
  go_enter Try.func50, Try.ntmps50
  go_wp2
  go_ret
  refine ⟨ret_int ?_, rfl⟩
  clear w
  revert hs
  revert s
  decide +kernel
end Go.Proofs.Ytncglgkpgbhejaa
