/-
  Contracts: choose, and the choices of at least a sum, of the reference.
-/
import Derived.Test.YtipmakmidadalaaPickP
namespace Go.Proofs.Ytipmakmidadalaa
open Go.RowKit

theorem chooseTo_succ (n : Int) (i : Nat) : chooseTo n (i + 1) = chooseTo n i * (n - i) / (i + 1) := rfl
set_option maxHeartbeats 1000000 in
theorem chooseS_c (n k : Nat) (w : World) (hn : n ≤ 10) (hk : k ≤ n) : Calls Try.prog 62 #[.int .i64 n, .int .i64 k] w fun e w' => e = .returned (.int .i64 (pasc n k)) ∧ w = w' := by
  have HC := hide fun i (hi : i ≤ n) => choose_pasc n hn i hi
  have hkn : ¬ ((n : Int) < (k : Int)) := by omega
  go_enter Try.func62, Try.ntmps62
  go_wp2_with fail
  go_loop [5, 6] (fun o i => ∃ j : Nat, j ≤ k ∧ i = .int .i64 j ∧ o = .int .i64 (chooseTo n j)) (fun _ i => k - (intOf i).toNat)
  case atStart => exact ⟨0, Nat.zero_le _, rfl, rfl⟩
  case round =>
    obtain ⟨j, hj, rfl, rfl⟩ := hrel
    by_cases hlt : j < k
    · skip
      have hc0 := HC.out j (by omega)
      have HS : Hid (chooseTo n (j + 1) = chooseTo n j * ((n : Int) - j) / ((j : Int) + 1)) := rfl
      have hcb : 0 ≤ chooseTo n j ∧ chooseTo n j ≤ 252 := by rw [hc0.1]; exact hc0.2.2
      obtain ⟨C, hC⟩ : ∃ C, chooseTo n j = C := ⟨_, rfl⟩
      rw [hC] at hcb HS ⊢
      clear hC hc0
      have hm : 0 ≤ C * ((n : Int) - j) ∧ C * ((n : Int) - j) ≤ 252 * 10 := ⟨Int.mul_nonneg hcb.1 (by omega), Int.mul_le_mul hcb.2 (by omega) (by omega) (by omega)⟩
      have hj1 : ((j : Int) + 1 == 0) = false := beq_eq_false_iff_ne.2 (by omega)
      have hjk : (j : Int) < (k : Int) := by omega
      obtain ⟨M, hM⟩ : ∃ M, C * ((n : Int) - j) = M := ⟨_, rfl⟩
      rw [hM] at hm HS
      have e1 : IntKind.i64.wrap ((n : Int) - j) = (n : Int) - j := IntWalk.i64_in _ (by omega)
      have e2 : IntKind.i64.wrap (C * ((n : Int) - j)) = M := by rw [hM]; exact IntWalk.i64_in _ (by omega)
      have e3 : IntKind.i64.wrap ((j : Int) + 1) = (j : Int) + 1 := IntWalk.i64_in _ (by omega)
      have hq : 0 ≤ M / ((j : Int) + 1) ∧ M / ((j : Int) + 1) ≤ M := ⟨Int.ediv_nonneg hm.1 (by omega), Int.ediv_le_self _ hm.1⟩
      have hqt : M.tdiv ((j : Int) + 1) = M / ((j : Int) + 1) := Int.tdiv_eq_ediv_of_nonneg hm.1
      obtain ⟨Q, hQ⟩ : ∃ Q, M / ((j : Int) + 1) = Q := ⟨_, rfl⟩
      rw [hQ] at hq HS hqt
      have e4 : IntKind.i64.wrap Q = Q := IntWalk.i64_in _ (by omega)
      clear hM hQ
      go_wp2_with fail
      clear e1 e2 e3 e4 hqt
      go_round
      case rel => exact ⟨j + 1, by omega, by go_num, by rw [HS.out]⟩
      case measure => simp [intOf]; omega
    · obtain rfl : j = k := by omega
      go_wp2_with fail
      go_ret
      exact ⟨by rw [(HC.out j hk).1]; rfl, rfl⟩
set_option maxHeartbeats 1000000 in
theorem chooseL_c (n k : Nat) (w : World) (hn : n ≤ 10) (hk : k ≤ n) : Calls Try.prog 39 #[.int .i64 n, .int .i64 k] w fun e w' => e = .returned (.int .i64 (pasc n k)) ∧ w = w' := by
  have HC := hide fun i (hi : i ≤ n) => choose_pasc n hn i hi
  go_enter Try.func39, Try.ntmps39
  go_wp2_with fail
  go_loop [5, 6] (fun o i => ∃ j : Nat, j ≤ k ∧ i = .int .i64 j ∧ o = .int .i64 (chooseTo n j)) (fun _ i => k - (intOf i).toNat)
  case atStart => exact ⟨0, Nat.zero_le _, rfl, rfl⟩
  case round =>
    obtain ⟨j, hj, rfl, rfl⟩ := hrel
    by_cases hlt : j < k
    · skip
      have hc0 := HC.out j (by omega)
      have HS : Hid (chooseTo n (j + 1) = chooseTo n j * ((n : Int) - j) / ((j : Int) + 1)) := rfl
      have hcb : 0 ≤ chooseTo n j ∧ chooseTo n j ≤ 252 := by rw [hc0.1]; exact hc0.2.2
      obtain ⟨C, hC⟩ : ∃ C, chooseTo n j = C := ⟨_, rfl⟩
      rw [hC] at hcb HS ⊢
      clear hC hc0
      have hm : 0 ≤ C * ((n : Int) - j) ∧ C * ((n : Int) - j) ≤ 252 * 10 := ⟨Int.mul_nonneg hcb.1 (by omega), Int.mul_le_mul hcb.2 (by omega) (by omega) (by omega)⟩
      have hj1 : ((j : Int) + 1 == 0) = false := beq_eq_false_iff_ne.2 (by omega)
      have hjk : (j : Int) < (k : Int) := by omega
      obtain ⟨M, hM⟩ : ∃ M, C * ((n : Int) - j) = M := ⟨_, rfl⟩
      rw [hM] at hm HS
      have e1 : IntKind.i64.wrap ((n : Int) - j) = (n : Int) - j := IntWalk.i64_in _ (by omega)
      have e2 : IntKind.i64.wrap (C * ((n : Int) - j)) = M := by rw [hM]; exact IntWalk.i64_in _ (by omega)
      have e3 : IntKind.i64.wrap ((j : Int) + 1) = (j : Int) + 1 := IntWalk.i64_in _ (by omega)
      have hq : 0 ≤ M / ((j : Int) + 1) ∧ M / ((j : Int) + 1) ≤ M := ⟨Int.ediv_nonneg hm.1 (by omega), Int.ediv_le_self _ hm.1⟩
      have hqt : M.tdiv ((j : Int) + 1) = M / ((j : Int) + 1) := Int.tdiv_eq_ediv_of_nonneg hm.1
      obtain ⟨Q, hQ⟩ : ∃ Q, M / ((j : Int) + 1) = Q := ⟨_, rfl⟩
      rw [hQ] at hq HS hqt
      have e4 : IntKind.i64.wrap Q = Q := IntWalk.i64_in _ (by omega)
      clear hM hQ
      go_wp2_with fail
      clear e1 e2 e3 e4 hqt
      go_round
      case rel => exact ⟨j + 1, by omega, by go_num, by rw [HS.out]⟩
      case measure => simp [intOf]; omega
    · obtain rfl : j = k := by omega
      go_wp2_with fail
      go_ret
      exact ⟨by rw [(HC.out j hk).1]; rfl, rfl⟩
end Go.Proofs.Ytipmakmidadalaa
