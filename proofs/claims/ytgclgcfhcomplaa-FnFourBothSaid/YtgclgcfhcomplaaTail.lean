/-
  Contracts: how many sets there are, powers, the ways of just so many hits, in the program and in its reference.
-/
import Derived.Test.YtgclgcfhcomplaaIn
import Derived.Test.YtgclgcfhcomplaaPasc
namespace Go.Proofs.Ytgclgcfhcomplaa
open Go.RowKit

theorem pasc_bd32 {n : Nat} (h : n ≤ 32) (k : Nat) : 0 ≤ pasc n k ∧ pasc n k ≤ 4294967296 := by
  have h1 := pasc_bd n k
  have h2 : 2 ^ n ≤ 2 ^ 32 := Nat.pow_le_pow_right (n := 2) (by omega) h
  omega

set_option maxHeartbeats 1000000 in
theorem chooseS_c (n k : Nat) (w : World) (hn : n ≤ 32) (hk : k ≤ n) : Calls Try.prog 64 #[.int .i64 n, .int .i64 k] w fun e w' => e = .returned (.int .i64 (pasc n k)) ∧ w = w' := by
  go_enter Try.func64, Try.ntmps64
  go_wp2
  go_loop [5, 6] (fun o i => ∃ j : Nat, j ≤ k ∧ i = .int .i64 j ∧ o = .int .i64 (pasc n j)) (fun _ i => k - (intOf i).toNat)
  case atStart => exact ⟨0, Nat.zero_le _, rfl, by rw [pasc_zero]⟩
  case round =>
    obtain ⟨j, hj, rfl, rfl⟩ := hrel
    by_cases hlt : j < k
    · have hO := pasc_bd32 hn j
      have hO2 := pasc_bd32 hn (j + 1)
      have hq := pasc_step n j
      obtain ⟨O, hO'⟩ : ∃ O, pasc n j = O := ⟨_, rfl⟩
      obtain ⟨O2, hO2'⟩ : ∃ O, pasc n (j + 1) = O := ⟨_, rfl⟩
      rw [hO'] at hO hq ⊢
      rw [hO2'] at hO2 hq
      have HO2 := hide hO2'
      have hm := mul_pos_bd (a := O) (b := (n : Int) - j) (m := 4294967296) (n := 32) hO (by omega)
      clear hO' hO2'
      go_wp2
      go_round
      case rel => exact ⟨j + 1, by omega, by go_num, by rw [HO2.out]⟩
      case measure => simp [intOf]; omega
    · obtain rfl : j = k := by omega
      obtain ⟨O, hO'⟩ : ∃ O, pasc n j = O := ⟨_, rfl⟩
      rw [hO']
      have HO' := hide hO'
      clear hO'
      go_wp2
      go_ret
      exact ⟨ret_int HO'.out.symm, rfl⟩

set_option maxHeartbeats 1000000 in
theorem chooseL_c (n k : Nat) (w : World) (hn : n ≤ 32) (hk : k ≤ n) : Calls Try.prog 22 #[.int .i64 n, .int .i64 k] w fun e w' => e = .returned (.int .i64 (pasc n k)) ∧ w = w' := by
  go_enter Try.func22, Try.ntmps22
  go_wp2
  go_loop [5, 6] (fun o i => ∃ j : Nat, j ≤ k ∧ i = .int .i64 j ∧ o = .int .i64 (pasc n j)) (fun _ i => k - (intOf i).toNat)
  case atStart => exact ⟨0, Nat.zero_le _, rfl, by rw [pasc_zero]⟩
  case round =>
    obtain ⟨j, hj, rfl, rfl⟩ := hrel
    by_cases hlt : j < k
    · have hO := pasc_bd32 hn j
      have hO2 := pasc_bd32 hn (j + 1)
      have hq := pasc_step n j
      obtain ⟨O, hO'⟩ : ∃ O, pasc n j = O := ⟨_, rfl⟩
      obtain ⟨O2, hO2'⟩ : ∃ O, pasc n (j + 1) = O := ⟨_, rfl⟩
      rw [hO'] at hO hq ⊢
      rw [hO2'] at hO2 hq
      have HO2 := hide hO2'
      have hm := mul_pos_bd (a := O) (b := (n : Int) - j) (m := 4294967296) (n := 32) hO (by omega)
      clear hO' hO2'
      go_wp2
      go_round
      case rel => exact ⟨j + 1, by omega, by go_num, by rw [HO2.out]⟩
      case measure => simp [intOf]; omega
    · obtain rfl : j = k := by omega
      obtain ⟨O, hO'⟩ : ∃ O, pasc n j = O := ⟨_, rfl⟩
      rw [hO']
      have HO' := hide hO'
      clear hO'
      go_wp2
      go_ret
      exact ⟨ret_int HO'.out.symm, rfl⟩

set_option maxHeartbeats 1000000 in
theorem chooseI_c (n k : Nat) (w : World) (hn : n ≤ 32) (hk : k ≤ n) : Calls Try.prog 83 #[.int .i64 n, .int .i64 k] w fun e w' => e = .returned (.int .i64 (pasc n k)) ∧ w = w' := by
  obtain ⟨d, hd⟩ : ∃ d, n - k = d := ⟨_, rfl⟩
  have hnk : (n : Int) - (k : Int) = (d : Int) := by omega
  have HD : Hid (d + k = n) := by show _ = _; omega
  have hdn : d ≤ n - k ∧ n ≤ d + k := by omega
  clear hd
  go_enter Try.func83, Try.ntmps83
  go_wp2_with (go_at_call 56; refine (in_c true _ _ _ _ (by simp; omega)).mono ?_; rintro e w' ⟨rfl, rfl⟩)
  go_loop [5, 6] (fun o i => ∃ j : Nat, j ≤ k ∧ i = .int .i64 ((j : Int) + 1) ∧ o = .int .i64 (pasc (d + j) j)) (fun _ i => k + 1 - (intOf i).toNat)
  case atStart => exact ⟨0, Nat.zero_le _, rfl, by rw [pasc_zero]⟩
  case round =>
    obtain ⟨j, hj, rfl, rfl⟩ := hrel
    by_cases hlt : j < k
    · have hO := pasc_bd32 (n := d + j) (by omega) j
      have hO2 := pasc_bd32 (n := d + j + 1) (by omega) (j + 1)
      have hq := pasc_step2 (d + j) j
      obtain ⟨O, hO'⟩ : ∃ O, pasc (d + j) j = O := ⟨_, rfl⟩
      obtain ⟨O2, hO2'⟩ : ∃ O, pasc (d + j + 1) (j + 1) = O := ⟨_, rfl⟩
      rw [hO'] at hO hq ⊢
      rw [hO2'] at hO2 hq
      rw [show ((d + j : Nat) : Int) + 1 = (d : Int) + ((j : Int) + 1) from by omega] at hq
      have HO2 := hide hO2'
      have hm := mul_pos_bd (a := O) (b := (d : Int) + ((j : Int) + 1)) (m := 4294967296) (n := 33) hO (by omega)
      clear hO' hO2'
      go_wp2
      go_round
      case rel => exact ⟨j + 1, by omega, by go_num, by rw [← HO2.out]; rfl⟩
      case measure => simp [intOf]; omega
    · obtain rfl : j = k := by omega
      have HF : Hid (pasc (d + j) j = pasc n j) := by show _ = _; rw [HD.out]
      rw [HF.out]
      obtain ⟨O, hO'⟩ : ∃ O, pasc n j = O := ⟨_, rfl⟩
      rw [hO']
      have HO' := hide hO'
      clear hO'
      go_wp2
      go_ret
      exact ⟨ret_int HO'.out.symm, rfl⟩

theorem powN_bd12 {x : Int} (h : 0 ≤ x ∧ x ≤ 12) {n : Nat} (hn : n ≤ 10) : 0 ≤ powN x n ∧ powN x n ≤ 61917364224 := by
  have h1 := powN_bd (m := 12) h n
  have h2 : 12 ^ n ≤ 12 ^ 10 := Nat.pow_le_pow_right (n := 12) (by omega) hn
  omega

set_option maxHeartbeats 1000000 in
theorem raiseS_c (x : Int) (n : Nat) (w : World) (hx : 0 ≤ x ∧ x ≤ 12) (hn : n ≤ 10) : Calls Try.prog 68 #[.int .i64 x, .int .i64 n] w fun e w' => e = .returned (.int .i64 (powN x n)) ∧ w = w' := by
  go_enter Try.func68, Try.ntmps68
  go_wp2
  go_loop [1, 5] (fun i o => ∃ j : Nat, j ≤ n ∧ i = .int .i64 ((n : Int) - j) ∧ o = .int .i64 (powN x j)) (fun i _ => (intOf i).toNat)
  case atStart => exact ⟨0, Nat.zero_le _, by go_num, rfl⟩
  case round =>
    obtain ⟨j, hj, rfl, rfl⟩ := hrel
    by_cases hlt : j < n
    · have h2 := powN_bd12 hx (n := j + 1) (by omega)
      have HS := hide (powN_succ x j)
      obtain ⟨P, hP⟩ : ∃ P, powN x j = P := ⟨_, rfl⟩
      rw [HS.out, hP] at h2
      rw [hP] at HS ⊢
      clear hP
      go_wp2
      go_round
      case rel => exact ⟨j + 1, by omega, by go_num, by rw [HS.out]⟩
      case measure => simp [intOf]; omega
    · obtain rfl : j = n := by omega
      obtain ⟨P, hP⟩ : ∃ P, powN x j = P := ⟨_, rfl⟩
      rw [hP]
      have HP' := hide hP
      clear hP
      go_wp2
      go_ret
      exact ⟨ret_int HP'.out.symm, rfl⟩
set_option maxHeartbeats 1000000 in
theorem raisedL_c (x : Int) (n : Nat) (w : World) (hx : 0 ≤ x ∧ x ≤ 12) (hn : n ≤ 10) : Calls Try.prog 21 #[.int .i64 x, .int .i64 n] w fun e w' => e = .returned (.int .i64 (powN x n)) ∧ w = w' := by
  go_enter Try.func21, Try.ntmps21
  go_wp2
  go_loop [1, 5] (fun i o => ∃ j : Nat, j ≤ n ∧ i = .int .i64 ((n : Int) - j) ∧ o = .int .i64 (powN x j)) (fun i _ => (intOf i).toNat)
  case atStart => exact ⟨0, Nat.zero_le _, by go_num, rfl⟩
  case round =>
    obtain ⟨j, hj, rfl, rfl⟩ := hrel
    by_cases hlt : j < n
    · have h2 := powN_bd12 hx (n := j + 1) (by omega)
      have HS := hide (powN_succ x j)
      obtain ⟨P, hP⟩ : ∃ P, powN x j = P := ⟨_, rfl⟩
      rw [HS.out, hP] at h2
      rw [hP] at HS ⊢
      clear hP
      go_wp2
      go_round
      case rel => exact ⟨j + 1, by omega, by go_num, by rw [HS.out]⟩
      case measure => simp [intOf]; omega
    · obtain rfl : j = n := by omega
      obtain ⟨P, hP⟩ : ∃ P, powN x j = P := ⟨_, rfl⟩
      rw [hP]
      have HP' := hide hP
      clear hP
      go_wp2
      go_ret
      exact ⟨ret_int HP'.out.symm, rfl⟩

set_option maxHeartbeats 1000000 in
theorem powerI_c (x : Int) (n : Nat) (w : World) (hx : 0 ≤ x ∧ x ≤ 12) (hn : n ≤ 10) : Calls Try.prog 71 #[.int .i64 x, .int .i64 n] w fun e w' => e = .returned (.int .i64 (powN x n)) ∧ w = w' := by
  go_enter Try.func71, Try.ntmps71
  go_wp2
  go_loop [5, 7] (fun o i => ∃ j : Nat, j ≤ n ∧ i = .int .i64 j ∧ o = .int .i64 (powN x j)) (fun _ i => n - (intOf i).toNat)
  case atStart => exact ⟨0, Nat.zero_le _, rfl, rfl⟩
  case round =>
    obtain ⟨j, hj, rfl, rfl⟩ := hrel
    by_cases hlt : j < n
    · have h2 := powN_bd12 hx (n := j + 1) (by omega)
      have HS := hide (powN_succ x j)
      obtain ⟨P, hP⟩ : ∃ P, powN x j = P := ⟨_, rfl⟩
      rw [HS.out, hP] at h2
      rw [hP] at HS ⊢
      clear hP
      go_wp2
      go_round
      case rel => exact ⟨j + 1, by omega, by go_num, by rw [HS.out]⟩
      case measure => simp [intOf]; omega
    · obtain rfl : j = n := by omega
      obtain ⟨P, hP⟩ : ∃ P, powN x j = P := ⟨_, rfl⟩
      rw [hP]
      have HP' := hide hP
      clear hP
      go_wp2
      go_ret
      exact ⟨ret_int HP'.out.symm, rfl⟩

theorem termN_bd {u w : Int} (hu : 0 ≤ u) (hw : 0 ≤ w) (hs : u + w ≤ 12) {n : Nat} (hn : n ≤ 10) (k : Nat) (hk : k ≤ n) : 0 ≤ termN n k u w ∧ termN n k u w ≤ powN (u + w) n ∧ 0 ≤ pasc n k * powN u k ∧ pasc n k * powN u k ≤ 63403380965376 := by
  have h0 := fun i => termN_nonneg hu hw n i
  have hle : ∀ m, k < m → termN n k u w ≤ sumTo (fun k => termN n k u w) m := by
    intro m
    induction m with
    | zero => omega
    | succ m ih =>
      intro h
      rw [sumTo_succ]
      by_cases hkm : k = m
      · subst hkm
        have := sumTo_zero_le (f := fun k => termN n k u w) (n := k) fun i _ => h0 i
        omega
      · have := ih (by omega)
        have := h0 m
        omega
  have h1 := hle (n + 1) (by omega)
  rw [binom] at h1
  have hp := pasc_bd n k
  have h2 : 2 ^ n ≤ 2 ^ 10 := Nat.pow_le_pow_right (n := 2) (by omega) hn
  have hq := powN_bd12 (x := u) (by omega) (n := k) (by omega)
  have := mul_pos_bd (a := pasc n k) (b := powN u k) (m := 1024) (n := 61917364224) (by omega) hq
  exact ⟨h0 k, h1, by omega, by omega⟩

set_option maxHeartbeats 1000000 in
theorem termS_c (n k : Nat) (u v : Int) (w : World) (hn : n ≤ 10) (hk : k ≤ n) (hu : 0 ≤ u) (huv : u ≤ v) (hv : v ≤ 12) : Calls Try.prog 72 #[.int .i64 n, .int .i64 k, .int .i64 u, .int .i64 v] w fun e w' => e = .returned (.int .i64 (termN n k u (v - u))) ∧ w = w' := by
  have hb := termN_bd (u := u) (w := v - u) hu (by omega) (by omega) hn k hk
  have hpw := powN_bd12 (x := u + (v - u)) (by omega) (n := n) hn
  have hT : termN n k u (v - u) = pasc n k * powN u k * powN (v - u) (n - k) := rfl
  rw [hT] at hb ⊢
  have hnk : (n : Int) - (k : Int) = ((n - k : Nat) : Int) := by omega
  obtain ⟨C, hC⟩ : ∃ C, pasc n k = C := ⟨_, rfl⟩
  obtain ⟨P, hP⟩ : ∃ P, powN u k = P := ⟨_, rfl⟩
  obtain ⟨Q, hQ⟩ : ∃ Q, powN (v - u) (n - k) = Q := ⟨_, rfl⟩
  obtain ⟨M, hM⟩ : ∃ M, powN (u + (v - u)) n = M := ⟨_, rfl⟩
  rw [hC, hP, hQ, hM] at hb
  rw [hM] at hpw
  rw [hC, hP, hQ]
  have HC := hide hC
  have HP := hide hP
  have HQ := hide hQ
  clear hT hC hP hQ hM
  go_enter Try.func72, Try.ntmps72
  go_wp2_with fail
  refine (chooseS_c n k _ (by omega) hk).mono ?_
  rw [HC.out]
  rintro e w' ⟨rfl, rfl⟩
  go_wp2_with fail
  refine (raiseS_c u k _ (by omega) (by omega)).mono ?_
  rw [HP.out]
  rintro e w' ⟨rfl, rfl⟩
  go_wp2_with fail
  refine (raiseS_c (v - u) (n - k) _ (by omega) (by omega)).mono ?_
  rw [HQ.out]
  rintro e w' ⟨rfl, rfl⟩
  go_wp2_with fail
  go_ret
  exact ⟨rfl, rfl⟩

set_option maxHeartbeats 1000000 in
theorem exactI_c (n k : Nat) (u v : Int) (w : World) (hn : n ≤ 10) (hk : k ≤ n) (hu : 0 ≤ u) (huv : u ≤ v) (hv : v ≤ 12) : Calls Try.prog 77 #[.int .i64 n, .int .i64 k, .int .i64 u, .int .i64 v] w fun e w' => e = .returned (.int .i64 (termN n k u (v - u))) ∧ w = w' := by
  have hb := termN_bd (u := u) (w := v - u) hu (by omega) (by omega) hn k hk
  have hpw := powN_bd12 (x := u + (v - u)) (by omega) (n := n) hn
  have hT : termN n k u (v - u) = pasc n k * powN u k * powN (v - u) (n - k) := rfl
  rw [hT] at hb ⊢
  have hnk : (n : Int) - (k : Int) = ((n - k : Nat) : Int) := by omega
  obtain ⟨C, hC⟩ : ∃ C, pasc n k = C := ⟨_, rfl⟩
  obtain ⟨P, hP⟩ : ∃ P, powN u k = P := ⟨_, rfl⟩
  obtain ⟨Q, hQ⟩ : ∃ Q, powN (v - u) (n - k) = Q := ⟨_, rfl⟩
  obtain ⟨M, hM⟩ : ∃ M, powN (u + (v - u)) n = M := ⟨_, rfl⟩
  rw [hC, hP, hQ, hM] at hb
  rw [hM] at hpw
  rw [hC, hP, hQ]
  have HC := hide hC
  have HP := hide hP
  have HQ := hide hQ
  clear hT hC hP hQ hM
  go_enter Try.func77, Try.ntmps77
  go_wp2_with fail
  refine (chooseI_c n k _ (by omega) hk).mono ?_
  rw [HC.out]
  rintro e w' ⟨rfl, rfl⟩
  go_wp2_with fail
  refine (powerI_c u k _ (by omega) (by omega)).mono ?_
  rw [HP.out]
  rintro e w' ⟨rfl, rfl⟩
  go_wp2_with fail
  refine (powerI_c (v - u) (n - k) _ (by omega) (by omega)).mono ?_
  rw [HQ.out]
  rintro e w' ⟨rfl, rfl⟩
  go_wp2_with fail
  go_ret
  exact ⟨rfl, rfl⟩
end Go.Proofs.Ytgclgcfhcomplaa
