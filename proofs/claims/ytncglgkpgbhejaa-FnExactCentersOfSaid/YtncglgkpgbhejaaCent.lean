/-
  Centers: plain laws; the reference's powers, bits and sums of the nearest.
-/
import Derived.Test.YtncglgkpgbhejaaGapsI
import Derived.Test.YtncglgkpgbhejaaOnes
namespace Go.Proofs.Ytncglgkpgbhejaa
open Go.RowKit

set_option maxHeartbeats 1000000 in
theorem ones_c (s : Nat) (w : World) (hs : s < 64) : Calls Try.prog 47 #[.int .u64 s] w fun e w' => e = .returned (.int .i64 (bitN s 6)) ∧ w = w' := by
  have K := hide fun w => ones64_c s w hs
  obtain ⟨b, hb⟩ : ∃ b, bitN s 6 = b := ⟨_, rfl⟩
  rw [hb] at K ⊢
  clear hb
  go_enter Try.func47, Try.ntmps47
  go_wp2_with fail
  refine (K.out _).mono ?_
  rintro e w1 ⟨rfl, rfl⟩
  go_wp2_with fail
  go_ret
  exact ⟨rfl, rfl⟩

theorem two_pow_le' {n : Nat} (h : n ≤ 6) : 2 ^ n ≤ 64 := Nat.pow_le_pow_right (by decide) h
set_option maxHeartbeats 1000000 in
theorem power_c (n : Nat) (w : World) (hn : n ≤ 6) : Calls Try.prog 44 #[.int .i64 n] w fun e w' => e = .returned (.int .i64 ((2 ^ n : Nat) : Int)) ∧ w = w' := by
  go_enter Try.func44, Try.ntmps44
  go_wp2
  go_loop [0, 3] (fun i p => ∃ k : Nat, k ≤ n ∧ i = .int .i64 ((n : Int) - k) ∧ p = .int .i64 ((2 ^ k : Nat) : Int)) (fun i _ => (intOf i).toNat)
  case atStart => exact ⟨0, Nat.zero_le _, by go_num, rfl⟩
  case round =>
    obtain ⟨k, hk, rfl, rfl⟩ := hrel
    by_cases hlt : k < n
    · have hp := two_pow_le' (n := k) (by omega)
      have HP : Hid (((2 ^ (k + 1) : Nat) : Int) = 2 * ((2 ^ k : Nat) : Int)) := by show _ = _; rw [Nat.pow_succ]; omega
      obtain ⟨P, hP⟩ : ∃ P, 2 ^ k = P := ⟨_, rfl⟩
      rw [hP] at hp HP ⊢
      clear hP
      go_wp2
      go_round
      case rel => exact ⟨k + 1, by omega, by go_num, by rw [HP.out]⟩
      case measure => simp [intOf]; omega
    · obtain rfl : k = n := by omega
      obtain ⟨P, hP⟩ : ∃ P, ((2 ^ k : Nat) : Int) = P := ⟨_, rfl⟩
      rw [hP]
      go_wp2
      go_ret
      exact ⟨rfl, rfl⟩
theorem bit_val (x j : Nat) : ((x : Int) / ((2 ^ j : Nat) : Int)) % 2 = b2i (x.testBit j) := by
  rw [Nat.testBit_eq_decide_div_mod_eq, b2i]
  have : ((x / 2 ^ j : Nat) : Int) = (x : Int) / ((2 ^ j : Nat) : Int) := Int.natCast_ediv ..
  rw [← this]
  generalize x / 2 ^ j = q
  rcases Nat.mod_two_eq_zero_or_one q with h | h
  · have h2 : (q : Int) % 2 = 0 := by omega
    simp [h, h2]
  · have h2 : (q : Int) % 2 = 1 := by omega
    simp [h, h2]
set_option maxHeartbeats 1000000 in
theorem bit_c (x j : Nat) (w : World) (hx : x ≤ 64) (hj : j ≤ 6) : Calls Try.prog 45 #[.int .i64 x, .int .i64 j] w fun e w' => e = .returned (.int .i64 (b2i (x.testBit j))) ∧ w = w' := by
  have K := hide fun w => power_c j w hj
  have HB := hide (bit_val x j)
  have hp := two_pow_le' hj
  have hp0 : 0 < 2 ^ j := Nat.two_pow_pos j
  obtain ⟨P, hP⟩ : ∃ P, 2 ^ j = P := ⟨_, rfl⟩
  rw [hP] at K HB hp hp0
  have hP0 : (P : Int) ≠ 0 := by omega
  have hP1 : ((P : Int) == 0) = false := by simp; omega
  have hq : 0 ≤ (x : Int) / (P : Int) ∧ (x : Int) / (P : Int) ≤ 64 := by
    refine ⟨Int.ediv_nonneg (by omega) (by omega), ?_⟩
    have : ((x / P : Nat) : Int) = (x : Int) / (P : Int) := Int.natCast_ediv ..
    have h2 := Nat.div_le_self x P
    omega
  clear hP
  go_enter Try.func45, Try.ntmps45
  go_wp2_with fail
  refine (K.out _).mono ?_
  rintro e w1 ⟨rfl, rfl⟩
  go_wp2_with fail
  go_ret
  refine ⟨ret_int ?_, rfl⟩
  rw [← HB.out]

/-- The nearest of the places below m that are in the set (40 where there is none), to thing a; the sum of these. -/
def nrN (xss : List (List Int)) (s a : Nat) : Nat → Int
  | 0 => 40
  | c + 1 => if s.testBit c then min (nrN xss s a c) (gp xss a c) else nrN xss s a c
def sbN (xss : List (List Int)) (s a : Nat) : Nat → Int
  | 0 => -1
  | c + 1 => if s.testBit c = true ∧ (sbN xss s a c < 0 ∨ gp xss a c < sbN xss s a c) then gp xss a c else sbN xss s a c
theorem nrN_bd {xss : List (List Int)} (h : okGaps xss = true) {s a m : Nat} (ha : a < xss.length) (hm : m ≤ xss.length) : 0 ≤ nrN xss s a m ∧ nrN xss s a m ≤ 40 := by
  induction m with
  | zero => simp [nrN]
  | succ m ih =>
    have := okGaps_bd h ha (show m < xss.length by omega)
    have := ih (by omega)
    simp only [nrN]
    split <;> omega
theorem sbN_nr {xss : List (List Int)} (h : okGaps xss = true) {s a m : Nat} (ha : a < xss.length) (hm : m ≤ xss.length) :
    (sbN xss s a m = -1 ∧ nrN xss s a m = 40 ∧ ∀ i, i < m → s.testBit i = false) ∨ (sbN xss s a m = nrN xss s a m ∧ ∃ i, i < m ∧ s.testBit i = true) := by
  induction m with
  | zero => exact .inl ⟨rfl, rfl, fun i hi => by omega⟩
  | succ m ih =>
    have hb := okGaps_bd h ha (show m < xss.length by omega)
    have hn := nrN_bd h (s := s) ha (show m ≤ xss.length by omega)
    simp only [nrN, sbN]
    rcases ih (by omega) with ⟨h1, h2, h3⟩ | ⟨h1, h2⟩
    · cases ht : s.testBit m
      · simp only [Bool.false_eq_true, false_and, if_false]
        exact .inl ⟨h1, h2, fun i hi => by
          by_cases e : i = m
          · subst e; exact ht
          · exact h3 i (by omega)⟩
      · right
        refine ⟨?_, m, by omega, ht⟩
        rw [if_pos ⟨rfl, by omega⟩]
        simp
        omega
    · obtain ⟨i, hi, hti⟩ := h2
      right
      refine ⟨?_, i, by omega, hti⟩
      cases ht : s.testBit m
      · simp [h1]
      · simp only [h1, true_and, if_true]
        by_cases c : gp xss a m < nrN xss s a m
        · rw [if_pos (by omega)]; omega
        · rw [if_neg (by omega)]; omega
theorem some_bit {s n : Nat} (h1 : 1 ≤ s) (h2 : s < 2 ^ n) : ∃ i, i < n ∧ s.testBit i = true := by
  obtain ⟨i, hi⟩ := Nat.exists_testBit_of_ne_zero (x := s) (by omega)
  refine ⟨i, ?_, hi⟩
  rcases Nat.lt_or_ge i n with h | h
  · exact h
  · have h3 : s < 2 ^ i := Nat.lt_of_lt_of_le h2 (Nat.pow_le_pow_right (by decide) h)
    rw [Nat.testBit_lt_two_pow h3] at hi
    cases hi
theorem sb_full {xss : List (List Int)} (h : okGaps xss = true) {s a : Nat} (ha : a < xss.length) (h1 : 1 ≤ s) (h2 : s < 2 ^ xss.length) : sbN xss s a xss.length = nrN xss s a xss.length := by
  rcases sbN_nr h (s := s) ha (Nat.le_refl _) with ⟨_, _, h3⟩ | ⟨h3, _⟩
  · obtain ⟨i, hi, ht⟩ := some_bit h1 h2
    rw [h3 i hi] at ht
    cases ht
  · exact h3
def nsN (xss : List (List Int)) (s m : Nat) : Int := sumTo (fun a => nrN xss s a xss.length) m
theorem nsN_succ (xss : List (List Int)) (s m : Nat) : nsN xss s (m + 1) = nsN xss s m + nrN xss s m xss.length := rfl
theorem nsN_bd {xss : List (List Int)} (h : okGaps xss = true) {s m : Nat} (hm : m ≤ xss.length) : 0 ≤ nsN xss s m ∧ nsN xss s m ≤ 40 * m := by
  induction m with
  | zero => exact ⟨Int.le_refl _, Int.le_refl _⟩
  | succ m ih =>
    have := ih (by omega)
    have := nrN_bd h (s := s) (a := m) (m := xss.length) (by omega) (Nat.le_refl _)
    rw [nsN_succ]
    omega
theorem bitN_full {s n : Nat} (hn : n ≤ 6) (h : s < 2 ^ n) : bitN s 6 = bitN s n := by
  have : ∀ k, n ≤ k → bitN s k = bitN s n := fun k hk => by
    induction k with
    | zero =>
      have e : n = 0 := by omega
      rw [e]
    | succ k ih =>
      by_cases e : n = k + 1
      · rw [e]
      · rw [bitN_succ, ih (by omega), Nat.testBit_lt_two_pow (Nat.lt_of_lt_of_le h (Nat.pow_le_pow_right (by decide) (show n ≤ k by omega)))]
        simp [b2i]
  exact this 6 hn
/-- The best set of those from 1 up to s, and its sum (-1 where there is none). -/
def ctN (xss : List (List Int)) (k : Int) : Nat → Int × Int
  | 0 => (-1, -1)
  | s + 1 => if bitN (s + 1) xss.length = k ∧ ((ctN xss k s).2 < 0 ∨ nsN xss (s + 1) xss.length < (ctN xss k s).2) then (((s + 1 : Nat) : Int), nsN xss (s + 1) xss.length) else ctN xss k s
theorem ctN_bd {xss : List (List Int)} (h : okGaps xss = true) (k : Int) (s : Nat) : ((ctN xss k s).1 < 0 ↔ (ctN xss k s).2 < 0) ∧ -1 ≤ (ctN xss k s).1 ∧ (ctN xss k s).1 ≤ s ∧ -1 ≤ (ctN xss k s).2 ∧ (ctN xss k s).2 ≤ 40 * xss.length := by
  induction s with
  | zero => simp [ctN]; omega
  | succ s ih =>
    have hb := nsN_bd h (s := s + 1) (Nat.le_refl _)
    simp only [ctN]
    split
    · refine ⟨⟨fun h => ?_, fun h => ?_⟩, ?_⟩ <;> simp at * <;> omega
    · obtain ⟨h1, h2, h3, h4⟩ := ih
      exact ⟨h1, h2, by omega, h4⟩
def centX (xss : List (List Int)) (k : Int) : Int × Int := if okGaps xss && (decide (1 ≤ k) && decide (k ≤ (xss.length : Int))) then ctN xss k (2 ^ xss.length - 1) else (-1, -1)
end Go.Proofs.Ytncglgkpgbhejaa
