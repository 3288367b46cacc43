/-
  Contracts: FlipChance of the program and of its reference.
-/
import Derived.Test.YtipmakmidadalaaRank
import Derived.Test.YtipmakmidadalaaComb
namespace Go.Proofs.Ytipmakmidadalaa
open Go.RowKit

theorem flipsN_bd (xs : List Int) (t : Int) : 0 ≤ flipsN xs t ∧ flipsN xs t ≤ ((2 ^ xs.length : Nat) : Int) := by
  rw [flipsN_sum]
  have h : ∀ k, k < 2 ^ xs.length → 0 ≤ b2i (decide (t ≤ flipTo xs k xs.length)) ∧ b2i (decide (t ≤ flipTo xs k xs.length)) ≤ 1 := fun k _ => b2i_bd _
  exact ⟨sumTo_zero_le fun k hk => (h k hk).1, by have := (sumTo_bd (f := fun s => b2i (decide (t ≤ flipTo xs s xs.length))) (m := 1) (n := 2 ^ xs.length) fun k hk => by have := h k hk; omega).2; omega⟩
theorem two_pow_le {n : Nat} (h : n ≤ 10) : 1 ≤ 2 ^ n ∧ 2 ^ n ≤ 1024 := ⟨Nat.two_pow_pos n, Nat.pow_le_pow_right (n := 2) (by omega) h⟩
/-- The rest of a slice. -/
theorem Rd.tail {w : World} {g off n c : Nat} {x : Int} {xs : List Int} (h : Rd w (.slice (some ⟨g, off, none⟩) n c) (x :: xs)) (A' : Option Addr) (hA : 0 < xs.length → A' = some ⟨g, off + 1, none⟩) : Rd w (.slice A' (n - 1) (c - 1)) xs := by
  obtain ⟨A, c', hv, h2, h3, h4⟩ := h
  simp only [Value.slice.injEq] at hv
  obtain ⟨rfl, rfl, rfl⟩ := hv
  rw [List.length_cons] at h2 h4 ⊢
  refine ⟨A', c - 1, by simp, by omega, by omega, fun hp => ?_⟩
  obtain ⟨g', off', h5, h6, h7⟩ := h4 (by omega)
  simp only [Option.some.injEq, Addr.mk.injEq, and_true] at h5
  obtain ⟨rfl, rfl⟩ := h5
  refine ⟨g, off + 1, hA hp, h6, fun j hj => ?_⟩
  rw [show off + 1 + j = off + (j + 1) from by omega, h7 (j + 1) (by omega)]
  simp [List.getD]

set_option maxHeartbeats 1000000 in
theorem power_c (n : Nat) (w : World) (hn : n ≤ 10) : Calls Try.prog 56 #[.int .i64 n] w fun e w' => e = .returned (.int .i64 ((2 ^ n : Nat) : Int)) ∧ w = w' := by
  go_enter Try.func56, Try.ntmps56
  go_wp2
  go_loop [0, 3] (fun i p => ∃ k : Nat, k ≤ n ∧ i = .int .i64 ((n : Int) - k) ∧ p = .int .i64 ((2 ^ k : Nat) : Int)) (fun i _ => (intOf i).toNat)
  case atStart => exact ⟨0, Nat.zero_le _, by go_num, rfl⟩
  case round =>
    obtain ⟨k, hk, rfl, rfl⟩ := hrel
    by_cases hlt : k < n
    · have hp := two_pow_le (n := k) (by omega)
      have HP : Hid (((2 ^ (k + 1) : Nat) : Int) = 2 * ((2 ^ k : Nat) : Int)) := by show _ = _; rw [Nat.pow_succ]; omega
      obtain ⟨P, hP⟩ : ∃ P, 2 ^ k = P := ⟨_, rfl⟩
      rw [hP] at hp HP ⊢
      clear hP
      go_wp2
      go_round
      case rel => exact ⟨k + 1, by omega, by go_num, by rw [HP.out]⟩
      case measure => simp [intOf]; omega
    · obtain rfl : k = n := by omega
      obtain ⟨P, hP⟩ : ∃ P, ((2 ^ k : Nat) : Int) = P := ⟨_, rfl⟩
      rw [hP]
      go_wp2
      go_ret
      exact ⟨rfl, rfl⟩

set_option maxHeartbeats 1000000 in
theorem raised_c (n : Nat) (w : World) (hn : n ≤ 10) : Calls Try.prog 28 #[.int .i64 2, .int .i64 n] w fun e w' => e = .returned (.int .i64 ((2 ^ n : Nat) : Int)) ∧ w = w' := by
  go_enter Try.func28, Try.ntmps28
  go_wp2
  go_loop [1, 5] (fun i p => ∃ k : Nat, k ≤ n ∧ i = .int .i64 ((n : Int) - k) ∧ p = .int .i64 ((2 ^ k : Nat) : Int)) (fun i _ => (intOf i).toNat)
  case atStart => exact ⟨0, Nat.zero_le _, by go_num, rfl⟩
  case round =>
    obtain ⟨k, hk, rfl, rfl⟩ := hrel
    by_cases hlt : k < n
    · have hp := two_pow_le (n := k) (by omega)
      have HP : Hid (((2 ^ (k + 1) : Nat) : Int) = ((2 ^ k : Nat) : Int) * 2) := by show _ = _; rw [Nat.pow_succ]; omega
      obtain ⟨P, hP⟩ : ∃ P, 2 ^ k = P := ⟨_, rfl⟩
      rw [hP] at hp HP ⊢
      clear hP
      go_wp2
      go_round
      case rel => exact ⟨k + 1, by omega, by go_num, by rw [HP.out]⟩
      case measure => simp [intOf]; omega
    · obtain rfl : k = n := by omega
      obtain ⟨P, hP⟩ : ∃ P, ((2 ^ k : Nat) : Int) = P := ⟨_, rfl⟩
      rw [hP]
      go_wp2
      go_ret
      exact ⟨rfl, rfl⟩

set_option maxRecDepth 100000 in
set_option maxHeartbeats 1000000 in
theorem flips_c (xs : List Int) : ∀ (v : Value) (t : Int) (w : World), Rd w v xs → allB (-200) 200 xs = true → xs.length ≤ 10 → -100000 + 200 * (xs.length : Int) ≤ t → t ≤ 100000 - 200 * (xs.length : Int) →
    Calls Try.prog 54 #[v, .int .i64 t] w fun e w' => e = .returned (.int .i64 (flipsN xs t)) ∧ ∃ m, w' = w.drewN m := by
  induction xs with
  | nil =>
    intro v t w hr _ _ h1 h2
    obtain ⟨A, c, rfl, hc, hm, _⟩ := hr
    by_cases ht : t ≤ 0
    · have HT : Hid (flipsN [] t = 1) := by show _ = _; simp [flipsN, b2i, ht]
      go_enter Try.func54, Try.ntmps54
      go_wp2
      go_ret
      exact ⟨ret_int HT.out.symm, 0, rfl⟩
    · have HT : Hid (flipsN [] t = 0) := by show _ = _; simp [flipsN, b2i, ht]
      go_enter Try.func54, Try.ntmps54
      go_wp2
      go_ret
      exact ⟨ret_int HT.out.symm, 0, rfl⟩
  | cons x xs ih =>
    intro v t w hr hall hlen h1 h2
    have hx := allB_iff.1 hall x (List.mem_cons_self ..)
    have hall' : allB (-200) 200 xs = true := allB_sub hall fun y hy => List.mem_cons_of_mem _ hy
    obtain ⟨A, c, rfl, hc, hm, hcell⟩ := id hr
    obtain ⟨g, off, rfl, hg, hcl⟩ := hcell (by simp)
    have hck : w.cell? ⟨g, off, none⟩ = some (.int .i64 x) := by have := hcl 0 (by simp); simpa using this
    obtain ⟨N, hN⟩ : ∃ N, (x :: xs).length = N := ⟨_, rfl⟩
    have hN1 : N = xs.length + 1 := by rw [← hN, List.length_cons]
    rw [hN] at hlen h1 h2 hc ⊢ hr
    have HX := hide (And.intro hr hall')
    have hb1 := flipsN_bd xs (t - x)
    have hb2 := flipsN_bd xs (t + x)
    have hp := two_pow_le (n := xs.length) (by omega)
    obtain ⟨L, hL⟩ : ∃ L, xs.length = L := ⟨_, rfl⟩
    obtain ⟨P, hP⟩ : ∃ P, 2 ^ L = P := ⟨_, rfl⟩
    have HF : Hid (flipsN (x :: xs) t = flipsN xs (t - x) + flipsN xs (t + x)) := rfl
    rw [hL, hP] at hb1 hb2 hp
    have HL := hide hL
    rw [hL] at hN1
    have hz : ((N : Int) == 0) = false := beq_eq_false_iff_ne.2 (by omega)
    have hi : (0 : Int) < (N : Int) := by omega
    have IH := hide ih
    have HN := hide hN1
    clear hcl hcell hr hall hall' ih hN hN1 hL hP
    go_enter Try.func54, Try.ntmps54
    go_wp2_with fail
    go_quiet ((go_at_call 54; exact Calls.quiet_of (IH.out _ _ _ ((HX.out.1.drewN _).tail _ (fun h => if_neg (by have := HN.out; have := HL.out; omega))) HX.out.2 (by have := HN.out; have := HL.out; omega) (by have := HN.out; have := HL.out; omega) (by have := HN.out; have := HL.out; omega))))
    go_wp2
    all_goals
      go_ret
      exact ⟨ret_int HF.out.symm, _, rfl⟩
end Go.Proofs.Ytipmakmidadalaa
