/-
  Centers: CentersOf of the reference.
-/
import Derived.Test.YtncglgkpgbhejaaCentS
namespace Go.Proofs.Ytncglgkpgbhejaa
open Go.RowKit

theorem ctN_step (xss : List (List Int)) (k : Int) (s : Nat) : ctN xss k (s + 1) = if bitN (s + 1) xss.length = k ∧ ((ctN xss k s).2 < 0 ∨ nsN xss (s + 1) xss.length < (ctN xss k s).2) then (((s + 1 : Nat) : Int), nsN xss (s + 1) xss.length) else ctN xss k s := rfl
theorem centX_bad {xss : List (List Int)} (k : Int) (h : okGaps xss = false) : centX xss k = (-1, -1) := by simp [centX, h]
theorem centX_out {xss : List (List Int)} {k : Int} (h : (decide (1 ≤ k) && decide (k ≤ (xss.length : Int))) = false) : centX xss k = (-1, -1) := by rw [centX, h]; simp
theorem centX_yes {xss : List (List Int)} {k : Int} (h1 : okGaps xss = true) (h : (decide (1 ≤ k) && decide (k ≤ (xss.length : Int))) = true) : centX xss k = ctN xss k (2 ^ xss.length - 1) := by rw [centX, h, h1]; simp

set_option maxHeartbeats 4000000 in
theorem CentersS_c (v : Value) (xss : List (List Int)) (k : Int) (w : World) (h : RdSS w v xss) :
    Calls Try.prog 27 #[v, .int .i64 k] w fun e w' => e = .returned (.tuple #[.int .i64 (centX xss k).1, .int .i64 (centX xss k).2]) ∧ Below w.heap.size w w' := by
  obtain ⟨A, c, rfl, hc, hm, _⟩ := id h
  cases hok : okGaps xss
  · have HX := hide (centX_bad k hok)
    have K := hide fun w h => validGapsS_c (.slice A xss.length c) xss false w h hok
    clear hok
    go_enter Try.func27, Try.ntmps27
    go_wp2_with fail
    refine (K.out _ h).mono ?_
    rintro e w1 ⟨rfl, hb1⟩
    go_wp2_with fail
    go_ret2
    exact ⟨by rw [HX.out]; rfl, hb1⟩
  have K := hide fun w h => validGapsS_c (.slice A xss.length c) xss true w h hok
  cases hin : (decide (1 ≤ k) && decide (k ≤ (xss.length : Int)))
  · have HX := hide (centX_out hin)
    have KI := hide fun w => inRange_c false k 1 (xss.length : Int) w hin
    clear hok hin
    go_enter Try.func27, Try.ntmps27
    go_wp2_with fail
    refine (K.out _ h).mono ?_
    rintro e w1 ⟨rfl, hb1⟩
    go_wp2_with fail
    refine (KI.out _).mono ?_
    rintro e w2 ⟨rfl, rfl⟩
    go_wp2_with fail
    go_ret2
    exact ⟨by rw [HX.out]; rfl, hb1⟩
  have HX := hide (centX_yes hok hin)
  have KI := hide fun w => inRange_c true k 1 (xss.length : Int) w hin
  obtain ⟨hn1, hn6⟩ := (okGaps_all hok).1
  have hk : 1 ≤ k ∧ k ≤ 6 := by simp at hin; omega
  obtain ⟨hk1, hk6⟩ := hk
  obtain ⟨N, hN⟩ : ∃ N, N = 2 ^ xss.length := ⟨_, rfl⟩
  have hN64 : N ≤ 64 := by rw [hN]; exact two_pow_le' hn6
  have hN1 : 1 ≤ N := by rw [hN]; exact Nat.two_pow_pos _
  have KP : Hid (∀ w, Calls Try.prog 44 #[.int .i64 xss.length] w fun e w' => e = .returned (.int .i64 (N : Int)) ∧ w = w') := fun w => by rw [hN]; exact power_c xss.length w hn6
  have KB := hide fun (s j : Nat) (hs : s ≤ 64) (hj : j < xss.length) w => bit_c s j w hs (by omega)
  have KN := hide fun (s : Nat) (w : World) (h : RdSS w (.slice A xss.length c) xss) (h1 : 1 ≤ s) (h2 : s < N) => nearSum_c (.slice A xss.length c) xss s w h hok h1 (by rw [← hN]; exact h2)
  have HC := hide fun s => ctN_bd hok k s
  have HS := hide fun s => nsN_bd hok (s := s) (Nat.le_refl xss.length)
  rw [← hN] at HX
  clear hok hin hN
  go_enter Try.func27, Try.ntmps27
  go_wp2_with fail
  refine (K.out _ h).mono ?_
  rintro e w1 ⟨rfl, hb1⟩
  have h1 := h.below hb1
  go_wp2_with fail
  refine (KI.out _).mono ?_
  rintro e w2 ⟨rfl, rfl⟩
  go_wp2_with fail
  go_loopw [6, 7, 8] (fun at_ be se wr => ∃ s : Nat, s + 1 ≤ N ∧ se = .int .i64 ((s : Int) + 1) ∧ at_ = .int .i64 (ctN xss k s).1 ∧ be = .int .i64 (ctN xss k s).2 ∧ Below w.heap.size w wr) (fun _ _ se _ => N - (intOf se).toNat)
  case atStart => exact ⟨0, by omega, rfl, rfl, rfl, hb1⟩
  case round =>
    obtain ⟨s, hs, rfl, rfl, rfl, hbel⟩ := hrel
    obtain ⟨c1, c2, c3, c4, c5⟩ := HC.out s
    have HD := hide (ctN_step xss k s)
    have HCC := hide c1
    obtain ⟨p, hp⟩ : ∃ p, ctN xss k s = p := ⟨_, rfl⟩
    have HP := hide hp
    rw [hp] at c2 c3 c4 c5 HD HCC ⊢
    clear c1 hp
    obtain ⟨p1, p2⟩ := p
    have c2 : -1 ≤ p1 := c2
    have c3 : p1 ≤ s := c3
    have c4 : -1 ≤ p2 := c4
    have c5 : p2 ≤ 40 * (xss.length : Int) := c5
    by_cases hlt : s + 1 < N
    · have hli : (s : Int) + 1 < (N : Int) := by omega
      have hld : decide ((s : Int) + 1 < (N : Int)) = true := decide_eq_true hli
      go_wp2_with fail
      refine (KP.out _).mono ?_
      rintro e w3 ⟨rfl, rfl⟩
      go_wp2_with fail
      go_loopw [9, 10] (fun n b wr => ∃ m : Nat, m ≤ xss.length ∧ b = .int .i64 m ∧ n = .int .i64 (bitN (s + 1) m) ∧ Below w.heap.size w wr) (fun _ b _ => xss.length - (intOf b).toNat)
      case atStart => exact ⟨0, by omega, rfl, rfl, hbel⟩
      case round =>
        obtain ⟨m, hm, rfl, rfl, hbel⟩ := hrel
        have h1 := h.below hbel
        by_cases hml : m < xss.length
        · have K1 : Hid (∀ w, Calls Try.prog 45 #[.int .i64 ((s : Int) + 1), .int .i64 m] w fun e w' => e = .returned (.int .i64 (b2i ((s + 1).testBit m))) ∧ w = w') := fun w => by
            have := KB.out (s + 1) m (by omega) hml w
            rwa [show ((s + 1 : Nat) : Int) = (s : Int) + 1 by omega] at this
          have HE := hide (bitN_succ (s + 1) m)
          have b1 := bitN_bd (s + 1) m
          have b2 := b2i_bd ((s + 1).testBit m)
          obtain ⟨x, hx⟩ : ∃ x, b2i ((s + 1).testBit m) = x := ⟨_, rfl⟩
          obtain ⟨y, hy⟩ : ∃ x, bitN (s + 1) m = x := ⟨_, rfl⟩
          rw [hx] at K1 HE b2
          rw [hy] at HE b1 ⊢
          clear hx hy
          go_wp2_with fail
          refine (K1.out _).mono ?_
          rintro e w4 ⟨rfl, rfl⟩
          go_wp2_with fail
          go_roundw
          case rel => exact ⟨m + 1, by omega, by go_num, by rw [HE.out], hbel⟩
          case measure => simp [intOf]; omega
        · obtain rfl : m = xss.length := by omega
          have hns := HS.out (s + 1)
          have K2 : Hid (∀ w, RdSS w (.slice A xss.length c) xss → Calls Try.prog 46 #[.slice A xss.length c, .int .i64 ((s : Int) + 1)] w fun e w' => e = .returned (.int .i64 (nsN xss (s + 1) xss.length)) ∧ w = w') := fun w h => by
            have := KN.out (s + 1) w h (by omega) hlt
            rwa [show ((s + 1 : Nat) : Int) = (s : Int) + 1 by omega] at this
          obtain ⟨y, hy⟩ : ∃ x, nsN xss (s + 1) xss.length = x := ⟨_, rfl⟩
          obtain ⟨q, hq⟩ : ∃ x, bitN (s + 1) xss.length = x := ⟨_, rfl⟩
          rw [hy] at K2 hns HD
          rw [hq] at HD ⊢
          clear hy hq
          by_cases hqk : q = k
          · have hqb : (q == k) = true := by simp [hqk]
            by_cases hp2 : p2 < 0
            · have hpb : decide (p2 < 0) = true := decide_eq_true hp2
              have HE : Hid (ctN xss k (s + 1) = ((s : Int) + 1, y)) := by show _ = _; rw [HD.out, if_pos ⟨hqk, .inl hp2⟩]; simp
              clear hqk HD
              go_wp2_with fail
              refine (K2.out _ h1).mono ?_
              rintro e w4 ⟨rfl, rfl⟩
              go_wp2_with fail
              go_roundw
              case rel => exact ⟨s + 1, by omega, by go_num, by rw [HE.out], by rw [HE.out], hbel⟩
              case measure => simp [intOf]; omega
            · have hpb : decide (p2 < 0) = false := decide_eq_false hp2
              by_cases hyp : y < p2
              · have HE : Hid (ctN xss k (s + 1) = ((s : Int) + 1, y)) := by show _ = _; rw [HD.out, if_pos ⟨hqk, .inr hyp⟩]; simp
                clear hqk HD
                go_wp2_with fail
                refine (K2.out _ h1).mono ?_
                rintro e w4 ⟨rfl, rfl⟩
                go_wp2_with fail
                refine (K2.out _ h1).mono ?_
                rintro e w4 ⟨rfl, rfl⟩
                go_wp2_with fail
                go_roundw
                case rel => exact ⟨s + 1, by omega, by go_num, by rw [HE.out], by rw [HE.out], hbel⟩
                case measure => simp [intOf]; omega
              · have HE : Hid (ctN xss k (s + 1) = (p1, p2)) := by show _ = _; rw [HD.out, if_neg (by simp; omega)]
                clear hqk HD
                go_wp2_with fail
                refine (K2.out _ h1).mono ?_
                rintro e w4 ⟨rfl, rfl⟩
                go_wp2_with fail
                go_roundw
                case rel => exact ⟨s + 1, by omega, by go_num, by rw [HE.out], by rw [HE.out], hbel⟩
                case measure => simp [intOf]; omega
          · have hqb : (q == k) = false := by simp [hqk]
            have HE : Hid (ctN xss k (s + 1) = (p1, p2)) := by show _ = _; rw [HD.out, if_neg (by simp [hqk])]
            clear hqk HD
            go_wp2_with fail
            go_roundw
            case rel => exact ⟨s + 1, by omega, by go_num, by rw [HE.out], by rw [HE.out], hbel⟩
            case measure => simp [intOf]; omega
    · have hse : s = N - 1 := by omega
      have HE : Hid (centX xss k = (p1, p2)) := by show _ = _; rw [HX.out, ← hse, HP.out]
      have hnl : ¬ (s : Int) + 1 < (N : Int) := by omega
      clear hse
      go_wp2_with fail
      refine (KP.out _).mono ?_
      rintro e w3 ⟨rfl, rfl⟩
      go_wp2_with fail
      go_ret2
      exact ⟨by rw [HE.out]; rfl, hbel⟩
end Go.Proofs.Ytncglgkpgbhejaa
