/-
  Centers: the reference's walk and the program's.
-/
import Derived.Test.YtncglgkpgbhejaaCent
namespace Go.Proofs.Ytncglgkpgbhejaa
open Go.RowKit

/-- Row i of valid distances, as the walk reads it. -/
theorem RdSS.mat {w : World} {A : Option Addr} {n c : Nat} {xss : List (List Int)} (h : RdSS w (.slice A n c) xss) (hok : okGaps xss = true) {i : Nat} (hi : i < xss.length) : ∃ g off, A = some ⟨g, off, none⟩ ∧ g < w.heap.size ∧
    ∃ b o d, w.cell? ⟨g, off + i, none⟩ = some (.slice (some ⟨b, o, none⟩) xss.length d) ∧ xss.length ≤ d ∧ d ≤ 9223372036854775807 ∧ b < w.heap.size ∧ ∀ k, k < xss.length → w.cell? ⟨b, o + k, none⟩ = some (.int .i64 (gp xss i k)) := by
  obtain ⟨g, off, rfl, hg, B, d, h1, _, h2, h3, h4⟩ := h.row hi
  have hl := (okGaps_all hok).2.1 i hi
  rw [hl] at h1 h2 h4
  obtain ⟨b, o, rfl, hb, hc⟩ := h4 (by omega)
  exact ⟨g, off, rfl, hg, b, o, d, h1, h2, h3, hb, hc⟩

set_option maxHeartbeats 4000000 in
theorem nearSum_c (v : Value) (xss : List (List Int)) (s : Nat) (w : World) (h : RdSS w v xss) (hok : okGaps xss = true) (h1 : 1 ≤ s) (h2 : s < 2 ^ xss.length) :
    Calls Try.prog 46 #[v, .int .i64 s] w fun e w' => e = .returned (.int .i64 (nsN xss s xss.length)) ∧ w = w' := by
  obtain ⟨A, c, rfl, hc, hm, _⟩ := id h
  obtain ⟨hn1, hn6⟩ := (okGaps_all hok).1
  have hs64 : s < 64 := Nat.lt_of_lt_of_le h2 (two_pow_le' hn6)
  have KB := hide fun (j : Nat) (hj : j < xss.length) w => bit_c s j w (by omega) (by omega)
  have HB := hide fun (i k : Nat) (hi : i < xss.length) (hk : k < xss.length) => okGaps_bd hok hi hk
  have HS := hide fun (m : Nat) (hm : m ≤ xss.length) => nsN_bd hok (s := s) hm
  have HF := hide fun (a : Nat) (ha : a < xss.length) => sb_full hok (s := s) ha h1 h2
  have HN := hide fun (a : Nat) (ha : a < xss.length) => nrN_bd hok (s := s) ha (Nat.le_refl xss.length)
  have HM := hide fun (i : Nat) (hi : i < xss.length) => h.mat hok hi
  have HSB := hide fun (a m : Nat) (ha : a < xss.length) (hm : m ≤ xss.length) => sbN_nr hok (s := s) ha hm
  have HNB := hide fun (a m : Nat) (ha : a < xss.length) (hm : m ≤ xss.length) => nrN_bd hok (s := s) ha hm
  clear h2 hok
  go_enter Try.func46, Try.ntmps46
  go_wp2_with fail
  go_loop [5, 6] (fun t i => ∃ a : Nat, a ≤ xss.length ∧ i = .int .i64 a ∧ t = .int .i64 (nsN xss s a)) (fun _ i => xss.length - (intOf i).toNat)
  case atStart => exact ⟨0, by omega, rfl, rfl⟩
  case round =>
    obtain ⟨a, ha, rfl, rfl⟩ := hrel
    by_cases hlt : a < xss.length
    · go_wp2_with fail
      go_loop [7, 8] (fun t i => ∃ m : Nat, m ≤ xss.length ∧ i = .int .i64 m ∧ t = .int .i64 (sbN xss s a m)) (fun _ i => xss.length - (intOf i).toNat)
      case atStart => exact ⟨0, by omega, rfl, rfl⟩
      case round =>
        obtain ⟨m, hm, rfl, rfl⟩ := hrel
        by_cases hml : m < xss.length
        · obtain ⟨g, off, rfl, hg, b, o, d, hr1, hr2, hr3, hb, hcl⟩ := HM.out a hlt
          have hck := hcl m hml
          have ia : (a : Int) < (xss.length : Int) := by omega
          have im : (m : Int) < (xss.length : Int) := by omega
          have hgb := HB.out a m hlt hml
          have hsb : -1 ≤ sbN xss s a m ∧ sbN xss s a m ≤ 40 := by
            have := HNB.out a m hlt hm
            rcases HSB.out a m hlt hm with ⟨e, _⟩ | ⟨e, _⟩ <;> omega
          have K := hide fun w => KB.out m hml w
          have HD : Hid (sbN xss s a (m + 1) = if s.testBit m = true ∧ (sbN xss s a m < 0 ∨ gp xss a m < sbN xss s a m) then gp xss a m else sbN xss s a m) := rfl
          obtain ⟨x, hx⟩ : ∃ x, gp xss a m = x := ⟨_, rfl⟩
          obtain ⟨y, hy⟩ : ∃ x, sbN xss s a m = x := ⟨_, rfl⟩
          rw [hx] at hck hgb HD
          rw [hy] at hsb HD ⊢
          clear hcl hx hy
          cases ht : s.testBit m
          · have K' : Hid (∀ w, Calls Try.prog 45 #[.int .i64 s, .int .i64 m] w fun e w' => e = .returned (.int .i64 0) ∧ w = w') := by have := K.out; rw [ht] at this; exact this
            have HE : Hid (sbN xss s a (m + 1) = y) := by show _ = _; rw [HD.out, ht]; simp
            clear K HD ht
            go_wp2_with fail
            refine (K'.out _).mono ?_
            rintro e w1 ⟨rfl, rfl⟩
            go_wp2_with fail
            go_round
            case rel => exact ⟨m + 1, by omega, by go_num, by rw [HE.out]⟩
            case measure => simp [intOf]; omega
          · have K' : Hid (∀ w, Calls Try.prog 45 #[.int .i64 s, .int .i64 m] w fun e w' => e = .returned (.int .i64 1) ∧ w = w') := by have := K.out; rw [ht] at this; exact this
            by_cases hc1 : y < 0
            · have HE : Hid (sbN xss s a (m + 1) = x) := by show _ = _; rw [HD.out, ht, if_pos ⟨rfl, .inl hc1⟩]
              have hb1 : decide (y < 0) = true := decide_eq_true hc1
              clear K HD ht
              go_wp2_with fail
              refine (K'.out _).mono ?_
              rintro e w1 ⟨rfl, rfl⟩
              go_wp2_with fail
              go_round
              case rel => exact ⟨m + 1, by omega, by go_num, by rw [HE.out]⟩
              case measure => simp [intOf]; omega
            · have hb1 : decide (y < 0) = false := decide_eq_false hc1
              by_cases hc2 : x < y
              · have HE : Hid (sbN xss s a (m + 1) = x) := by show _ = _; rw [HD.out, ht, if_pos ⟨rfl, .inr hc2⟩]
                clear K HD ht
                go_wp2_with fail
                refine (K'.out _).mono ?_
                rintro e w1 ⟨rfl, rfl⟩
                go_wp2_with fail
                go_round
                case rel => exact ⟨m + 1, by omega, by go_num, by rw [HE.out]⟩
                case measure => simp [intOf]; omega
              · have HE : Hid (sbN xss s a (m + 1) = y) := by show _ = _; rw [HD.out, if_neg (by omega)]
                clear K HD ht
                go_wp2_with fail
                refine (K'.out _).mono ?_
                rintro e w1 ⟨rfl, rfl⟩
                go_wp2_with fail
                go_round
                case rel => exact ⟨m + 1, by omega, by go_num, by rw [HE.out]⟩
                case measure => simp [intOf]; omega
        · obtain rfl : m = xss.length := by omega
          have b1 := HS.out a ha
          have b2 := HN.out a hlt
          have HE : Hid (nsN xss s (a + 1) = nsN xss s a + nrN xss s a xss.length) := rfl
          rw [HF.out a hlt]
          obtain ⟨x, hx⟩ : ∃ x, nrN xss s a xss.length = x := ⟨_, rfl⟩
          obtain ⟨y, hy⟩ : ∃ x, nsN xss s a = x := ⟨_, rfl⟩
          rw [hx] at b2 HE ⊢
          rw [hy] at b1 HE ⊢
          clear hx hy
          go_wp2_with fail
          go_round
          case rel => exact ⟨a + 1, by omega, by go_num, by rw [HE.out]⟩
          case measure => simp [intOf]; omega
    · obtain rfl : a = xss.length := by omega
      go_wp2_with fail
      go_ret
      exact ⟨rfl, rfl⟩
end Go.Proofs.Ytncglgkpgbhejaa
