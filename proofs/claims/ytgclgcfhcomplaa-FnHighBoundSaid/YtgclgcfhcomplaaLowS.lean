/-
  Contracts: the bounds of chances in the reference.
-/
import Derived.Test.YtgclgcfhcomplaaLow
namespace Go.Proofs.Ytgclgcfhcomplaa
open Go.RowKit

set_option maxHeartbeats 2000000 in
theorem LowS_c (n k v a b : Int) (w : World) (hn : -9223372036854775808 ≤ n - 1 ∧ n ≤ 9223372036854775807) : Calls Try.prog 25 #[.int .i64 n, .int .i64 k, .int .i64 v, .int .i64 a, .int .i64 b] w fun e w' =>
    e = .returned (.int .i64 (lowX n k v a b)) ∧ w = w' := by
  cases h1 : okTries n 0 v
  · have HX := hide (lowX_bad (n := n) (k := k) (v := v) (a := a) (b := b) (by rw [okLow, h1]; rfl))
    have H1 := hide h1
    clear h1
    go_enter Try.func25, Try.ntmps25
    go_wp2_with fail
    refine (triesS_c _ _ _ false _ H1.out).mono ?_
    rintro e w' ⟨rfl, rfl⟩
    go_wp2_with fail
    go_ret
    exact ⟨ret_int HX.out.symm, rfl⟩
  cases h2 : (decide (1 ≤ k) && decide (k ≤ n))
  · have HX := hide (lowX_bad (n := n) (k := k) (v := v) (a := a) (b := b) (by rw [okLow, h1, h2]; rfl))
    have H1 := hide h1
    have H2 := hide h2
    clear h1 h2
    go_enter Try.func25, Try.ntmps25
    go_wp2_with fail
    refine (triesS_c _ _ _ true _ H1.out).mono ?_
    rintro e w' ⟨rfl, rfl⟩
    go_wp2_with fail
    refine (inRange_c false _ _ _ _ H2.out).mono ?_
    rintro e w' ⟨rfl, rfl⟩
    go_wp2_with fail
    go_ret
    exact ⟨ret_int HX.out.symm, rfl⟩
  · cases h4 : okLevel a b
    · have HX := hide (lowX_bad (n := n) (k := k) (v := v) (a := a) (b := b) (by rw [okLow, h1, h2, h4]; rfl))
      have H1 := hide h1
      have H2 := hide h2
      have H4 := hide h4
      clear h1 h2 h4
      go_enter Try.func25, Try.ntmps25
      go_wp2_with fail
      refine (triesS_c _ _ _ true _ H1.out).mono ?_
      rintro e w' ⟨rfl, rfl⟩
      go_wp2_with fail
      refine (inRange_c true _ _ _ _ H2.out).mono ?_
      rintro e w' ⟨rfl, rfl⟩
      go_wp2_with fail
      refine (levelS_c _ _ false _ H4.out).mono ?_
      rintro e w' ⟨rfl, rfl⟩
      go_wp2_with fail
      go_ret
      exact ⟨ret_int HX.out.symm, rfl⟩
    · have hok : okLow n k v a b = true := by rw [okLow, h1, h2, h4]; rfl
      obtain ⟨g3, g4⟩ : 1 ≤ k ∧ k ≤ n := by simpa using h2
      obtain ⟨⟨g1, g2⟩, ⟨g5, g6⟩, _, _⟩ := okTries_iff.1 h1
      obtain ⟨⟨g7, g8⟩, g9, g10⟩ := okLevel_iff.1 h4
      obtain ⟨N, rfl⟩ := Int.eq_ofNat_of_zero_le (show 0 ≤ n by omega)
      obtain ⟨K, rfl⟩ := Int.eq_ofNat_of_zero_le (show 0 ≤ k by omega)
      obtain ⟨V, rfl⟩ := Int.eq_ofNat_of_zero_le (show 0 ≤ v by omega)
      have HX := hide (lowX_ok hok)
      have H1 := hide h1
      have H2 := hide h2
      have H4 := hide h4
      clear h1 h2 h4 hok
      go_enter Try.func25, Try.ntmps25
      go_wp2_with fail
      refine (triesS_c _ _ _ true _ H1.out).mono ?_
      rintro e w' ⟨rfl, rfl⟩
      go_wp2_with fail
      refine (inRange_c true _ _ _ _ H2.out).mono ?_
      rintro e w' ⟨rfl, rfl⟩
      go_wp2_with fail
      refine (levelS_c _ _ true _ H4.out).mono ?_
      rintro e w' ⟨rfl, rfl⟩
      go_wp2_with fail
      go_loop [11, 12] (fun o i => ∃ u : Nat, u ≤ V + 1 ∧ i = .int .i64 u ∧ o = .int .i64 ((lastTo (goodL N K V a b) u : Nat) : Int)) (fun _ i => V + 1 - (intOf i).toNat)
      case atStart => exact ⟨0, Nat.zero_le _, rfl, rfl⟩
      case round =>
        obtain ⟨u, hu, rfl, rfl⟩ := hrel
        by_cases hlt : u ≤ V
        · have hT := partN_bd (fun h => decide ((K : Int) ≤ (h : Int))) (u := (u : Int)) (w := (V : Int) - u) (by omega) (by omega) (by omega) (n := N) (by omega) (N + 1) (Nat.le_refl _)
          have hT' : 0 ≤ tailN N K u V ∧ tailN N K u V ≤ 61917364224 * ((N + 1 : Nat) : Int) := hT
          have hpw := powN_bd12 (x := V) (by omega) (n := N) (by omega)
          have HGU : Hid (goodL N K V a b u = decide (tailN N K u V * b ≤ a * powN V N)) := rfl
          have HS := hide (lastTo_succ (goodL N K V a b) u)
          obtain ⟨A, hA⟩ : ∃ A, powN V N = A := ⟨_, rfl⟩
          obtain ⟨T, hT2⟩ : ∃ T, tailN N K u V = T := ⟨_, rfl⟩
          obtain ⟨L, hL⟩ : ∃ L, lastTo (goodL N K V a b) u = L := ⟨_, rfl⟩
          rw [hA] at hpw HGU
          rw [hT2] at hT' HGU
          rw [hL] at HS ⊢
          have HA := hide hA
          have HT := hide hT2
          clear hT hA hT2 hL
          have hm1 := mul_pos_bd (a := T) (b := b) (m := 681091006464) (n := 100) (by omega) (by omega)
          have hm2 := mul_pos_bd (a := a) (b := A) (m := 100) (n := 61917364224) (by omega) (by omega)
          by_cases c : T * b ≤ a * A
          all_goals
            go_wp2_with fail
            refine (tailS_c N K u V _ (by omega) (by omega) (by omega) (by omega) (by omega)).mono ?_
            rw [HT.out]
            rintro e w2 ⟨rfl, rfl⟩
            go_wp2_with fail
            refine (raiseS_c V N _ (by omega) (by omega)).mono ?_
            rw [HA.out]
            rintro e w2 ⟨rfl, rfl⟩
            go_wp2_with fail
            go_round
            case rel => exact ⟨u + 1, by omega, by go_num, by rw [HS.out, HGU.out]; first | (rw [decide_eq_true (by omega)]; rfl) | (rw [decide_eq_false (by omega)]; rfl)⟩
            case measure => simp [intOf]; omega
        · obtain rfl : u = V + 1 := by omega
          obtain ⟨L, hL⟩ : ∃ L, lastTo (goodL N K V a b) (V + 1) = L := ⟨_, rfl⟩
          rw [hL] at HX ⊢
          clear hL
          go_wp2_with fail
          go_ret
          exact ⟨ret_int HX.out.symm, rfl⟩

set_option maxHeartbeats 2000000 in
theorem HighS_c (n k v a b : Int) (w : World) (hn : -9223372036854775808 ≤ n - 1 ∧ n ≤ 9223372036854775807) : Calls Try.prog 34 #[.int .i64 n, .int .i64 k, .int .i64 v, .int .i64 a, .int .i64 b] w fun e w' =>
    e = .returned (.int .i64 (highX n k v a b)) ∧ w = w' := by
  cases h1 : okTries n 0 v
  · have HX := hide (highX_bad (n := n) (k := k) (v := v) (a := a) (b := b) (by rw [okHigh, h1]; rfl))
    have H1 := hide h1
    clear h1
    go_enter Try.func34, Try.ntmps34
    go_wp2_with fail
    refine (triesS_c _ _ _ false _ H1.out).mono ?_
    rintro e w' ⟨rfl, rfl⟩
    go_wp2_with fail
    go_ret
    exact ⟨ret_int HX.out.symm, rfl⟩
  cases h2 : (decide (0 ≤ k) && decide (k ≤ n - 1))
  · have HX := hide (highX_bad (n := n) (k := k) (v := v) (a := a) (b := b) (by rw [okHigh, h1, h2]; rfl))
    have H1 := hide h1
    have H2 := hide h2
    clear h1 h2
    go_enter Try.func34, Try.ntmps34
    go_wp2_with fail
    refine (triesS_c _ _ _ true _ H1.out).mono ?_
    rintro e w' ⟨rfl, rfl⟩
    go_wp2_with fail
    refine (inRange_c false _ _ _ _ H2.out).mono ?_
    rintro e w' ⟨rfl, rfl⟩
    go_wp2_with fail
    go_ret
    exact ⟨ret_int HX.out.symm, rfl⟩
  · cases h4 : okLevel a b
    · have HX := hide (highX_bad (n := n) (k := k) (v := v) (a := a) (b := b) (by rw [okHigh, h1, h2, h4]; rfl))
      have H1 := hide h1
      have H2 := hide h2
      have H4 := hide h4
      clear h1 h2 h4
      go_enter Try.func34, Try.ntmps34
      go_wp2_with fail
      refine (triesS_c _ _ _ true _ H1.out).mono ?_
      rintro e w' ⟨rfl, rfl⟩
      go_wp2_with fail
      refine (inRange_c true _ _ _ _ H2.out).mono ?_
      rintro e w' ⟨rfl, rfl⟩
      go_wp2_with fail
      refine (levelS_c _ _ false _ H4.out).mono ?_
      rintro e w' ⟨rfl, rfl⟩
      go_wp2_with fail
      go_ret
      exact ⟨ret_int HX.out.symm, rfl⟩
    · have hok : okHigh n k v a b = true := by rw [okHigh, h1, h2, h4]; rfl
      obtain ⟨g3, g4⟩ : 0 ≤ k ∧ k ≤ n - 1 := by simpa using h2
      obtain ⟨⟨g1, g2⟩, ⟨g5, g6⟩, _, _⟩ := okTries_iff.1 h1
      obtain ⟨⟨g7, g8⟩, g9, g10⟩ := okLevel_iff.1 h4
      obtain ⟨N, rfl⟩ := Int.eq_ofNat_of_zero_le (show 0 ≤ n by omega)
      obtain ⟨K, rfl⟩ := Int.eq_ofNat_of_zero_le (show 0 ≤ k by omega)
      obtain ⟨V, rfl⟩ := Int.eq_ofNat_of_zero_le (show 0 ≤ v by omega)
      have HX := hide fun u => highX_eq (u := u) hok (by omega)
      have HG := hide (good0 (n := N) (k := N - K) (v := V) (a := a) (b := b) (by omega) (by omega) g9)
      have H1 := hide h1
      have H2 := hide h2
      have H4 := hide h4
      clear h1 h2 h4 hok
      go_enter Try.func34, Try.ntmps34
      go_wp2_with fail
      refine (triesS_c _ _ _ true _ H1.out).mono ?_
      rintro e w' ⟨rfl, rfl⟩
      go_wp2_with fail
      refine (inRange_c true _ _ _ _ H2.out).mono ?_
      rintro e w' ⟨rfl, rfl⟩
      go_wp2_with fail
      refine (levelS_c _ _ true _ H4.out).mono ?_
      rintro e w' ⟨rfl, rfl⟩
      go_wp2_with fail
      go_loop [11, 12] (fun i q => ∃ u : Nat, u ≤ V ∧ i = .int .i64 u ∧ Hid (∀ h, h < u → goodL N (N - K) V a b (V - h) = false)) (fun i _ => V + 1 - (intOf i).toNat)
      case atStart => exact ⟨0, Nat.zero_le _, rfl, fun h h1 => by omega⟩
      case round =>
        obtain ⟨u, hu, rfl, hno⟩ := hrel
        have hT := partN_bd (fun h => decide (((K + 1 : Nat) : Int) ≤ (h : Int))) (u := (u : Int)) (w := (V : Int) - u) (by omega) (by omega) (by omega) (n := N) (by omega) (N + 1) (Nat.le_refl _)
        have hT' : 0 ≤ tailN N ((K + 1 : Nat) : Int) u V ∧ tailN N ((K + 1 : Nat) : Int) u V ≤ 61917364224 * ((N + 1 : Nat) : Int) := hT
        have hD := down_all N K (u : Int) (V : Int)
        have hDb : 0 ≤ downN N K u V ∧ downN N K u V ≤ 61917364224 * ((N + 1 : Nat) : Int) := partN_bd (fun h => decide (h ≤ K)) (u := (u : Int)) (w := (V : Int) - u) (by omega) (by omega) (by omega) (n := N) (by omega) (N + 1) (Nat.le_refl _)
        have hpw := powN_bd12 (x := V) (by omega) (n := N) (by omega)
        have HGU := hide (good_rev (n := N) (k := K) (u := u) (V := V) (a := a) (b := b) (by omega) hu)
        rw [show (K : Int) + 1 = ((K + 1 : Nat) : Int) from by omega] at hD
        obtain ⟨A, hA⟩ : ∃ A, powN V N = A := ⟨_, rfl⟩
        obtain ⟨T, hT2⟩ : ∃ T, tailN N ((K + 1 : Nat) : Int) u V = T := ⟨_, rfl⟩
        obtain ⟨D, hD2⟩ : ∃ D, downN N K u V = D := ⟨_, rfl⟩
        rw [hA] at hpw HGU hD
        rw [hT2] at hT' HGU hD
        rw [hD2] at hD hDb
        have HA := hide hA
        have HT := hide hT2
        clear hT hA hT2 hD2
        have hDe : A - T = D := hD
        have hm1 := mul_pos_bd (a := A - T) (b := b) (m := 681091006464) (n := 100) (by omega) (by omega)
        have hm2 := mul_pos_bd (a := a) (b := A) (m := 100) (n := 61917364224) (by omega) (by omega)
        have HD := hide hDe
        clear hD hDe
        by_cases c : (A - T) * b ≤ a * A
        · go_wp2_with fail
          refine (raiseS_c V N _ (by omega) (by omega)).mono ?_
          rw [HA.out]
          rintro e w2 ⟨rfl, rfl⟩
          go_wp2_with fail
          refine (tailS_c N (K + 1) u V _ (by omega) (by omega) (by omega) (by omega) (by omega)).mono ?_
          rw [HT.out]
          rintro e w2 ⟨rfl, rfl⟩
          go_wp2_with fail
          go_ret
          exact ⟨ret_int (HX.out u hu (HGU.out.symm.trans (decide_eq_true c)) hno.out).symm, rfl⟩
        · have hlt : u < V := by
            by_cases e : u = V
            · subst e
              rw [Nat.sub_self] at HGU
              have := HGU.out.trans HG.out
              rw [decide_eq_true_eq] at this
              exact absurd this c
            · omega
          go_wp2_with fail
          refine (raiseS_c V N _ (by omega) (by omega)).mono ?_
          rw [HA.out]
          rintro e w2 ⟨rfl, rfl⟩
          go_wp2_with fail
          refine (tailS_c N (K + 1) u V _ (by omega) (by omega) (by omega) (by omega) (by omega)).mono ?_
          rw [HT.out]
          rintro e w2 ⟨rfl, rfl⟩
          go_wp2_with fail
          go_round
          case rel => exact ⟨u + 1, by omega, by go_num, fun h h1 => by
            by_cases e : h = u
            · subst e; exact HGU.out.symm.trans (decide_eq_false (by omega))
            · exact hno.out h (by omega)⟩
          case measure => simp [intOf]; omega
end Go.Proofs.Ytgclgcfhcomplaa
