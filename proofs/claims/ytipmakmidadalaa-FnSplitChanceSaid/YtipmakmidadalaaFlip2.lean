/-
  Contracts: FlipChance of the program and of its reference, whole. The statement FnFlipChance.
-/
import Derived.Test.YtipmakmidadalaaFlip
import Derived.Test.YtipmakmidadalaaHelp
import Derived.Test.YtipmakmidadalaaSignLaw
import Derived.Test.YtipmakmidadalaaDraw12
namespace Go.Proofs.Ytipmakmidadalaa
open Go.RowKit

def flipX (xs : List Int) : Int := if okData xs then flipsN xs (sumL xs) else -1
def flipY (xs : List Int) : Int := if okData xs then ((2 ^ xs.length : Nat) : Int) else -1
theorem flip_ok {xs : List Int} (h : okData xs = true) : flipX xs = flipsN xs (sumL xs) ∧ flipY xs = ((2 ^ xs.length : Nat) : Int) := by simp [flipX, flipY, h]
theorem flip_bad {xs : List Int} (h : okData xs = false) : flipX xs = -1 ∧ flipY xs = -1 := by simp [flipX, flipY, h]
theorem sum_bd10 {xs : List Int} (h : allB (-200) 200 xs = true) (hl : xs.length ≤ 10) : -2000 ≤ sumL xs ∧ sumL xs ≤ 2000 := by
  have := sumL_bound (m := 200) (by omega) (allB_iff.1 h) xs.length
  rw [List.take_length] at this
  omega

set_option maxHeartbeats 1000000 in
theorem FlipS_c (v : Value) (xs : List Int) (w : World) (hr : Rd w v xs) :
    Calls Try.prog 27 #[v] w fun e w' => e = .returned (.tuple #[.int .i64 (flipX xs), .int .i64 (flipY xs)]) ∧ Below w.heap.size w w' := by
  have hr' := hr
  obtain ⟨A, c, rfl, hc, hm, hcell⟩ := hr
  clear hcell
  cases hok : okData xs
  · have HR := hide (flip_bad hok)
    go_enter Try.func27, Try.ntmps27
    go_wp2_with fail
    refine (validData_c _ xs false _ hr' hok).mono ?_
    rintro e w1 ⟨rfl, rfl⟩
    go_wp2_with fail
    go_ret2
    rw [HR.out.1, HR.out.2]
    exact ⟨rfl, Below.refl _ _⟩
  · have HR := hide (flip_ok hok)
    obtain ⟨hall, hlen⟩ := okData_all hok
    have hsb := sum_bd10 hall hlen
    have hbig : allB (-1000000) 1000000 xs = true := allB_iff.2 fun x hx => by have := allB_iff.1 hall x hx; omega
    have HA := hide (And.intro hall hbig)
    clear hall hbig
    go_enter Try.func27, Try.ntmps27
    go_wp2_with fail
    refine (validData_c _ xs true _ hr' hok).mono ?_
    rintro e w1 ⟨rfl, rfl⟩
    go_wp2_with fail
    refine (sumS_c _ xs _ hr' (by omega) HA.out.2).mono ?_
    rintro e w1 ⟨rfl, rfl⟩
    go_wp2_with fail
    refine (flips_c xs _ _ _ hr' HA.out.1 hlen (by omega) (by omega)).mono ?_
    rintro e w1 ⟨rfl, m, rfl⟩
    go_wp2_with fail
    refine (power_c _ _ hlen).mono ?_
    rintro e w1 ⟨rfl, rfl⟩
    go_wp2_with fail
    go_ret2
    rw [HR.out.1, HR.out.2]
    exact ⟨rfl, below_drewN (Below.refl _ _) _⟩

/-- How many of the first s sets of signs have at least the sum t. -/
def flipCnt (xs : List Int) (t : Int) (s : Nat) : Int := sumTo (fun s => b2i (decide (t ≤ flipTo xs s xs.length))) s
theorem flipCnt_succ (xs : List Int) (t : Int) (s : Nat) : flipCnt xs t (s + 1) = flipCnt xs t s + b2i (decide (t ≤ flipTo xs s xs.length)) := rfl
theorem flipCnt_bd (xs : List Int) (t : Int) (s : Nat) : 0 ≤ flipCnt xs t s ∧ flipCnt xs t s ≤ s := by
  have h : ∀ k, k < s → 0 ≤ b2i (decide (t ≤ flipTo xs k xs.length)) ∧ b2i (decide (t ≤ flipTo xs k xs.length)) ≤ 1 := fun k _ => b2i_bd _
  exact ⟨sumTo_zero_le fun k hk => (h k hk).1, by have := (sumTo_bd (f := fun s => b2i (decide (t ≤ flipTo xs s xs.length))) (m := 1) (n := s) fun k hk => by have := h k hk; omega).2; simp only [flipCnt]; omega⟩
theorem at_data {xs : List Int} (h : allB (-200) 200 xs = true) (k : Nat) : -200 ≤ atL xs k ∧ atL xs k ≤ 200 := by
  by_cases hk : k < xs.length
  · exact allB_iff.1 h _ (atL_mem hk)
  · have : atL xs k = 0 := by unfold atL; rw [List.getD_eq_getElem?_getD, List.getElem?_eq_none (by omega)]; rfl
    omega
theorem flipTo_bd {xs : List Int} (h : allB (-200) 200 xs = true) (s k : Nat) : -(200 * (k : Int)) ≤ flipTo xs s k ∧ flipTo xs s k ≤ 200 * k :=
  sumTo_bd (m := 200) fun i _ => by have := at_data h i; split <;> omega

set_option maxHeartbeats 1000000 in
theorem FlipI_c (v : Value) (xs : List Int) (w : World) (hr : Rd w v xs) :
    Calls Try.prog 26 #[v] w fun e w' => e = .returned (.tuple #[.int .i64 (flipX xs), .int .i64 (flipY xs)]) ∧ Below w.heap.size w w' := by
  have hr' := hr
  obtain ⟨A, c, rfl, hc, hm, hcell⟩ := hr
  clear hcell
  cases hok : okData xs
  · have HR := hide (flip_bad hok)
    go_enter Try.func26, Try.ntmps26
    go_wp2_with fail
    refine (ValidData_c _ xs false _ hr' hok).mono ?_
    rintro e w1 ⟨rfl, hb1⟩
    go_wp2_with fail
    go_ret2
    rw [HR.out.1, HR.out.2]
    exact ⟨rfl, hb1⟩
  · have HR := hide (flip_ok hok)
    obtain ⟨hall, hlen⟩ := okData_all hok
    have hsb := sum_bd10 hall hlen
    have hbig : allB (-1000000) 1000000 xs = true := allB_iff.2 fun x hx => by have := allB_iff.1 hall x hx; omega
    have HA := hide (And.intro hall hbig)
    obtain ⟨N, hN⟩ : ∃ N, 2 ^ xs.length = N := ⟨_, rfl⟩
    have hN1 := two_pow_le hlen
    rw [hN] at hN1
    have hsh : wrap64 ((2 : Int) ^ xs.length) = (N : Int) := by
      have e : (2 : Int) ^ xs.length = (N : Int) := by rw [← hN, Int.natCast_pow]; rfl
      rw [e]
      exact IntWalk.wrap64_in _ ⟨by omega, by omega⟩
    have HSH := hide hsh
    have HFS : Hid (flipCnt xs (sumL xs) N = flipsN xs (sumL xs)) := by show _ = _; rw [flipsN_sum, ← hN]; rfl
    have HN := hide hN
    clear hall hbig hsh hN
    go_enter Try.func26, Try.ntmps26
    go_wp2_with fail
    refine (ValidData_c _ xs true _ hr' hok).mono ?_
    rintro e w1 ⟨rfl, hb1⟩
    have hr1 := hr'.below hb1
    have hcA := hr1.at
    have HR1 := hide hr1
    clear hok hr' hr1
    go_wp2_with fail
    rw [HSH.out]
    go_loop [4, 15] (fun c i => ∃ s : Nat, s ≤ N ∧ i = .int .i64 s ∧ c = .int .i64 (flipCnt xs (sumL xs) s)) (fun _ i => N - (intOf i).toNat)
    case atStart => exact ⟨0, Nat.zero_le _, rfl, rfl⟩
    case round =>
      obtain ⟨s, hs, rfl, rfl⟩ := hrel
      by_cases hlt : s < N
      · have hC := flipCnt_bd xs (sumL xs) s
        have HC := hide (flipCnt_succ xs (sumL xs) s)
        obtain ⟨C, hC'⟩ : ∃ C, flipCnt xs (sumL xs) s = C := ⟨_, rfl⟩
        rw [hC'] at hC HC ⊢
        clear hC'
        go_wp2_with fail
        go_loop [6, 20] (fun n j => ∃ k : Nat, k ≤ xs.length ∧ j = .int .i64 k ∧ n = .int .i64 (flipTo xs s k)) (fun _ j => xs.length - (intOf j).toNat)
        case atStart => exact ⟨0, Nat.zero_le _, rfl, rfl⟩
        case round =>
          obtain ⟨k, hk, rfl, rfl⟩ := hrel
          by_cases hkl : k < xs.length
          · obtain ⟨g, off, rfl, hg, hcl⟩ := hcA (by omega)
            have hck := hcl k hkl
            have hak := at_data HA.out.1 k
            have hF := flipTo_bd HA.out.1 s k
            have HF := hide (flipTo_succ xs s k)
            obtain ⟨X, hX⟩ : ∃ X, atL xs k = X := ⟨_, rfl⟩
            obtain ⟨F, hF'⟩ : ∃ F, flipTo xs s k = F := ⟨_, rfl⟩
            rw [hX] at hck hak HF
            rw [hF'] at hF HF ⊢
            clear hX hF' hcA hcl
            cases hbt : s.testBit k
            · have hbit : (bits .and .i64 ((s : Int) / 2 ^ k) 1 == 1) = false := by rw [bit_int s k (by omega)]; exact hbt
              have HBT := hide hbt
              clear hbt
              go_wp2_with fail
              go_round
              case rel => exact ⟨k + 1, by omega, by go_num, by rw [HF.out, HBT.out]; simp⟩
              case measure => simp [intOf]; omega
            · have hbit : (bits .and .i64 ((s : Int) / 2 ^ k) 1 == 1) = true := by rw [bit_int s k (by omega)]; exact hbt
              have HBT := hide hbt
              clear hbt
              go_wp2_with fail
              go_round
              case rel => exact ⟨k + 1, by omega, by go_num, by rw [HF.out, HBT.out]; simp⟩
              case measure => simp [intOf]; omega
          · obtain rfl : k = xs.length := by omega
            have hF := flipTo_bd HA.out.1 s xs.length
            obtain ⟨F, hF'⟩ : ∃ F, flipTo xs s xs.length = F := ⟨_, rfl⟩
            obtain ⟨T, hT'⟩ : ∃ T, sumL xs = T := ⟨_, rfl⟩
            rw [hF', hT'] at HC
            rw [hF'] at hF ⊢
            rw [hT'] at hsb
            have HT := hide hT'
            clear hF' hT' hcA
            by_cases hge : T ≤ F
            all_goals
              go_wp2_with fail
              refine (sumI_c _ xs _ HR1.out (by omega) HA.out.2).mono ?_
              rw [HT.out]
              rintro e w2 ⟨rfl, rfl⟩
              go_wp2_with fail
              go_round
              case rel => exact ⟨s + 1, by omega, by go_num, by rw [HT.out, HC.out, b2i]; first | rw [if_pos (decide_eq_true hge)] | rw [if_neg (by simp; omega), Int.add_zero]⟩
              case measure => simp [intOf]; omega
      · obtain rfl : s = N := by omega
        rw [HFS.out]
        go_wp2_with fail
        go_quiet (fail)
        rw [HSH.out]
        go_wp2
        go_ret2
        rw [HR.out.1, HR.out.2, HN.out]
        exact ⟨rfl, below_drewN hb1 _⟩

set_option maxHeartbeats 1000000 in
theorem FnFlipChance_c (A : Option Addr) (n c : Nat) (bs : List Int) (w : World) (hl : bs.length = n) (hnc : n ≤ c) (hc : c ≤ 9223372036854775807) (hr : Rd8 w w.heap.size A bs) :
    Calls Try.prog 6 #[.slice A n c] w fun e w' => e = .returned (.bool true) ∧ Below w.heap.size w w' := by
  by_cases hbig : 1048576 < n
  · go_enter Try.func6, Try.ntmps6
    go_wp2
    go_ret
    exact ⟨rfl, Below.refl _ _⟩
  · go_enter Try.func6, Try.ntmps6
    go_wp2_with fail
    refine (DrawFlipChance_c A n c bs _ hl hnc hc hr).mono ?_
    rintro e w1 ⟨v, xs, rfl, hsl, hxl, hb1⟩
    have hrd := hsl.rd
    cases hok : okData xs
    · have HM := hide (flip_bad hok)
      clear hok
      go_wp2_with fail
      refine (FlipI_c _ xs _ hrd).mono ?_
      rw [HM.out.1, HM.out.2]
      rintro e w2 ⟨rfl, hb2⟩
      go_wp2_with fail
      refine (FlipS_c _ xs _ (Rd.below hrd (by (repeat (first | exact Below.refl _ _ | assumption | refine Below.setCell ?_ (by first | (simp; done) | omega | (simp; omega) | (simp at *; omega)) _ | refine Below.drew ?_ | refine below_drewN ?_ _ | refine below_alloc' ?_ _ | refine below_to' ?_ (by assumption)))))).mono ?_
      rw [HM.out.1, HM.out.2]
      rintro e w3 ⟨rfl, hb3⟩
      go_wp2_with fail
      go_ret
      exact ⟨rfl, by (repeat (first | exact Below.refl _ _ | assumption | refine Below.setCell ?_ (by first | (simp; done) | omega | (simp; omega) | (simp at *; omega)) _ | refine Below.drew ?_ | refine below_drewN ?_ _ | refine below_alloc' ?_ _ | refine below_to' ?_ (by assumption)))⟩
    · obtain ⟨hall, hlen⟩ := okData_all hok
      have HM := hide (flip_ok hok)
      have hok2 : okData (negL xs) = true := by rw [okData_neg]; exact hok
      obtain ⟨f1, f2, f3⟩ := flips_facts xs
      have fb := flipsN_bd (negL xs) (sumL (negL xs))
      have HM2 : Hid (flipX (negL xs) = flipsN (negL xs) (sumL (negL xs)) ∧ flipY (negL xs) = ((2 ^ xs.length : Nat) : Int)) := by
        have := flip_ok hok2
        rw [negL_len] at this
        exact this
      have hbn : allB (-1000000000) 1000000000 xs = true := allB_iff.2 fun x hx => by have := allB_iff.1 hall x hx; omega
      have HB := hide hbn
      rw [negL_len] at fb
      have hp := two_pow_le hlen
      obtain ⟨X, hX⟩ : ∃ X, flipsN xs (sumL xs) = X := ⟨_, rfl⟩
      obtain ⟨X2, hX2⟩ : ∃ X, flipsN (negL xs) (sumL (negL xs)) = X := ⟨_, rfl⟩
      obtain ⟨Y, hY⟩ : ∃ Y, 2 ^ xs.length = Y := ⟨_, rfl⟩
      rw [hX, hY] at HM
      rw [hX2, hY] at HM2
      rw [hX] at f1 f2 f3
      rw [hX2] at f3 fb
      rw [hY] at f2 f3 fb hp
      have HY := hide hY
      clear hX hX2 hY hok hok2 hall hbn
      go_wp2_with fail
      refine (FlipI_c _ xs _ hrd).mono ?_
      rw [HM.out.1, HM.out.2]
      rintro e w2 ⟨rfl, hb2⟩
      go_wp2_with fail
      refine (FlipS_c _ xs _ (Rd.below hrd (by (repeat (first | exact Below.refl _ _ | assumption | refine Below.setCell ?_ (by first | (simp; done) | omega | (simp; omega) | (simp at *; omega)) _ | refine Below.drew ?_ | refine below_drewN ?_ _ | refine below_alloc' ?_ _ | refine below_to' ?_ (by assumption)))))).mono ?_
      rw [HM.out.1, HM.out.2]
      rintro e w3 ⟨rfl, hb3⟩
      have hrd3 : Rd w3 v xs := (Rd.below hrd (by (repeat (first | exact Below.refl _ _ | assumption | refine Below.setCell ?_ (by first | (simp; done) | omega | (simp; omega) | (simp at *; omega)) _ | refine Below.drew ?_ | refine below_drewN ?_ _ | refine below_alloc' ?_ _ | refine below_to' ?_ (by assumption)))))
      have hb13 : Below w.heap.size w w3 := by (repeat (first | exact Below.refl _ _ | assumption | refine Below.setCell ?_ (by first | (simp; done) | omega | (simp; omega) | (simp at *; omega)) _ | refine Below.drew ?_ | refine below_drewN ?_ _ | refine below_alloc' ?_ _ | refine below_to' ?_ (by assumption)))
      obtain ⟨Av, cv, rfl, hcv, hmv, _⟩ := id hrd3
      go_wp2_with fail
      refine (negated_c _ xs _ hrd3 (by omega) HB.out).mono ?_
      rintro e w4 ⟨v4, rfl, hs4, hb4⟩
      go_wp2_with fail
      refine (FlipI_c _ (negL xs) _ hs4.rd).mono ?_
      rw [HM2.out.1, HM2.out.2]
      rintro e w5 ⟨rfl, hb5⟩
      go_wp2_with fail
      refine (raised_c _ _ hlen).mono ?_
      rw [HY.out]
      rintro e w6 ⟨rfl, rfl⟩
      go_wp2_with fail
      go_ret
      exact ⟨ret_bool (by first | (simp; done) | (simp; omega)), by (repeat (first | exact Below.refl _ _ | assumption | refine Below.setCell ?_ (by first | (simp; done) | omega | (simp; omega) | (simp at *; omega)) _ | refine Below.drew ?_ | refine below_drewN ?_ _ | refine below_alloc' ?_ _ | refine below_to' ?_ (by assumption)))⟩
end Go.Proofs.Ytipmakmidadalaa
