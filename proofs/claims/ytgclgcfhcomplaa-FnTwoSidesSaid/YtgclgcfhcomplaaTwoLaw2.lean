/-
  The statement FnTwoSides: for every code it returns true and writes nothing that was there.
-/
import Derived.Test.YtgclgcfhcomplaaTwoLaw
import Derived.Test.YtgclgcfhcomplaaDrawT
import Derived.Test.YtgclgcfhcomplaaHelp
namespace Go.Proofs.Ytgclgcfhcomplaa
open Go.RowKit

set_option maxHeartbeats 2000000 in
theorem FnTwoSides_c (A : Option Addr) (n c : Nat) (bs : List Int) (w : World) (hl : bs.length = n) (hnc : n ≤ c) (hc : c ≤ 9223372036854775807) (hr : Rd8 w w.heap.size A bs) :
    Calls Try.prog 9 #[.slice A n c] w fun e w' => e = .returned (.bool true) ∧ Below w.heap.size w w' := by
  by_cases hbig : 1048576 < n
  · go_enter Try.func9, Try.ntmps9
    go_wp2
    go_ret
    exact ⟨rfl, Below.refl _ _⟩
  · go_enter Try.func9, Try.ntmps9
    go_wp2_with fail
    refine (DrawTwoSides_c A n c bs _ hl hnc hc hr).mono ?_
    rintro e w1 ⟨N, K, U, V, rfl, hN, hK, hU, hV, hb1⟩
    cases hok : okTwoS N K U V
    · have HX := hide (twoL_bad hok)
      clear hok
      go_wp2_with fail
      refine (TwoI_c _ _ _ _ _).mono ?_
      rw [HX.out]
      rintro e w2 ⟨v2, rfl, hs2, hb2⟩
      have hr2 := hs2.rd
      obtain ⟨A2, c2, rfl, hc2, hm2, _⟩ := id hr2
      go_wp2_with fail
      refine (TwoS_c _ _ _ _ _).mono ?_
      rw [HX.out]
      rintro e w3 ⟨v3, rfl, hs3, hb3⟩
      go_wp2_with fail
      refine (equalInts_c _ _ [] [] true _ (hr2.below hb3) hs3.rd (by simp)).mono ?_
      rintro e w4 ⟨rfl, hb4⟩
      go_wp2_with fail
      refine (TwoS_c _ _ _ _ _).mono ?_
      rw [HX.out]
      rintro e w5 ⟨v5, rfl, hs5, hb5⟩
      go_wp2_with fail
      refine (equalInts_c _ _ [] [] true _ (((hr2.below hb3).below hb4).below hb5) hs5.rd (by simp)).mono ?_
      rintro e w6 ⟨rfl, hb6⟩
      go_wp2_with fail
      go_ret
      exact ⟨rfl, by (repeat (first | exact Below.refl _ _ | assumption | refine Below.setCell ?_ (by first | (simp; done) | omega | (simp; omega) | (simp at *; omega)) _ | refine Below.drew ?_ | refine below_drewN ?_ _ | refine below_alloc' ?_ _ | refine below_to' ?_ (by assumption)))⟩
    · have hok' := hok
      simp only [okTwoS, Bool.and_eq_true, decide_eq_true_eq] at hok'
      obtain ⟨hv1, hv2⟩ := hok'
      obtain ⟨g1, g2, g3⟩ := okTries_iff.1 hv1
      obtain ⟨N, rfl⟩ := Int.eq_ofNat_of_zero_le (show 0 ≤ N by omega)
      obtain ⟨K, rfl⟩ := Int.eq_ofNat_of_zero_le (show 0 ≤ K by omega)
      have HX := hide (twoL_ok hok)
      have HR := hide (twoL_rev (n := N) (k := K) (u := U) (v := V) (by omega) hok)
      have hbd := two_bounds (n := N) (k := K) (u := U) (v := V) (by omega) (by omega) (by omega)
      have HL := hide (tail_less (n := N) (k := K) (by omega) U V)
      have HT := hide (tail_ok (n := N) (k := (K : Int)) (u := U) (v := V) hv1)
      have HT2 := hide (tail_ok (n := N) (k := (K : Int) + 1) (u := U) (v := V) hv1)
      have hpw := powN_bd12 (x := V) (by omega) (n := N) (by omega)
      have hT : 0 ≤ tailN N K U V ∧ tailN N K U V ≤ 61917364224 * ((N + 1 : Nat) : Int) := partN_bd (fun h => decide ((K : Int) ≤ (h : Int))) (u := U) (w := V - U) (by omega) (by omega) (by omega) (n := N) (by omega) (N + 1) (Nat.le_refl _)
      have hT2 : 0 ≤ tailN N ((K : Int) + 1) U V ∧ tailN N ((K : Int) + 1) U V ≤ 61917364224 * ((N + 1 : Nat) : Int) := partN_bd (fun h => decide ((K : Int) + 1 ≤ (h : Int))) (u := U) (w := V - U) (by omega) (by omega) (by omega) (n := N) (by omega) (N + 1) (Nat.le_refl _)
      obtain ⟨P, hP⟩ : ∃ P, powN V N = P := ⟨_, rfl⟩
      obtain ⟨T, hTe⟩ : ∃ T, tailN N K U V = T := ⟨_, rfl⟩
      obtain ⟨T2, hT2e⟩ : ∃ T, tailN N ((K : Int) + 1) U V = T := ⟨_, rfl⟩
      obtain ⟨M, hMe⟩ : ∃ T, termN N K U (V - U) = T := ⟨_, rfl⟩
      rw [hP] at HX hbd HT HT2 hpw
      rw [hTe] at HX hbd HT HL hT
      rw [hT2e] at HT2 HL hT2
      rw [hMe] at hbd HL
      obtain ⟨D0, hD0⟩ : ∃ D, min (2 * min T (downN N K U V)) P = D := ⟨_, rfl⟩
      obtain ⟨D1, hD1⟩ : ∃ D, partN (likelyP N K U V) N U (V - U) (N + 1) = D := ⟨_, rfl⟩
      obtain ⟨D2, hD2⟩ : ∃ D, partN (farP N K U V) N U (V - U) (N + 1) = D := ⟨_, rfl⟩
      rw [hD0, hD1, hD2] at HX hbd
      have hall : ∀ i, i < 3 → M ≤ atL [D0, D1, D2] i ∧ atL [D0, D1, D2] i ≤ P := fun i hi => by
        rcases i with _ | _ | _ | i
        · exact hbd.1
        · exact hbd.2.1
        · exact hbd.2.2
        · omega
      have hlen : [D0, D1, D2].length = 3 := rfl
      obtain ⟨ys, hys⟩ : ∃ ys, ys = [D0, D1, D2] := ⟨_, rfl⟩
      rw [← hys] at HX hall hlen
      rw [HX.out] at HR
      have HM : Hid (T - T2 = M) := HL
      have hML : T - T2 = M := HL.out
      clear hP hTe hT2e hMe hD0 hD1 hD2 hys hok hv1 HL
      go_wp2_with fail
      refine (TwoI_c _ _ _ _ _).mono ?_
      rw [HX.out]
      rintro e w2 ⟨v2, rfl, hs2, hb2⟩
      have hr2 := hs2.rd
      have HLen := hide hlen
      clear hlen
      obtain ⟨A2, c2, rfl, hc2, hm2, _⟩ := id hr2
      have hlz : ((ys.length : Int) == 0) = false := by rw [HLen.out]; rfl
      have hlz3 : ((ys.length : Int) == 3) = true := by rw [HLen.out]; rfl
      have hat := hr2.at
      go_wp2_with fail
      refine (TwoS_c _ _ _ _ _).mono ?_
      rw [HX.out]
      rintro e w3 ⟨v3, rfl, hs3, hb3⟩
      go_wp2_with fail
      refine (equalInts_c _ _ ys ys true _ (hr2.below hb3) hs3.rd (by simp)).mono ?_
      rintro e w4 ⟨rfl, hb4⟩
      go_wp2_with fail
      refine (TailI_c _ _ _ _ _).mono ?_
      rw [HT.out.1, HT.out.2]
      rintro e w5 ⟨rfl, hb5⟩
      go_wp2_with fail
      refine (TailI_c _ _ _ _ _).mono ?_
      rw [HT2.out.1, HT2.out.2]
      rintro e w6 ⟨rfl, hb6⟩
      have hb26 : Below w2.heap.size w2 w6 := by (repeat (first | exact Below.refl _ _ | assumption | refine Below.setCell ?_ (by first | (simp; done) | omega | (simp; omega) | (simp at *; omega)) _ | refine Below.drew ?_ | refine below_drewN ?_ _ | refine below_alloc' ?_ _ | refine below_to' ?_ (by assumption)))
      have hbw6 : Below w.heap.size w w6 := by (repeat (first | exact Below.refl _ _ | assumption | refine Below.setCell ?_ (by first | (simp; done) | omega | (simp; omega) | (simp at *; omega)) _ | refine Below.drew ?_ | refine below_drewN ?_ _ | refine below_alloc' ?_ _ | refine below_to' ?_ (by assumption)))
      have hr6 := hr2.below hb26
      clear hb3 hb4 hb5 hb6 hb1 hb2
      go_wp2_with fail
      go_loop [12] (fun i => ∃ k : Nat, k ≤ 3 ∧ i = .int .i64 k) (fun i => 3 - (intOf i).toNat)
      case atStart => exact ⟨0, by omega, rfl⟩
      case round =>
        obtain ⟨k, hk, rfl⟩ := hrel
        by_cases hlt : k < 3
        · obtain ⟨g, off, rfl, hg, hcl⟩ := hat (by have := HLen.out; omega)
          have hck : w6.cell? ⟨g, off + k, none⟩ = some (.int .i64 (atL ys k)) := (hb26.cell hg).trans (hcl k (by have := HLen.out; omega))
          have hik : (k : Int) < (ys.length : Int) := by have := HLen.out; omega
          obtain ⟨hb1, hb2⟩ := hall k hlt
          obtain ⟨X, hX⟩ : ∃ X, atL ys k = X := ⟨_, rfl⟩
          rw [hX] at hck hb1 hb2
          clear hX hat hcl
          have hx1 : ¬ P < X := by omega
          have hx2 : ¬ X < T - T2 := by omega
          go_wp2_with fail
          go_round
          case rel => exact ⟨k + 1, by omega, by go_num⟩
          case measure => simp [intOf]; omega
        · obtain rfl : k = 3 := by omega
          clear hat
          go_wp2_with fail
          refine (TwoI_c _ _ _ _ _).mono ?_
          rw [HR.out]
          rintro e w7 ⟨v7, rfl, hs7, hb7⟩
          go_wp2_with fail
          refine (equalInts_c _ _ ys ys true _ hs7.rd (hr6.below hb7) (by simp)).mono ?_
          rintro e w8 ⟨rfl, hb8⟩
          go_wp2_with fail
          go_ret
          exact ⟨ret_bool (by first | (simp; done) | (simp; omega)), by (repeat (first | exact Below.refl _ _ | assumption | refine Below.setCell ?_ (by first | (simp; done) | omega | (simp; omega) | (simp at *; omega)) _ | refine Below.drew ?_ | refine below_drewN ?_ _ | refine below_alloc' ?_ _ | refine below_to' ?_ (by assumption)))⟩
end Go.Proofs.Ytgclgcfhcomplaa
