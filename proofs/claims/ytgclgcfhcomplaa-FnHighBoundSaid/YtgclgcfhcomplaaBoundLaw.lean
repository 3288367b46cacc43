/-
  The statements FnLowBound and FnHighBound: for every code they return true and write nothing that was there.
-/
import Derived.Test.YtgclgcfhcomplaaLowS
import Derived.Test.YtgclgcfhcomplaaDrawT
namespace Go.Proofs.Ytgclgcfhcomplaa
open Go.RowKit

theorem okLow_bd {n k v a b : Int} (h : okLow n k v a b = true) : (1 ≤ n ∧ n ≤ 10) ∧ (1 ≤ k ∧ k ≤ n) ∧ (1 ≤ v ∧ v ≤ 12) ∧ (0 ≤ a ∧ a ≤ 100) ∧ 0 ≤ b ∧ b ≤ 100 := by
  simp [okLow, okTries, okLevel] at h
  omega

set_option maxHeartbeats 2000000 in
theorem FnLowBound_c (A : Option Addr) (n c : Nat) (bs : List Int) (w : World) (hl : bs.length = n) (hnc : n ≤ c) (hc : c ≤ 9223372036854775807) (hr : Rd8 w w.heap.size A bs) :
    Calls Try.prog 5 #[.slice A n c] w fun e w' => e = .returned (.bool true) ∧ Below w.heap.size w w' := by
  by_cases hbig : 1048576 < n
  · go_enter Try.func5, Try.ntmps5
    go_wp2
    go_ret
    exact ⟨rfl, Below.refl _ _⟩
  · go_enter Try.func5, Try.ntmps5
    go_wp2_with fail
    refine (DrawLowBound_c A n c bs _ hl hnc hc hr).mono ?_
    rintro e w1 ⟨N, K, V, a, b, rfl, hN, hK, hV, ha, hb, hb1⟩
    cases hok : okLow N K V a b
    · have HX := hide (lowX_bad hok)
      clear hok
      go_wp2_with fail
      refine (LowI_c _ _ _ _ _ _ (by omega)).mono ?_
      rw [HX.out]
      rintro e w2 ⟨rfl, hb2⟩
      go_wp2_with fail
      refine (LowS_c _ _ _ _ _ _ (by omega)).mono ?_
      rw [HX.out]
      rintro e w3 ⟨rfl, rfl⟩
      go_wp2_with fail
      refine (LowS_c _ _ _ _ _ _ (by omega)).mono ?_
      rw [HX.out]
      rintro e w3 ⟨rfl, rfl⟩
      go_wp2_with fail
      go_ret
      exact ⟨rfl, by (repeat (first | exact Below.refl _ _ | assumption | refine Below.setCell ?_ (by first | (simp; done) | omega | (simp; omega) | (simp at *; omega)) _ | refine Below.drew ?_ | refine below_drewN ?_ _ | refine below_alloc' ?_ _ | refine below_to' ?_ (by assumption)))⟩
    · obtain ⟨g1, g2, g3, g4, g5⟩ := okLow_bd hok
      obtain ⟨N, rfl⟩ := Int.eq_ofNat_of_zero_le (show 0 ≤ N by omega)
      obtain ⟨K, rfl⟩ := Int.eq_ofNat_of_zero_le (show 0 ≤ K by omega)
      obtain ⟨V, rfl⟩ := Int.eq_ofNat_of_zero_le (show 0 ≤ V by omega)
      have HX := hide (lowX_ok hok)
      obtain ⟨hL1, hL2, hL3⟩ := lastTo_spec (good0 (n := N) (k := K) (v := V) (a := a) (b := b) (by omega) (by omega) (by omega)) V
      obtain ⟨L, hL⟩ : ∃ L, lastTo (goodL N K V a b) (V + 1) = L := ⟨_, rfl⟩
      rw [hL] at HX hL1 hL2 hL3
      clear hL hok
      have hpw := powN_bd12 (x := V) (by omega) (n := N) (by omega)
      have hT : 0 ≤ tailN N K L V ∧ tailN N K L V ≤ 61917364224 * ((N + 1 : Nat) : Int) := partN_bd (fun h => decide ((K : Int) ≤ (h : Int))) (u := (L : Int)) (w := (V : Int) - L) (by omega) (by omega) (by omega) (n := N) (by omega) (N + 1) (Nat.le_refl _)
      have HT := hide (tail_ok (n := N) (k := K) (u := L) (v := V) (okTries_iff.2 (by omega)))
      have hc1 : tailN N K L V * b ≤ a * powN V N := by simpa [goodL] using hL1
      by_cases hLV : L = V
      · obtain ⟨P, hP⟩ : ∃ P, powN V N = P := ⟨_, rfl⟩
        obtain ⟨T, hT2⟩ : ∃ T, tailN N K L V = T := ⟨_, rfl⟩
        rw [hP] at HT hpw hc1
        rw [hT2] at HT hT hc1
        have hm1 := mul_pos_bd (a := T) (b := b) (m := 681091006464) (n := 100) (by omega) (by omega)
        have hm2 := mul_pos_bd (a := a) (b := P) (m := 100) (n := 61917364224) (by omega) (by omega)
        have HU := hide (tail_bad (n := N) (k := K) (u := (L : Int) + 1) (v := V) (by
          cases h : okTries N ((L : Int) + 1) V
          · rfl
          · have := okTries_iff.1 h; omega))
        have hE : ((L : Int) == (V : Int)) = true := by simp [hLV]
        clear hL1 hL3 hP hT2 hLV
        go_wp2_with fail
        refine (LowI_c _ _ _ _ _ _ (by omega)).mono ?_
        rw [HX.out]
        rintro e w2 ⟨rfl, hb2⟩
        go_wp2_with fail
        refine (LowS_c _ _ _ _ _ _ (by omega)).mono ?_
        rw [HX.out]
        rintro e w3 ⟨rfl, rfl⟩
        go_wp2_with fail
        refine (TailI_c _ _ _ _ _).mono ?_
        rw [HT.out.1, HT.out.2]
        rintro e w4 ⟨rfl, hb4⟩
        go_wp2_with fail
        refine (TailI_c _ _ _ _ _).mono ?_
        rw [HU.out.1, HU.out.2]
        rintro e w5 ⟨rfl, hb5⟩
        go_wp2_with fail
        go_ret
        exact ⟨ret_bool (by first | (simp; done) | (simp; omega)), by (repeat (first | exact Below.refl _ _ | assumption | refine Below.setCell ?_ (by first | (simp; done) | omega | (simp; omega) | (simp at *; omega)) _ | refine Below.drew ?_ | refine below_drewN ?_ _ | refine below_alloc' ?_ _ | refine below_to' ?_ (by assumption)))⟩
      · have hc2 : ¬ tailN N K ((L + 1 : Nat) : Int) V * b ≤ a * powN V N := by
          have := hL3 (L + 1) (by omega) (by omega)
          simpa [goodL] using this
        have hU : 0 ≤ tailN N K ((L + 1 : Nat) : Int) V ∧ tailN N K ((L + 1 : Nat) : Int) V ≤ 61917364224 * ((N + 1 : Nat) : Int) := partN_bd (fun h => decide ((K : Int) ≤ (h : Int))) (u := ((L + 1 : Nat) : Int)) (w := (V : Int) - ((L + 1 : Nat) : Int)) (by omega) (by omega) (by omega) (n := N) (by omega) (N + 1) (Nat.le_refl _)
        have HU := hide (tail_ok (n := N) (k := K) (u := ((L + 1 : Nat) : Int)) (v := V) (okTries_iff.2 (by omega)))
        have eL : ((L + 1 : Nat) : Int) = (L : Int) + 1 := by omega
        rw [eL] at hc2 hU HU
        obtain ⟨P, hP⟩ : ∃ P, powN V N = P := ⟨_, rfl⟩
        obtain ⟨T, hT2⟩ : ∃ T, tailN N K L V = T := ⟨_, rfl⟩
        obtain ⟨U, hU2⟩ : ∃ T, tailN N K ((L : Int) + 1) V = T := ⟨_, rfl⟩
        rw [hP] at HT HU hpw hc1 hc2
        rw [hT2] at HT hT hc1
        rw [hU2] at HU hU hc2
        have hm1 := mul_pos_bd (a := T) (b := b) (m := 681091006464) (n := 100) (by omega) (by omega)
        have hm2 := mul_pos_bd (a := a) (b := P) (m := 100) (n := 61917364224) (by omega) (by omega)
        have hm3 := mul_pos_bd (a := U) (b := b) (m := 681091006464) (n := 100) (by omega) (by omega)
        have hE : ((L : Int) == (V : Int)) = false := beq_eq_false_iff_ne.2 (by omega)
        clear hL1 hL3 hP hT2 hU2 hLV eL
        go_wp2_with fail
        refine (LowI_c _ _ _ _ _ _ (by omega)).mono ?_
        rw [HX.out]
        rintro e w2 ⟨rfl, hb2⟩
        go_wp2_with fail
        refine (LowS_c _ _ _ _ _ _ (by omega)).mono ?_
        rw [HX.out]
        rintro e w3 ⟨rfl, rfl⟩
        go_wp2_with fail
        refine (TailI_c _ _ _ _ _).mono ?_
        rw [HT.out.1, HT.out.2]
        rintro e w4 ⟨rfl, hb4⟩
        go_wp2_with fail
        refine (TailI_c _ _ _ _ _).mono ?_
        rw [HU.out.1, HU.out.2]
        rintro e w5 ⟨rfl, hb5⟩
        go_wp2_with fail
        go_ret
        exact ⟨ret_bool (by first | (simp; done) | (simp; omega)), by (repeat (first | exact Below.refl _ _ | assumption | refine Below.setCell ?_ (by first | (simp; done) | omega | (simp; omega) | (simp at *; omega)) _ | refine Below.drew ?_ | refine below_drewN ?_ _ | refine below_alloc' ?_ _ | refine below_to' ?_ (by assumption)))⟩

set_option maxHeartbeats 2000000 in
theorem FnHighBound_c (A : Option Addr) (n c : Nat) (bs : List Int) (w : World) (hl : bs.length = n) (hnc : n ≤ c) (hc : c ≤ 9223372036854775807) (hr : Rd8 w w.heap.size A bs) :
    Calls Try.prog 7 #[.slice A n c] w fun e w' => e = .returned (.bool true) ∧ Below w.heap.size w w' := by
  by_cases hbig : 1048576 < n
  · go_enter Try.func7, Try.ntmps7
    go_wp2
    go_ret
    exact ⟨rfl, Below.refl _ _⟩
  · go_enter Try.func7, Try.ntmps7
    go_wp2_with fail
    refine (DrawHighBound_c A n c bs _ hl hnc hc hr).mono ?_
    rintro e w1 ⟨N, K, V, a, b, rfl, hN, hK, hV, ha, hb, hb1⟩
    cases hok : okHigh N K V a b
    · have HX := hide (highX_bad hok)
      clear hok
      go_wp2_with fail
      refine (HighI_c _ _ _ _ _ _ (by omega)).mono ?_
      rw [HX.out]
      rintro e w2 ⟨rfl, hb2⟩
      go_wp2_with fail
      refine (HighS_c _ _ _ _ _ _ (by omega)).mono ?_
      rw [HX.out]
      rintro e w3 ⟨rfl, rfl⟩
      go_wp2_with fail
      refine (HighS_c _ _ _ _ _ _ (by omega)).mono ?_
      rw [HX.out]
      rintro e w3 ⟨rfl, rfl⟩
      go_wp2_with fail
      go_ret
      exact ⟨rfl, by (repeat (first | exact Below.refl _ _ | assumption | refine Below.setCell ?_ (by first | (simp; done) | omega | (simp; omega) | (simp at *; omega)) _ | refine Below.drew ?_ | refine below_drewN ?_ _ | refine below_alloc' ?_ _ | refine below_to' ?_ (by assumption)))⟩
    · have hok2 := hok
      rw [← okHigh_low] at hok2
      obtain ⟨g1, g2, g3, g4, g5⟩ := okLow_bd hok2
      have HX := hide (highX_ok hok)
      have hbd : 0 ≤ lowX N (N - K) V a b ∧ lowX N (N - K) V a b ≤ V := by
        rw [lowX, if_pos hok2]
        obtain ⟨V, rfl⟩ := Int.eq_ofNat_of_zero_le (show 0 ≤ V by omega)
        have := (lastTo_spec (good0 (n := N.toNat) (k := (N - K).toNat) (v := V) (a := a) (b := b) (by omega) (by omega) (by omega)) V).2.1
        rw [show ((V : Nat) : Int).toNat = V from by omega]
        omega
      obtain ⟨L, hL⟩ : ∃ L, lowX N (N - K) V a b = L := ⟨_, rfl⟩
      rw [hL] at HX hbd
      have HL := hide hL
      clear hL hok hok2
      go_wp2_with fail
      refine (HighI_c _ _ _ _ _ _ (by omega)).mono ?_
      rw [HX.out]
      rintro e w2 ⟨rfl, hb2⟩
      go_wp2_with fail
      refine (HighS_c _ _ _ _ _ _ (by omega)).mono ?_
      rw [HX.out]
      rintro e w3 ⟨rfl, rfl⟩
      go_wp2_with fail
      refine (LowI_c _ _ _ _ _ _ (by omega)).mono ?_
      rw [HL.out]
      rintro e w4 ⟨rfl, hb4⟩
      go_wp2_with fail
      go_ret
      exact ⟨ret_bool (by first | (simp; done) | (simp; omega)), by (repeat (first | exact Below.refl _ _ | assumption | refine Below.setCell ?_ (by first | (simp; done) | omega | (simp; omega) | (simp at *; omega)) _ | refine Below.drew ?_ | refine below_drewN ?_ _ | refine below_alloc' ?_ _ | refine below_to' ?_ (by assumption)))⟩
end Go.Proofs.Ytgclgcfhcomplaa
