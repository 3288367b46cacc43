/-
  The statement FnMiddlePlaces: for every code it returns true and writes nothing that was there.
-/
import Derived.Test.YtgclgcfhcomplaaMidI
import Derived.Test.YtgclgcfhcomplaaDrawT
namespace Go.Proofs.Ytgclgcfhcomplaa
open Go.RowKit

theorem okMid_bd {n a b : Int} (h : okMid n a b = true) : (1 ≤ n ∧ n ≤ 10) ∧ (0 ≤ a ∧ a ≤ 100) ∧ 0 ≤ b ∧ b ≤ 100 := by
  simp [okMid, okLevel] at h
  omega

set_option maxHeartbeats 2000000 in
theorem FnMiddlePlaces_c (A : Option Addr) (n c : Nat) (bs : List Int) (w : World) (hl : bs.length = n) (hnc : n ≤ c) (hc : c ≤ 9223372036854775807) (hr : Rd8 w w.heap.size A bs) :
    Calls Try.prog 4 #[.slice A n c] w fun e w' => e = .returned (.bool true) ∧ Below w.heap.size w w' := by
  by_cases hbig : 1048576 < n
  · go_enter Try.func4, Try.ntmps4
    go_wp2
    go_ret
    exact ⟨rfl, Below.refl _ _⟩
  · go_enter Try.func4, Try.ntmps4
    go_wp2_with fail
    refine (DrawMiddlePlaces_c A n c bs _ hl hnc hc hr).mono ?_
    rintro e w1 ⟨N, a, b, rfl, hN, ha, hb, hb1⟩
    cases hok : okMid N a b
    · have HX := hide (mid_bad hok)
      clear hok
      go_wp2_with fail
      refine (MidI_c _ _ _ _).mono ?_
      rw [HX.out.1, HX.out.2]
      rintro e w2 ⟨rfl, hb2⟩
      go_wp2_with fail
      refine (MidS_c _ _ _ _).mono ?_
      rw [HX.out.1, HX.out.2]
      rintro e w3 ⟨rfl, rfl⟩
      go_wp2_with fail
      go_ret
      exact ⟨rfl, by (repeat (first | exact Below.refl _ _ | assumption | refine Below.setCell ?_ (by first | (simp; done) | omega | (simp; omega) | (simp at *; omega)) _ | refine Below.drew ?_ | refine below_drewN ?_ _ | refine below_alloc' ?_ _ | refine below_to' ?_ (by assumption)))⟩
    · obtain ⟨g1, g2, g3⟩ := okMid_bd hok
      obtain ⟨N, rfl⟩ := Int.eq_ofNat_of_zero_le (show 0 ≤ N by omega)
      have HX := hide (mid_ok hok)
      obtain ⟨hJ1, hJ2, hJ3⟩ := midJ_spec (n := N) (a := a) (b := b) (by omega)
      have hpw := pow2_bd (n := N) (by omega)
      obtain ⟨J, hJ⟩ : ∃ J, midJ N a b = J := ⟨_, rfl⟩
      rw [hJ] at HX hJ1 hJ2 hJ3
      have hF := fewN_bd (n := N) (by omega) J
      have hC := pasc_bd32 (n := N) (by omega) J
      have hF0 : J = 0 → fewN N J = 0 := fun h => by rw [h, fewN_zero]
      have hc1 : 2 * fewN N J * b ≤ a * powN 2 N := by simpa [goodM] using hJ1
      have hc2 : 2 * J + 2 ≤ N → ¬ 2 * (fewN N J + pasc N J) * b ≤ a * powN 2 N := fun h => by
        have := hJ3 (J + 1) (by omega) (by omega)
        rw [goodM, fewN_succ (by omega)] at this
        simpa using this
      have hF2 := fewN_bd (n := N) (by omega) (J + 1)
      rw [fewN_succ (by omega)] at hF2
      have HC := fun w => chooseL_c N J w (by omega) (by omega)
      have HR := fun w => raisedL_c 2 N w (by omega) (by omega)
      obtain ⟨F, hFe⟩ : ∃ F, fewN N J = F := ⟨_, rfl⟩
      obtain ⟨C, hCe⟩ : ∃ F, pasc N J = F := ⟨_, rfl⟩
      obtain ⟨P, hPe⟩ : ∃ F, powN 2 N = F := ⟨_, rfl⟩
      rw [hFe] at HX hF hF0 hc1 hc2 hF2
      rw [hCe] at hC hc2 hF2
      rw [hPe] at HX hF hF2 hc1 hc2 hpw
      simp only [hCe] at HC
      simp only [hPe] at HR
      have HC' := hide HC
      have HR' := hide HR
      clear hJ hJ1 hJ3 hFe hCe hPe hok HC HR
      have hma := mul_pos_bd (a := a) (b := P) (m := 100) (n := 1024) (by omega) (by omega)
      by_cases h0 : J = 0
      · have hFz := hF0 h0
        subst h0
        subst hFz
        have hmb := mul_pos_bd (a := 2 * C) (b := b) (m := 8589934592) (n := 100) (by omega) (by omega)
        have HX0 : Hid (midX N a b = 0 ∧ midY N a b = P) := ⟨by rw [HX.out.1]; rfl, by rw [HX.out.2]; omega⟩
        have HC0 : Hid (∀ w, Calls Try.prog 22 #[.int .i64 N, .int .i64 0] w fun e w' => e = .returned (.int .i64 C) ∧ w = w') := HC'.out
        by_cases hE : 2 ≤ N
        · have hc3 : a * P < 2 * C * b := by
            have := hc2 (by omega)
            rw [Int.zero_add] at this
            omega
          have hE' : ¬ (N : Int) < 2 := by omega
          clear hF0 hc1 hc2 hF2 hF hE
          go_wp2_with fail
          refine (MidI_c _ _ _ _).mono ?_
          rw [HX0.out.1, HX0.out.2]
          rintro e w2 ⟨rfl, hb2⟩
          go_wp2_with fail
          refine (MidS_c _ _ _ _).mono ?_
          rw [HX0.out.1, HX0.out.2]
          rintro e w3 ⟨rfl, rfl⟩
          go_wp2_with fail
          refine (HR'.out _).mono ?_
          rintro e w3 ⟨rfl, rfl⟩
          go_wp2_with fail
          refine (HC0.out _).mono ?_
          rintro e w3 ⟨rfl, rfl⟩
          go_wp2_with fail
          go_ret
          exact ⟨ret_bool (by first | (simp; done) | (simp; omega)), by (repeat (first | exact Below.refl _ _ | assumption | refine Below.setCell ?_ (by first | (simp; done) | omega | (simp; omega) | (simp at *; omega)) _ | refine Below.drew ?_ | refine below_drewN ?_ _ | refine below_alloc' ?_ _ | refine below_to' ?_ (by assumption)))⟩
        · have hE' : (N : Int) < 2 := by omega
          clear hF0 hc1 hc2 hF2 hF hE
          go_wp2_with fail
          refine (MidI_c _ _ _ _).mono ?_
          rw [HX0.out.1, HX0.out.2]
          rintro e w2 ⟨rfl, hb2⟩
          go_wp2_with fail
          refine (MidS_c _ _ _ _).mono ?_
          rw [HX0.out.1, HX0.out.2]
          rintro e w3 ⟨rfl, rfl⟩
          go_wp2_with fail
          refine (HR'.out _).mono ?_
          rintro e w3 ⟨rfl, rfl⟩
          go_wp2_with fail
          refine (HC0.out _).mono ?_
          rintro e w3 ⟨rfl, rfl⟩
          go_wp2_with fail
          go_ret
          exact ⟨ret_bool (by first | (simp; done) | (simp; omega)), by (repeat (first | exact Below.refl _ _ | assumption | refine Below.setCell ?_ (by first | (simp; done) | omega | (simp; omega) | (simp at *; omega)) _ | refine Below.drew ?_ | refine below_drewN ?_ _ | refine below_alloc' ?_ _ | refine below_to' ?_ (by assumption)))⟩
      · obtain ⟨Y, hY⟩ : ∃ Y, P - 2 * F = Y := ⟨_, rfl⟩
        rw [hY] at HX
        have hPY : P - Y = 2 * F := by omega
        rw [← hPY] at hc1
        have hmb := mul_pos_bd (a := P - Y) (b := b) (m := 2048) (n := 100) (by omega) (by omega)
        have hmb2 := mul_pos_bd (a := P - Y + 2 * C) (b := b) (m := 8589936640) (n := 100) (by omega) (by omega)
        have hYb : (-1024 ≤ Y ∧ Y ≤ 1024) ∧ 0 ≤ P - Y ∧ P - Y ≤ 2048 := by omega
        have hj0 : ((J : Int) == 0) = false := beq_eq_false_iff_ne.2 (by omega)
        have hJN : 2 * (J : Int) ≤ (N : Int) := by omega
        by_cases hE : 2 * J + 2 ≤ N
        · have hc3 : a * P < (P - Y + 2 * C) * b := by
            have := hc2 hE
            rw [Int.mul_add, ← hPY] at this
            omega
          have hE' : ¬ (N : Int) < 2 * (J : Int) + 2 := by omega
          have HPY := hide hPY
          clear hF0 hc2 hF2 hE hPY h0 hJ2 hY
          go_wp2_with fail
          refine (MidI_c _ _ _ _).mono ?_
          rw [HX.out.1, HX.out.2]
          rintro e w2 ⟨rfl, hb2⟩
          go_wp2_with fail
          refine (MidS_c _ _ _ _).mono ?_
          rw [HX.out.1, HX.out.2]
          rintro e w3 ⟨rfl, rfl⟩
          go_wp2_with fail
          refine (HR'.out _).mono ?_
          rintro e w3 ⟨rfl, rfl⟩
          go_wp2_with fail
          refine (HC'.out _).mono ?_
          rintro e w3 ⟨rfl, rfl⟩
          go_wp2_with fail
          go_ret
          exact ⟨ret_bool (by first | (simp; done) | (simp; omega)), by (repeat (first | exact Below.refl _ _ | assumption | refine Below.setCell ?_ (by first | (simp; done) | omega | (simp; omega) | (simp at *; omega)) _ | refine Below.drew ?_ | refine below_drewN ?_ _ | refine below_alloc' ?_ _ | refine below_to' ?_ (by assumption)))⟩
        · have hE' : (N : Int) < 2 * (J : Int) + 2 := by omega
          have HPY := hide hPY
          clear hF0 hc2 hF2 hE hPY h0 hJ2 hY
          go_wp2_with fail
          refine (MidI_c _ _ _ _).mono ?_
          rw [HX.out.1, HX.out.2]
          rintro e w2 ⟨rfl, hb2⟩
          go_wp2_with fail
          refine (MidS_c _ _ _ _).mono ?_
          rw [HX.out.1, HX.out.2]
          rintro e w3 ⟨rfl, rfl⟩
          go_wp2_with fail
          refine (HR'.out _).mono ?_
          rintro e w3 ⟨rfl, rfl⟩
          go_wp2_with fail
          refine (HC'.out _).mono ?_
          rintro e w3 ⟨rfl, rfl⟩
          go_wp2_with fail
          go_ret
          exact ⟨ret_bool (by first | (simp; done) | (simp; omega)), by (repeat (first | exact Below.refl _ _ | assumption | refine Below.setCell ?_ (by first | (simp; done) | omega | (simp; omega) | (simp at *; omega)) _ | refine Below.drew ?_ | refine below_drewN ?_ _ | refine below_alloc' ?_ _ | refine below_to' ?_ (by assumption)))⟩
end Go.Proofs.Ytgclgcfhcomplaa
