/-
  The statements FnExactGapOf and FnGapOf: for every input they return true and write nothing that was there.
-/
import Derived.Test.YtcmjmnlccempfaaGap
import Derived.Test.YtcmjmnlccempfaaDrawS
import Derived.Test.YtcmjmnlccempfaaHelp
namespace Go.Proofs.Ytcmjmnlccempfaa
open Go.RowKit

set_option maxHeartbeats 1000000 in
theorem FnExactGapOf_c (u v : Value) (xs ys : List Int) (w : World) (hx : Rd w u xs) (hy : Rd w v ys) :
    Calls Try.prog 4 #[u, v] w fun e w' => e = .returned (.bool true) ∧ Below w.heap.size w w' := by
  have hcx := hx
  have hcy := hy
  obtain ⟨A, c, rfl, hc, hm, hd1⟩ := hx
  obtain ⟨A2, c2, rfl, hc2, hm2, hd2⟩ := hy
  clear hd1 hd2
  by_cases hl1 : 1048576 < xs.length
  · go_enter Try.func4, Try.ntmps4
    go_wp2
    go_ret
    exact ⟨rfl, Below.refl _ _⟩
  by_cases hl2 : 1048576 < ys.length
  · go_enter Try.func4, Try.ntmps4
    go_wp2
    go_ret
    exact ⟨rfl, Below.refl _ _⟩
  · go_enter Try.func4, Try.ntmps4
    go_wp2_with fail
    refine (toIntS_c _ xs _ hcx (by omega)).mono ?_
    rintro e w1 ⟨v1, rfl, hs1, hb1⟩
    go_wp2_with fail
    refine (toIntS_c _ ys _ (Rd.below hcy (by (repeat (first | exact Below.refl _ _ | assumption | refine Below.setCell ?_ (by first | (simp; done) | omega | (simp; omega) | (simp at *; omega)) _ | refine Below.drew ?_ | refine below_drewN ?_ _ | refine below_alloc' ?_ _ | refine below_to' ?_ (by assumption))))) (by omega)).mono ?_
    rintro e w2 ⟨v2, rfl, hs2, hb2⟩
    go_wp2_with fail
    refine (GapS_c _ _ xs ys _ (Rd.below hs1.rd (by (repeat (first | exact Below.refl _ _ | assumption | refine Below.setCell ?_ (by first | (simp; done) | omega | (simp; omega) | (simp at *; omega)) _ | refine Below.drew ?_ | refine below_drewN ?_ _ | refine below_alloc' ?_ _ | refine below_to' ?_ (by assumption))))) hs2.rd (by omega) (by omega)).mono ?_
    rintro e w3 ⟨rfl, hb3⟩
    go_wp2_with fail
    refine (toIntS_c _ xs _ (Rd.below hcx (by (repeat (first | exact Below.refl _ _ | assumption | refine Below.setCell ?_ (by first | (simp; done) | omega | (simp; omega) | (simp at *; omega)) _ | refine Below.drew ?_ | refine below_drewN ?_ _ | refine below_alloc' ?_ _ | refine below_to' ?_ (by assumption))))) (by omega)).mono ?_
    rintro e w4 ⟨v4, rfl, hs4, hb4⟩
    go_wp2_with fail
    refine (toIntS_c _ ys _ (Rd.below hcy (by (repeat (first | exact Below.refl _ _ | assumption | refine Below.setCell ?_ (by first | (simp; done) | omega | (simp; omega) | (simp at *; omega)) _ | refine Below.drew ?_ | refine below_drewN ?_ _ | refine below_alloc' ?_ _ | refine below_to' ?_ (by assumption))))) (by omega)).mono ?_
    rintro e w5 ⟨v5, rfl, hs5, hb5⟩
    go_wp2_with fail
    refine (GapI_c _ _ xs ys _ (Rd.below hs4.rd (by (repeat (first | exact Below.refl _ _ | assumption | refine Below.setCell ?_ (by first | (simp; done) | omega | (simp; omega) | (simp at *; omega)) _ | refine Below.drew ?_ | refine below_drewN ?_ _ | refine below_alloc' ?_ _ | refine below_to' ?_ (by assumption))))) hs5.rd (by omega) (by omega)).mono ?_
    rintro e w6 ⟨rfl, hb6⟩
    go_wp2_with fail
    refine (toIntS_c _ xs _ (Rd.below hcx (by (repeat (first | exact Below.refl _ _ | assumption | refine Below.setCell ?_ (by first | (simp; done) | omega | (simp; omega) | (simp at *; omega)) _ | refine Below.drew ?_ | refine below_drewN ?_ _ | refine below_alloc' ?_ _ | refine below_to' ?_ (by assumption))))) (by omega)).mono ?_
    rintro e w7 ⟨v7, rfl, hs7, hb7⟩
    go_wp2_with fail
    refine (eqIntS_c _ _ xs xs true _ (Rd.below hs4.rd (by (repeat (first | exact Below.refl _ _ | assumption | refine Below.setCell ?_ (by first | (simp; done) | omega | (simp; omega) | (simp at *; omega)) _ | refine Below.drew ?_ | refine below_drewN ?_ _ | refine below_alloc' ?_ _ | refine below_to' ?_ (by assumption))))) hs7.rd (by simp)).mono ?_
    rintro e w8 ⟨rfl, hb8⟩
    go_wp2_with fail
    refine (toIntS_c _ ys _ (Rd.below hcy (by (repeat (first | exact Below.refl _ _ | assumption | refine Below.setCell ?_ (by first | (simp; done) | omega | (simp; omega) | (simp at *; omega)) _ | refine Below.drew ?_ | refine below_drewN ?_ _ | refine below_alloc' ?_ _ | refine below_to' ?_ (by assumption))))) (by omega)).mono ?_
    rintro e w9 ⟨v9, rfl, hs9, hb9⟩
    go_wp2_with fail
    refine (eqIntS_c _ _ ys ys true _ (Rd.below hs5.rd (by (repeat (first | exact Below.refl _ _ | assumption | refine Below.setCell ?_ (by first | (simp; done) | omega | (simp; omega) | (simp at *; omega)) _ | refine Below.drew ?_ | refine below_drewN ?_ _ | refine below_alloc' ?_ _ | refine below_to' ?_ (by assumption))))) hs9.rd (by simp)).mono ?_
    rintro e w10 ⟨rfl, hb10⟩
    go_wp2_with fail
    go_ret
    refine ⟨rfl, ?_⟩
    (repeat (first | exact Below.refl _ _ | assumption | refine Below.setCell ?_ (by first | (simp; done) | omega | (simp; omega) | (simp at *; omega)) _ | refine Below.drew ?_ | refine below_drewN ?_ _ | refine below_alloc' ?_ _ | refine below_to' ?_ (by assumption)))

theorem okTwo_turn {xs ys : List Int} (h : okTwo xs ys = true) : okTwo ys xs = true := by
  obtain ⟨h1, h2, h3, h4, h5⟩ := okTwo_all h
  exact okTwo_yes h2 h1 (by omega) h5 h4
theorem okData_neg {xs : List Int} (h : okData xs = true) : okData (negL xs) = true := by
  obtain ⟨h1, h2⟩ := okData_all h
  have := negL_allB h1
  simp [okData, this, negL_len]
  exact h2
theorem okTwo_neg {xs ys : List Int} (h : okTwo xs ys = true) : okTwo (negL xs) (negL ys) = true := by
  obtain ⟨h1, h2, h3, h4, h5⟩ := okTwo_all h
  exact okTwo_yes (okData_neg h1) (okData_neg h2) (by simp only [negL_len]; omega) (by rw [negL_len]; exact h4) (by rw [negL_len]; exact h5)

set_option maxRecDepth 20000 in
set_option maxHeartbeats 4000000 in
theorem FnGapOf_c (A : Option Addr) (n c : Nat) (bs : List Int) (w : World) (hl : bs.length = n) (hnc : n ≤ c) (hc : c ≤ 9223372036854775807) (hr : Rd8 w w.heap.size A bs) :
    Calls Try.prog 7 #[.slice A n c] w fun e w' => e = .returned (.bool true) ∧ Below w.heap.size w w' := by
  by_cases hbig : 1048576 < n
  · go_enter Try.func7, Try.ntmps7
    go_wp2
    go_ret
    exact ⟨rfl, Below.refl _ _⟩
  · go_enter Try.func7, Try.ntmps7
    go_wp2_with fail
    refine (DrawGapOf_c A n c bs _ hl hnc hc hr).mono ?_
    rintro e w1 ⟨v, xs, u, ys, rfl, hsv, hxl, hsu, hyl, hb1⟩
    have hrx := hsv.rd
    have hry := hsu.rd
    cases hok : okTwo xs ys
    · have HM := hide (gapX_bad hok)
      clear hok
      go_wp2_with fail
      refine (GapI_c _ _ xs ys _ hrx hry (by omega) (by omega)).mono ?_
      rw [HM.out]
      rintro e w2 ⟨rfl, hb2⟩
      go_wp2_with fail
      refine (GapS_c _ _ xs ys _ (Rd.below hrx (by (repeat (first | exact Below.refl _ _ | assumption | refine Below.setCell ?_ (by first | (simp; done) | omega | (simp; omega) | (simp at *; omega)) _ | refine Below.drew ?_ | refine below_drewN ?_ _ | refine below_alloc' ?_ _ | refine below_to' ?_ (by assumption))))) (Rd.below hry (by (repeat (first | exact Below.refl _ _ | assumption | refine Below.setCell ?_ (by first | (simp; done) | omega | (simp; omega) | (simp at *; omega)) _ | refine Below.drew ?_ | refine below_drewN ?_ _ | refine below_alloc' ?_ _ | refine below_to' ?_ (by assumption))))) (by omega) (by omega)).mono ?_
      rw [HM.out]
      rintro e w3 ⟨rfl, hb3⟩
      go_wp2_with fail
      refine (GapS_c _ _ xs ys _ (Rd.below hrx (by (repeat (first | exact Below.refl _ _ | assumption | refine Below.setCell ?_ (by first | (simp; done) | omega | (simp; omega) | (simp at *; omega)) _ | refine Below.drew ?_ | refine below_drewN ?_ _ | refine below_alloc' ?_ _ | refine below_to' ?_ (by assumption))))) (Rd.below hry (by (repeat (first | exact Below.refl _ _ | assumption | refine Below.setCell ?_ (by first | (simp; done) | omega | (simp; omega) | (simp at *; omega)) _ | refine Below.drew ?_ | refine below_drewN ?_ _ | refine below_alloc' ?_ _ | refine below_to' ?_ (by assumption))))) (by omega) (by omega)).mono ?_
      rw [HM.out]
      rintro e w4 ⟨rfl, hb4⟩
      go_wp2_with fail
      go_ret
      exact ⟨rfl, by (repeat (first | exact Below.refl _ _ | assumption | refine Below.setCell ?_ (by first | (simp; done) | omega | (simp; omega) | (simp at *; omega)) _ | refine Below.drew ?_ | refine below_drewN ?_ _ | refine below_alloc' ?_ _ | refine below_to' ?_ (by assumption)))⟩
    · obtain ⟨h1, h2, h3, h4, h5⟩ := okTwo_all hok
      have hne1 : xs ≠ [] := List.ne_nil_of_length_pos h4
      have hne2 : ys ≠ [] := List.ne_nil_of_length_pos h5
      have HM := hide (gapX_ok hok)
      have HM2 := hide (gapX_ok (okTwo_turn hok))
      have HM3 := hide (gapX_ok (okTwo_neg hok))
      have hap := gap_apart hne1 hne2
      have hbd := gapN_bd xs ys
      have h0 := (gapN_spec xs ys).1
      rw [gapN_swap] at HM2
      rw [gapN_neg] at HM3
      have ha1 := (okData_all h1).1
      have ha2 := (okData_all h2).1
      have hb1' := minL_bounds ha1 hne1
      have hb2' := minL_bounds ha2 hne2
      have hx9 : allB (-1000000000) 1000000000 xs = true := allB_iff.2 fun x hx => by have := allB_iff.1 ha1 x hx; omega
      have hy9 : allB (-1000000000) 1000000000 ys = true := allB_iff.2 fun x hx => by have := allB_iff.1 ha2 x hx; omega
      have HX9 := hide hx9
      have HY9 := hide hy9
      have HN1 := hide (negL_max hne1).1
      have HN2 := hide (negL_max hne2).1
      have HL1 := hide (negL_len xs)
      have HL2 := hide (negL_len ys)
      have hmm := mul_pos_bd (a := (xs.length : Int)) (b := (ys.length : Int)) (m := 10) (n := 10) (by omega) (by omega)
      obtain ⟨G, hG⟩ : ∃ q, gapN xs ys = q := ⟨_, rfl⟩
      rw [hG] at HM HM2 HM3 hap hbd h0
      obtain ⟨X1, hX1⟩ : ∃ q, maxL xs = q := ⟨_, rfl⟩
      obtain ⟨X2, hX2⟩ : ∃ q, minL xs = q := ⟨_, rfl⟩
      obtain ⟨Y1, hY1⟩ : ∃ q, maxL ys = q := ⟨_, rfl⟩
      obtain ⟨Y2, hY2⟩ : ∃ q, minL ys = q := ⟨_, rfl⟩
      rw [hX1] at hap hb1'
      rw [hX2] at hap hb1' HN1
      rw [hY1] at hap hb2'
      rw [hY2] at hap hb2' HN2
      have HX1 := hide hX1
      have HY1 := hide hY1
      obtain ⟨M, hM⟩ : ∃ q, (xs.length : Int) * (ys.length : Int) = q := ⟨_, rfl⟩
      rw [hM] at hap hbd hmm
      have hMw : IntKind.i64.wrap ((xs.length : Int) * (ys.length : Int)) = M := by rw [hM]; exact IntWalk.i64_in _ (by omega)
      have hG0 : ¬ G < 0 := by omega
      clear hok h1 h2 ha1 ha2 hx9 hy9 hG hX1 hX2 hY1 hY2 hne1 hne2
      obtain ⟨Av, cv, rfl, hcv, hmv, _⟩ := id hrx
      obtain ⟨Au, cu, rfl, hcu, hmu, _⟩ := id hry
      go_wp2_with fail
      refine (GapI_c _ _ xs ys _ hrx hry (by omega) (by omega)).mono ?_
      rw [HM.out]
      rintro e w2 ⟨rfl, hb2⟩
      go_wp2_with fail
      refine (GapS_c _ _ xs ys _ (Rd.below hrx (by (repeat (first | exact Below.refl _ _ | assumption | refine Below.setCell ?_ (by first | (simp; done) | omega | (simp; omega) | (simp at *; omega)) _ | refine Below.drew ?_ | refine below_drewN ?_ _ | refine below_alloc' ?_ _ | refine below_to' ?_ (by assumption))))) (Rd.below hry (by (repeat (first | exact Below.refl _ _ | assumption | refine Below.setCell ?_ (by first | (simp; done) | omega | (simp; omega) | (simp at *; omega)) _ | refine Below.drew ?_ | refine below_drewN ?_ _ | refine below_alloc' ?_ _ | refine below_to' ?_ (by assumption))))) (by omega) (by omega)).mono ?_
      rw [HM.out]
      rintro e w3 ⟨rfl, hb3⟩
      go_wp2_with fail
      refine (greatest_c _ xs _ (Rd.below hrx (by (repeat (first | exact Below.refl _ _ | assumption | refine Below.setCell ?_ (by first | (simp; done) | omega | (simp; omega) | (simp at *; omega)) _ | refine Below.drew ?_ | refine below_drewN ?_ _ | refine below_alloc' ?_ _ | refine below_to' ?_ (by assumption))))) h4).mono ?_
      rw [HX1.out]
      rintro e w4 ⟨rfl, rfl⟩
      go_wp2_with fail
      refine (negated_c _ ys _ (Rd.below hry (by (repeat (first | exact Below.refl _ _ | assumption | refine Below.setCell ?_ (by first | (simp; done) | omega | (simp; omega) | (simp at *; omega)) _ | refine Below.drew ?_ | refine below_drewN ?_ _ | refine below_alloc' ?_ _ | refine below_to' ?_ (by assumption))))) (by omega) HY9.out).mono ?_
      rintro e w5 ⟨v5, rfl, hs5, hb5⟩
      go_wp2_with fail
      refine (greatest_c _ (negL ys) _ hs5.rd (by rw [HL2.out]; omega)).mono ?_
      rw [HN2.out]
      rintro e w6 ⟨rfl, rfl⟩
      by_cases c1 : X1 < Y2
      · have HE : Hid ((G == M) = true) := beq_iff_eq.2 (hap.2 (.inl c1))
        clear hap hM
        go_wp2_with fail
        refine (GapI_c _ _ ys xs _ (Rd.below hry (by (repeat (first | exact Below.refl _ _ | assumption | refine Below.setCell ?_ (by first | (simp; done) | omega | (simp; omega) | (simp at *; omega)) _ | refine Below.drew ?_ | refine below_drewN ?_ _ | refine below_alloc' ?_ _ | refine below_to' ?_ (by assumption))))) (Rd.below hrx (by (repeat (first | exact Below.refl _ _ | assumption | refine Below.setCell ?_ (by first | (simp; done) | omega | (simp; omega) | (simp at *; omega)) _ | refine Below.drew ?_ | refine below_drewN ?_ _ | refine below_alloc' ?_ _ | refine below_to' ?_ (by assumption))))) (by omega) (by omega)).mono ?_
        rw [HM2.out]
        rintro e w11 ⟨rfl, hb11⟩
        go_wp2_with fail
        refine (negated_c _ xs _ (Rd.below hrx (by (repeat (first | exact Below.refl _ _ | assumption | refine Below.setCell ?_ (by first | (simp; done) | omega | (simp; omega) | (simp at *; omega)) _ | refine Below.drew ?_ | refine below_drewN ?_ _ | refine below_alloc' ?_ _ | refine below_to' ?_ (by assumption))))) (by omega) HX9.out).mono ?_
        rintro e w12 ⟨v12, rfl, hs12, hb12⟩
        go_wp2_with fail
        refine (negated_c _ ys _ (Rd.below hry (by (repeat (first | exact Below.refl _ _ | assumption | refine Below.setCell ?_ (by first | (simp; done) | omega | (simp; omega) | (simp at *; omega)) _ | refine Below.drew ?_ | refine below_drewN ?_ _ | refine below_alloc' ?_ _ | refine below_to' ?_ (by assumption))))) (by omega) HY9.out).mono ?_
        rintro e w13 ⟨v13, rfl, hs13, hb13⟩
        go_wp2_with fail
        refine (GapI_c _ _ (negL xs) (negL ys) _ (Rd.below hs12.rd (by (repeat (first | exact Below.refl _ _ | assumption | refine Below.setCell ?_ (by first | (simp; done) | omega | (simp; omega) | (simp at *; omega)) _ | refine Below.drew ?_ | refine below_drewN ?_ _ | refine below_alloc' ?_ _ | refine below_to' ?_ (by assumption))))) hs13.rd (by rw [HL1.out]; omega) (by rw [HL2.out]; omega)).mono ?_
        rw [HM3.out]
        rintro e w14 ⟨rfl, hb14⟩
        have hEe := HE.out
        go_wp2_with fail
        go_ret
        exact ⟨ret_bool (by first | (simp; done) | (simp; omega)), by (repeat (first | exact Below.refl _ _ | assumption | refine Below.setCell ?_ (by first | (simp; done) | omega | (simp; omega) | (simp at *; omega)) _ | refine Below.drew ?_ | refine below_drewN ?_ _ | refine below_alloc' ?_ _ | refine below_to' ?_ (by assumption)))⟩
      · by_cases c2 : Y1 < X2
        · have HE : Hid ((G == M) = true) := beq_iff_eq.2 (hap.2 (.inr c2))
          clear hap hM
          go_wp2_with fail
          refine (greatest_c _ ys _ (Rd.below hry (by (repeat (first | exact Below.refl _ _ | assumption | refine Below.setCell ?_ (by first | (simp; done) | omega | (simp; omega) | (simp at *; omega)) _ | refine Below.drew ?_ | refine below_drewN ?_ _ | refine below_alloc' ?_ _ | refine below_to' ?_ (by assumption))))) h5).mono ?_
          rw [HY1.out]
          rintro e w8 ⟨rfl, rfl⟩
          go_wp2_with fail
          refine (negated_c _ xs _ (Rd.below hrx (by (repeat (first | exact Below.refl _ _ | assumption | refine Below.setCell ?_ (by first | (simp; done) | omega | (simp; omega) | (simp at *; omega)) _ | refine Below.drew ?_ | refine below_drewN ?_ _ | refine below_alloc' ?_ _ | refine below_to' ?_ (by assumption))))) (by omega) HX9.out).mono ?_
          rintro e w9 ⟨v9, rfl, hs9, hb9⟩
          go_wp2_with fail
          refine (greatest_c _ (negL xs) _ hs9.rd (by rw [HL1.out]; omega)).mono ?_
          rw [HN1.out]
          rintro e w10 ⟨rfl, rfl⟩
          go_wp2_with fail
          refine (GapI_c _ _ ys xs _ (Rd.below hry (by (repeat (first | exact Below.refl _ _ | assumption | refine Below.setCell ?_ (by first | (simp; done) | omega | (simp; omega) | (simp at *; omega)) _ | refine Below.drew ?_ | refine below_drewN ?_ _ | refine below_alloc' ?_ _ | refine below_to' ?_ (by assumption))))) (Rd.below hrx (by (repeat (first | exact Below.refl _ _ | assumption | refine Below.setCell ?_ (by first | (simp; done) | omega | (simp; omega) | (simp at *; omega)) _ | refine Below.drew ?_ | refine below_drewN ?_ _ | refine below_alloc' ?_ _ | refine below_to' ?_ (by assumption))))) (by omega) (by omega)).mono ?_
          rw [HM2.out]
          rintro e w11 ⟨rfl, hb11⟩
          go_wp2_with fail
          refine (negated_c _ xs _ (Rd.below hrx (by (repeat (first | exact Below.refl _ _ | assumption | refine Below.setCell ?_ (by first | (simp; done) | omega | (simp; omega) | (simp at *; omega)) _ | refine Below.drew ?_ | refine below_drewN ?_ _ | refine below_alloc' ?_ _ | refine below_to' ?_ (by assumption))))) (by omega) HX9.out).mono ?_
          rintro e w12 ⟨v12, rfl, hs12, hb12⟩
          go_wp2_with fail
          refine (negated_c _ ys _ (Rd.below hry (by (repeat (first | exact Below.refl _ _ | assumption | refine Below.setCell ?_ (by first | (simp; done) | omega | (simp; omega) | (simp at *; omega)) _ | refine Below.drew ?_ | refine below_drewN ?_ _ | refine below_alloc' ?_ _ | refine below_to' ?_ (by assumption))))) (by omega) HY9.out).mono ?_
          rintro e w13 ⟨v13, rfl, hs13, hb13⟩
          go_wp2_with fail
          refine (GapI_c _ _ (negL xs) (negL ys) _ (Rd.below hs12.rd (by (repeat (first | exact Below.refl _ _ | assumption | refine Below.setCell ?_ (by first | (simp; done) | omega | (simp; omega) | (simp at *; omega)) _ | refine Below.drew ?_ | refine below_drewN ?_ _ | refine below_alloc' ?_ _ | refine below_to' ?_ (by assumption))))) hs13.rd (by rw [HL1.out]; omega) (by rw [HL2.out]; omega)).mono ?_
          rw [HM3.out]
          rintro e w14 ⟨rfl, hb14⟩
          have hEe := HE.out
          go_wp2_with fail
          go_ret
          exact ⟨ret_bool (by first | (simp; done) | (simp; omega)), by (repeat (first | exact Below.refl _ _ | assumption | refine Below.setCell ?_ (by first | (simp; done) | omega | (simp; omega) | (simp at *; omega)) _ | refine Below.drew ?_ | refine below_drewN ?_ _ | refine below_alloc' ?_ _ | refine below_to' ?_ (by assumption)))⟩
        · have HE : Hid ((G == M) = false) := beq_eq_false_iff_ne.2 fun h => by
            rcases hap.1 h with h | h
            · exact c1 h
            · exact c2 h
          clear hap hM
          go_wp2_with fail
          refine (greatest_c _ ys _ (Rd.below hry (by (repeat (first | exact Below.refl _ _ | assumption | refine Below.setCell ?_ (by first | (simp; done) | omega | (simp; omega) | (simp at *; omega)) _ | refine Below.drew ?_ | refine below_drewN ?_ _ | refine below_alloc' ?_ _ | refine below_to' ?_ (by assumption))))) h5).mono ?_
          rw [HY1.out]
          rintro e w8 ⟨rfl, rfl⟩
          go_wp2_with fail
          refine (negated_c _ xs _ (Rd.below hrx (by (repeat (first | exact Below.refl _ _ | assumption | refine Below.setCell ?_ (by first | (simp; done) | omega | (simp; omega) | (simp at *; omega)) _ | refine Below.drew ?_ | refine below_drewN ?_ _ | refine below_alloc' ?_ _ | refine below_to' ?_ (by assumption))))) (by omega) HX9.out).mono ?_
          rintro e w9 ⟨v9, rfl, hs9, hb9⟩
          go_wp2_with fail
          refine (greatest_c _ (negL xs) _ hs9.rd (by rw [HL1.out]; omega)).mono ?_
          rw [HN1.out]
          rintro e w10 ⟨rfl, rfl⟩
          go_wp2_with fail
          refine (GapI_c _ _ ys xs _ (Rd.below hry (by (repeat (first | exact Below.refl _ _ | assumption | refine Below.setCell ?_ (by first | (simp; done) | omega | (simp; omega) | (simp at *; omega)) _ | refine Below.drew ?_ | refine below_drewN ?_ _ | refine below_alloc' ?_ _ | refine below_to' ?_ (by assumption))))) (Rd.below hrx (by (repeat (first | exact Below.refl _ _ | assumption | refine Below.setCell ?_ (by first | (simp; done) | omega | (simp; omega) | (simp at *; omega)) _ | refine Below.drew ?_ | refine below_drewN ?_ _ | refine below_alloc' ?_ _ | refine below_to' ?_ (by assumption))))) (by omega) (by omega)).mono ?_
          rw [HM2.out]
          rintro e w11 ⟨rfl, hb11⟩
          go_wp2_with fail
          refine (negated_c _ xs _ (Rd.below hrx (by (repeat (first | exact Below.refl _ _ | assumption | refine Below.setCell ?_ (by first | (simp; done) | omega | (simp; omega) | (simp at *; omega)) _ | refine Below.drew ?_ | refine below_drewN ?_ _ | refine below_alloc' ?_ _ | refine below_to' ?_ (by assumption))))) (by omega) HX9.out).mono ?_
          rintro e w12 ⟨v12, rfl, hs12, hb12⟩
          go_wp2_with fail
          refine (negated_c _ ys _ (Rd.below hry (by (repeat (first | exact Below.refl _ _ | assumption | refine Below.setCell ?_ (by first | (simp; done) | omega | (simp; omega) | (simp at *; omega)) _ | refine Below.drew ?_ | refine below_drewN ?_ _ | refine below_alloc' ?_ _ | refine below_to' ?_ (by assumption))))) (by omega) HY9.out).mono ?_
          rintro e w13 ⟨v13, rfl, hs13, hb13⟩
          go_wp2_with fail
          refine (GapI_c _ _ (negL xs) (negL ys) _ (Rd.below hs12.rd (by (repeat (first | exact Below.refl _ _ | assumption | refine Below.setCell ?_ (by first | (simp; done) | omega | (simp; omega) | (simp at *; omega)) _ | refine Below.drew ?_ | refine below_drewN ?_ _ | refine below_alloc' ?_ _ | refine below_to' ?_ (by assumption))))) hs13.rd (by rw [HL1.out]; omega) (by rw [HL2.out]; omega)).mono ?_
          rw [HM3.out]
          rintro e w14 ⟨rfl, hb14⟩
          have hEe := HE.out
          go_wp2_with fail
          go_ret
          exact ⟨ret_bool (by first | (simp; done) | (simp; omega)), by (repeat (first | exact Below.refl _ _ | assumption | refine Below.setCell ?_ (by first | (simp; done) | omega | (simp; omega) | (simp at *; omega)) _ | refine Below.drew ?_ | refine below_drewN ?_ _ | refine below_alloc' ?_ _ | refine below_to' ?_ (by assumption)))⟩
end Go.Proofs.Ytcmjmnlccempfaa
