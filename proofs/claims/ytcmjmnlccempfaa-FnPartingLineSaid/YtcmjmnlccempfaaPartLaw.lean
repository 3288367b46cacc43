/-
  The statement FnExactPartingLine: for every input it returns true and writes nothing that was there.
-/
import Derived.Test.YtcmjmnlccempfaaPartS
namespace Go.Proofs.Ytcmjmnlccempfaa
open Go.RowKit

theorem partX_len (xs ys ms : List Int) : (partX xs ys ms).1.length ≤ 3 := by
  rw [partX]
  split
  · exact runP_len _ _ _ _ _
  · simp

set_option maxRecDepth 20000 in
set_option maxHeartbeats 4000000 in
theorem FnExactPartingLine_c (u v z : Value) (xs ys ms : List Int) (w : World) (hx : Rd w u xs) (hy : Rd w v ys) (hz : Rd w z ms) :
    Calls Try.prog 3 #[u, v, z] w fun e w' => e = .returned (.bool true) ∧ Below w.heap.size w w' := by
  have hcx := hx
  have hcy := hy
  have hcz := hz
  obtain ⟨A, c, rfl, hc, hm, hd1⟩ := hx
  obtain ⟨A2, c2, rfl, hc2, hm2, hd2⟩ := hy
  obtain ⟨A3, c3, rfl, hc3, hm3, hd3⟩ := hz
  clear hd1 hd2 hd3
  by_cases hl1 : 1048576 < xs.length
  · go_enter Try.func3, Try.ntmps3
    go_wp2
    go_ret
    exact ⟨rfl, Below.refl _ _⟩
  by_cases hl2 : 1048576 < ys.length
  · go_enter Try.func3, Try.ntmps3
    go_wp2
    go_ret
    exact ⟨rfl, Below.refl _ _⟩
  by_cases hl3 : 1048576 < ms.length
  · go_enter Try.func3, Try.ntmps3
    go_wp2
    go_ret
    exact ⟨rfl, Below.refl _ _⟩
  · have hlz := partX_len xs ys ms
    have PS := hide fun u v z w (h1 : Rd w u xs) (h2 : Rd w v ys) (h3 : Rd w z ms) => PartS_c u v z xs ys ms w h1 h2 h3
    have PI := hide fun u v z w (h1 : Rd w u xs) (h2 : Rd w v ys) (h3 : Rd w z ms) => PartI_c u v z xs ys ms w h1 h2 h3
    obtain ⟨R, hR⟩ : ∃ R, partX xs ys ms = R := ⟨_, rfl⟩
    rw [hR] at hlz PS PI
    clear hR
    obtain ⟨L, n, b⟩ := R
    have hlz' : L.length ≤ 3 := hlz
    clear hlz
    go_enter Try.func3, Try.ntmps3
    go_wp2_with fail
    refine (toIntS_c _ xs _ hcx (by omega)).mono ?_
    rintro e w1 ⟨v1, rfl, hs1, hb1⟩
    go_wp2_with fail
    refine (toIntS_c _ ys _ (Rd.below hcy (by (repeat (first | exact Below.refl _ _ | assumption | refine Below.setCell ?_ (by first | (simp; done) | omega | (simp; omega) | (simp at *; omega)) _ | refine Below.drew ?_ | refine below_drewN ?_ _ | refine below_alloc' ?_ _ | refine below_to' ?_ (by assumption))))) (by omega)).mono ?_
    rintro e w2 ⟨v2, rfl, hs2, hb2⟩
    go_wp2_with fail
    refine (toIntS_c _ ms _ (Rd.below hcz (by (repeat (first | exact Below.refl _ _ | assumption | refine Below.setCell ?_ (by first | (simp; done) | omega | (simp; omega) | (simp at *; omega)) _ | refine Below.drew ?_ | refine below_drewN ?_ _ | refine below_alloc' ?_ _ | refine below_to' ?_ (by assumption))))) (by omega)).mono ?_
    rintro e w3 ⟨v3, rfl, hs3, hb3⟩
    go_wp2_with fail
    refine (PS.out _ _ _ _ (Rd.below hs1.rd (by (repeat (first | exact Below.refl _ _ | assumption | refine Below.setCell ?_ (by first | (simp; done) | omega | (simp; omega) | (simp at *; omega)) _ | refine Below.drew ?_ | refine below_drewN ?_ _ | refine below_alloc' ?_ _ | refine below_to' ?_ (by assumption))))) (Rd.below hs2.rd (by (repeat (first | exact Below.refl _ _ | assumption | refine Below.setCell ?_ (by first | (simp; done) | omega | (simp; omega) | (simp at *; omega)) _ | refine Below.drew ?_ | refine below_drewN ?_ _ | refine below_alloc' ?_ _ | refine below_to' ?_ (by assumption))))) hs3.rd).mono ?_
    rintro e w4 ⟨w0v, rfl, hs4, hb4⟩
    go_wp2_with fail
    refine (toIntS_c _ xs _ (Rd.below hcx (by (repeat (first | exact Below.refl _ _ | assumption | refine Below.setCell ?_ (by first | (simp; done) | omega | (simp; omega) | (simp at *; omega)) _ | refine Below.drew ?_ | refine below_drewN ?_ _ | refine below_alloc' ?_ _ | refine below_to' ?_ (by assumption))))) (by omega)).mono ?_
    rintro e w5 ⟨x0, rfl, hs5, hb5⟩
    go_wp2_with fail
    refine (toIntS_c _ ys _ (Rd.below hcy (by (repeat (first | exact Below.refl _ _ | assumption | refine Below.setCell ?_ (by first | (simp; done) | omega | (simp; omega) | (simp at *; omega)) _ | refine Below.drew ?_ | refine below_drewN ?_ _ | refine below_alloc' ?_ _ | refine below_to' ?_ (by assumption))))) (by omega)).mono ?_
    rintro e w6 ⟨x1, rfl, hs6, hb6⟩
    go_wp2_with fail
    refine (toIntS_c _ ms _ (Rd.below hcz (by (repeat (first | exact Below.refl _ _ | assumption | refine Below.setCell ?_ (by first | (simp; done) | omega | (simp; omega) | (simp at *; omega)) _ | refine Below.drew ?_ | refine below_drewN ?_ _ | refine below_alloc' ?_ _ | refine below_to' ?_ (by assumption))))) (by omega)).mono ?_
    rintro e w7 ⟨x2, rfl, hs7, hb7⟩
    go_wp2_with fail
    refine (PI.out _ _ _ _ (Rd.below hs5.rd (by (repeat (first | exact Below.refl _ _ | assumption | refine Below.setCell ?_ (by first | (simp; done) | omega | (simp; omega) | (simp at *; omega)) _ | refine Below.drew ?_ | refine below_drewN ?_ _ | refine below_alloc' ?_ _ | refine below_to' ?_ (by assumption))))) (Rd.below hs6.rd (by (repeat (first | exact Below.refl _ _ | assumption | refine Below.setCell ?_ (by first | (simp; done) | omega | (simp; omega) | (simp at *; omega)) _ | refine Below.drew ?_ | refine below_drewN ?_ _ | refine below_alloc' ?_ _ | refine below_to' ?_ (by assumption))))) hs7.rd).mono ?_
    rintro e w8 ⟨g0, rfl, hs8, hb8⟩
    go_wp2_with fail
    refine (eqIntS_c _ _ L L true _ hs8.rd (Rd.below hs4.rd (by (repeat (first | exact Below.refl _ _ | assumption | refine Below.setCell ?_ (by first | (simp; done) | omega | (simp; omega) | (simp at *; omega)) _ | refine Below.drew ?_ | refine below_drewN ?_ _ | refine below_alloc' ?_ _ | refine below_to' ?_ (by assumption))))) (by simp)).mono ?_
    rintro e w9 ⟨rfl, hb9⟩
    go_wp2_with fail
    refine (toIntS_c _ xs _ (Rd.below hcx (by (repeat (first | exact Below.refl _ _ | assumption | refine Below.setCell ?_ (by first | (simp; done) | omega | (simp; omega) | (simp at *; omega)) _ | refine Below.drew ?_ | refine below_drewN ?_ _ | refine below_alloc' ?_ _ | refine below_to' ?_ (by assumption))))) (by omega)).mono ?_
    rintro e w10 ⟨y0, rfl, hs10, hb10⟩
    go_wp2_with fail
    refine (eqIntS_c _ _ xs xs true _ (Rd.below hs5.rd (by (repeat (first | exact Below.refl _ _ | assumption | refine Below.setCell ?_ (by first | (simp; done) | omega | (simp; omega) | (simp at *; omega)) _ | refine Below.drew ?_ | refine below_drewN ?_ _ | refine below_alloc' ?_ _ | refine below_to' ?_ (by assumption))))) hs10.rd (by simp)).mono ?_
    rintro e w11 ⟨rfl, hb11⟩
    go_wp2_with fail
    refine (toIntS_c _ ys _ (Rd.below hcy (by (repeat (first | exact Below.refl _ _ | assumption | refine Below.setCell ?_ (by first | (simp; done) | omega | (simp; omega) | (simp at *; omega)) _ | refine Below.drew ?_ | refine below_drewN ?_ _ | refine below_alloc' ?_ _ | refine below_to' ?_ (by assumption))))) (by omega)).mono ?_
    rintro e w12 ⟨y1, rfl, hs12, hb12⟩
    go_wp2_with fail
    refine (eqIntS_c _ _ ys ys true _ (Rd.below hs6.rd (by (repeat (first | exact Below.refl _ _ | assumption | refine Below.setCell ?_ (by first | (simp; done) | omega | (simp; omega) | (simp at *; omega)) _ | refine Below.drew ?_ | refine below_drewN ?_ _ | refine below_alloc' ?_ _ | refine below_to' ?_ (by assumption))))) hs12.rd (by simp)).mono ?_
    rintro e w13 ⟨rfl, hb13⟩
    go_wp2_with fail
    refine (toIntS_c _ ms _ (Rd.below hcz (by (repeat (first | exact Below.refl _ _ | assumption | refine Below.setCell ?_ (by first | (simp; done) | omega | (simp; omega) | (simp at *; omega)) _ | refine Below.drew ?_ | refine below_drewN ?_ _ | refine below_alloc' ?_ _ | refine below_to' ?_ (by assumption))))) (by omega)).mono ?_
    rintro e w14 ⟨y2, rfl, hs14, hb14⟩
    go_wp2_with fail
    refine (eqIntS_c _ _ ms ms true _ (Rd.below hs7.rd (by (repeat (first | exact Below.refl _ _ | assumption | refine Below.setCell ?_ (by first | (simp; done) | omega | (simp; omega) | (simp at *; omega)) _ | refine Below.drew ?_ | refine below_drewN ?_ _ | refine below_alloc' ?_ _ | refine below_to' ?_ (by assumption))))) hs14.rd (by simp)).mono ?_
    rintro e w15 ⟨rfl, hb15⟩
    have hx15 : Sl w15 w4.heap.size x0 xs := (Sl.below hs5 (by (repeat (first | exact Below.refl _ _ | assumption | refine Below.setCell ?_ (by first | (simp; done) | omega | (simp; omega) | (simp at *; omega)) _ | refine Below.drew ?_ | refine below_drewN ?_ _ | refine below_alloc' ?_ _ | refine below_to' ?_ (by assumption)))))
    have hy15 : Sl w15 w5.heap.size x1 ys := (Sl.below hs6 (by (repeat (first | exact Below.refl _ _ | assumption | refine Below.setCell ?_ (by first | (simp; done) | omega | (simp; omega) | (simp at *; omega)) _ | refine Below.drew ?_ | refine below_drewN ?_ _ | refine below_alloc' ?_ _ | refine below_to' ?_ (by assumption)))))
    have hz15 : Sl w15 w6.heap.size x2 ms := (Sl.below hs7 (by (repeat (first | exact Below.refl _ _ | assumption | refine Below.setCell ?_ (by first | (simp; done) | omega | (simp; omega) | (simp at *; omega)) _ | refine Below.drew ?_ | refine below_drewN ?_ _ | refine below_alloc' ?_ _ | refine below_to' ?_ (by assumption)))))
    have hg15 : Sl w15 w7.heap.size g0 L := (Sl.below hs8 (by (repeat (first | exact Below.refl _ _ | assumption | refine Below.setCell ?_ (by first | (simp; done) | omega | (simp; omega) | (simp at *; omega)) _ | refine Below.drew ?_ | refine below_drewN ?_ _ | refine below_alloc' ?_ _ | refine below_to' ?_ (by assumption)))))
    have hbB : Below w4.heap.size w4 w15 := by (repeat (first | exact Below.refl _ _ | assumption | refine Below.setCell ?_ (by first | (simp; done) | omega | (simp; omega) | (simp at *; omega)) _ | refine Below.drew ?_ | refine below_drewN ?_ _ | refine below_alloc' ?_ _ | refine below_to' ?_ (by assumption)))
    have hbW : Below w.heap.size w w4 := by (repeat (first | exact Below.refl _ _ | assumption | refine Below.setCell ?_ (by first | (simp; done) | omega | (simp; omega) | (simp at *; omega)) _ | refine Below.drew ?_ | refine below_drewN ?_ _ | refine below_alloc' ?_ _ | refine below_to' ?_ (by assumption)))
    have hz4 := hb4.size
    have hz5 := hb5.size
    have hz6 := hb6.size
    have hz7 := hb7.size
    clear hs1 hs2 hs3 hs10 hs12 hs14 hb9 hb10 hb11 hb12 hb13 hb14 hb15 hb1 hb2 hb3 hb4
    go_wp2_with fail
    refine (markIntS_c _ xs 1 _ w4.heap.size w5.heap.size hx15 hs5.lt (by omega) (by omega)).mono ?_
    rintro e w16 ⟨rfl, _, hb16, ha16⟩
    have hy16 := Sl.above (w := w15) hy15 ha16 (Nat.le_refl _)
    have hz16 := Sl.above (w := w15) hz15 ha16 hz6
    have hg16 := Sl.above (w := w15) hg15 ha16 (by omega)
    go_wp2_with fail
    refine (markIntS_c _ ys (1 + (xs.length : Int)) _ w5.heap.size w6.heap.size hy16 hs6.lt (by omega) (by omega)).mono ?_
    rintro e w17 ⟨rfl, _, hb17, ha17⟩
    have hz17 := Sl.above (w := w16) hz16 ha17 (Nat.le_refl _)
    have hg17 := Sl.above (w := w16) hg16 ha17 (by omega)
    go_wp2_with fail
    refine (markIntS_c _ ms (1 + (xs.length : Int) + (ys.length : Int)) _ w6.heap.size w7.heap.size hz17 hs7.lt (by omega) (by omega)).mono ?_
    rintro e w18 ⟨rfl, _, hb18, ha18⟩
    have hg18 := Sl.above (w := w17) hg17 ha18 (Nat.le_refl _)
    have hbA : Below w4.heap.size w4 w18 := ((hbB.trans hb16).trans (hb17.mono hz5)).trans (hb18.mono (by omega))
    have hr4 := hs4.rd
    have hr18 : Rd w18 w0v L := hr4.below hbA
    have hcx4 : Rd w4 _ xs := hcx.below hbW
    have hcy4 : Rd w4 _ ys := hcy.below hbW
    have hcz4 : Rd w4 _ ms := hcz.below hbW
    have h47 : w4.heap.size ≤ w7.heap.size := by omega
    have hbV : Below w.heap.size w w18 := hbW.trans (hbA.mono hbW.size)
    clear hx15 hy15 hz15 hg15 hy16 hz16 hg16 hz17 hg17 hb16 hb17 hb18 ha16 ha17 ha18 hs5 hs6 hs7 hs8 hbB hb5 hb6 hb7 hb8 hs4 hz4 hz5 hz6 hz7 hcx hcy hcz
    go_wp2_with fail
    refine (eqIntS_c _ _ L L true _ hg18.rd hr18 (by simp)).mono ?_
    rintro e w19 ⟨rfl, hb19⟩
    have hg19 : Sl w19 w7.heap.size g0 L := (Sl.below hg18 (by (repeat (first | exact Below.refl _ _ | assumption | refine Below.setCell ?_ (by first | (simp; done) | omega | (simp; omega) | (simp at *; omega)) _ | refine Below.drew ?_ | refine below_drewN ?_ _ | refine below_alloc' ?_ _ | refine below_to' ?_ (by assumption)))))
    go_wp2_with fail
    refine (markIntS_c _ L 1 _ w7.heap.size w19.heap.size hg19 hg19.lt (by omega) (by omega)).mono ?_
    rintro e w20 ⟨rfl, hs20, hb20, ha20⟩
    have hb420 : Below w4.heap.size w4 w20 := (below_to' hbA hb19).trans (hb20.mono h47)
    have hbV20 : Below w.heap.size w w20 := hbW.trans (hb420.mono hbW.size)
    have hr20 := hr4.below hb420
    have hx20 := hcx4.below hb420
    have hy20 := hcy4.below hb420
    have hz20 := hcz4.below hb420
    clear hg18 hg19 hb19 hb20 ha20 hb420 hbA hr18 hr4 hcx4 hcy4 hcz4 hbV hbW
    go_wp2_with fail
    refine (heldIntS_c _ L.length 1 _ hs20.rd (by omega) (by omega)).mono ?_
    rintro e w21 ⟨rfl, hb21⟩
    go_wp2_with fail
    refine (toIntS_c _ xs _ (Rd.below hx20 (by (repeat (first | exact Below.refl _ _ | assumption | refine Below.setCell ?_ (by first | (simp; done) | omega | (simp; omega) | (simp at *; omega)) _ | refine Below.drew ?_ | refine below_drewN ?_ _ | refine below_alloc' ?_ _ | refine below_to' ?_ (by assumption))))) (by omega)).mono ?_
    rintro e w22 ⟨v22, rfl, hs22, hb22⟩
    go_wp2_with fail
    refine (toIntS_c _ ys _ (Rd.below hy20 (by (repeat (first | exact Below.refl _ _ | assumption | refine Below.setCell ?_ (by first | (simp; done) | omega | (simp; omega) | (simp at *; omega)) _ | refine Below.drew ?_ | refine below_drewN ?_ _ | refine below_alloc' ?_ _ | refine below_to' ?_ (by assumption))))) (by omega)).mono ?_
    rintro e w23 ⟨v23, rfl, hs23, hb23⟩
    go_wp2_with fail
    refine (toIntS_c _ ms _ (Rd.below hz20 (by (repeat (first | exact Below.refl _ _ | assumption | refine Below.setCell ?_ (by first | (simp; done) | omega | (simp; omega) | (simp at *; omega)) _ | refine Below.drew ?_ | refine below_drewN ?_ _ | refine below_alloc' ?_ _ | refine below_to' ?_ (by assumption))))) (by omega)).mono ?_
    rintro e w24 ⟨v24, rfl, hs24, hb24⟩
    go_wp2_with fail
    refine (PI.out _ _ _ _ (Rd.below hs22.rd (by (repeat (first | exact Below.refl _ _ | assumption | refine Below.setCell ?_ (by first | (simp; done) | omega | (simp; omega) | (simp at *; omega)) _ | refine Below.drew ?_ | refine below_drewN ?_ _ | refine below_alloc' ?_ _ | refine below_to' ?_ (by assumption))))) (Rd.below hs23.rd (by (repeat (first | exact Below.refl _ _ | assumption | refine Below.setCell ?_ (by first | (simp; done) | omega | (simp; omega) | (simp at *; omega)) _ | refine Below.drew ?_ | refine below_drewN ?_ _ | refine below_alloc' ?_ _ | refine below_to' ?_ (by assumption))))) hs24.rd).mono ?_
    rintro e w25 ⟨h0, rfl, hs25, hb25⟩
    go_wp2_with fail
    refine (eqIntS_c _ _ L L true _ hs25.rd (Rd.below hr20 (by (repeat (first | exact Below.refl _ _ | assumption | refine Below.setCell ?_ (by first | (simp; done) | omega | (simp; omega) | (simp at *; omega)) _ | refine Below.drew ?_ | refine below_drewN ?_ _ | refine below_alloc' ?_ _ | refine below_to' ?_ (by assumption))))) (by simp)).mono ?_
    rintro e w26 ⟨rfl, hb26⟩
    go_wp2_with fail
    refine (heldIntS_c _ L.length 1 _ (Rd.below hs20.rd (by (repeat (first | exact Below.refl _ _ | assumption | refine Below.setCell ?_ (by first | (simp; done) | omega | (simp; omega) | (simp at *; omega)) _ | refine Below.drew ?_ | refine below_drewN ?_ _ | refine below_alloc' ?_ _ | refine below_to' ?_ (by assumption))))) (by omega) (by omega)).mono ?_
    rintro e w27 ⟨rfl, hb27⟩
    go_wp2_with fail
    go_ret
    refine ⟨rfl, ?_⟩
    (repeat (first | exact Below.refl _ _ | assumption | refine Below.setCell ?_ (by first | (simp; done) | omega | (simp; omega) | (simp at *; omega)) _ | refine Below.drew ?_ | refine below_drewN ?_ _ | refine below_alloc' ?_ _ | refine below_to' ?_ (by assumption)))
end Go.Proofs.Ytcmjmnlccempfaa
