/-
  The statement FnExactBlocksOf: for every input it returns true and writes nothing that was there.
-/
import Derived.Test.YtahogdcmnpidiaaPoolI
namespace Go.Proofs.Ytahogdcmnpidiaa
open Go.RowKit

theorem blocksX_len (xs ws : List Int) : (blocksX xs ws).length ≤ 9 := by
  unfold blocksX
  split
  · rename_i h
    obtain ⟨_, h8, _⟩ := okLoads_all h
    obtain ⟨h1, h2⟩ := poolR_dec xs ws xs.length
    have := dec_len h1 (m := xs.length) fun x hx => by have := h2 x hx; omega
    rw [ints_len]
    simp
    omega
  · simp

set_option maxHeartbeats 2000000 in
theorem FnExactBlocksOf_c (u z : Value) (xs ms : List Int) (w : World) (hx : Rd w u xs) (hz : Rd w z ms) :
    Calls Try.prog 7 #[u, z] w fun e w' => e = .returned (.bool true) ∧ Below w.heap.size w w' := by
  have hcx := hx
  have hcz := hz
  obtain ⟨A, c, rfl, hc, hm, hd1⟩ := hx
  obtain ⟨A3, c3, rfl, hc3, hm3, hd3⟩ := hz
  clear hd1 hd3
  by_cases hl1 : 1048576 < xs.length
  · go_enter Try.func7, Try.ntmps7
    go_wp2
    go_ret
    exact ⟨rfl, Below.refl _ _⟩
  by_cases hl2 : 1048576 < ms.length
  · go_enter Try.func7, Try.ntmps7
    go_wp2
    go_ret
    exact ⟨rfl, Below.refl _ _⟩
  · have hlz := blocksX_len xs ms
    have PS := hide fun u z w (h1 : Rd w u xs) (h2 : Rd w z ms) => BlocksS_c u z xs ms w h1 h2
    have PI := hide fun u z w (h1 : Rd w u xs) (h2 : Rd w z ms) => BlocksI_c u z xs ms w h1 h2
    obtain ⟨ys, hR⟩ : ∃ R, blocksX xs ms = R := ⟨_, rfl⟩
    rw [hR] at PS PI hlz
    clear hR
    go_enter Try.func7, Try.ntmps7
    go_wp2_with fail
    refine (toIntS_c _ xs _ hcx (by omega)).mono ?_
    rintro e w1 ⟨v1, rfl, hs1, hb1⟩
    go_wp2_with fail
    refine (toIntS_c _ ms _ (Rd.below hcz (by (repeat (first | exact Below.refl _ _ | assumption | refine Below.setCell ?_ (by first | (simp; done) | omega | (simp; omega) | (simp at *; omega)) _ | refine Below.drew ?_ | refine below_drewN ?_ _ | refine below_alloc' ?_ _ | refine below_to' ?_ (by assumption))))) (by omega)).mono ?_
    rintro e w2 ⟨v2, rfl, hs2, hb2⟩
    go_wp2_with fail
    refine (PS.out _ _ _ (Rd.below hs1.rd (by (repeat (first | exact Below.refl _ _ | assumption | refine Below.setCell ?_ (by first | (simp; done) | omega | (simp; omega) | (simp at *; omega)) _ | refine Below.drew ?_ | refine below_drewN ?_ _ | refine below_alloc' ?_ _ | refine below_to' ?_ (by assumption))))) (Rd.below hs2.rd (by (repeat (first | exact Below.refl _ _ | assumption | refine Below.setCell ?_ (by first | (simp; done) | omega | (simp; omega) | (simp at *; omega)) _ | refine Below.drew ?_ | refine below_drewN ?_ _ | refine below_alloc' ?_ _ | refine below_to' ?_ (by assumption)))))).mono ?_
    rintro e w3 ⟨w0v, rfl, hs3, hb3⟩
    go_wp2_with fail
    refine (toIntS_c _ xs _ (Rd.below hcx (by (repeat (first | exact Below.refl _ _ | assumption | refine Below.setCell ?_ (by first | (simp; done) | omega | (simp; omega) | (simp at *; omega)) _ | refine Below.drew ?_ | refine below_drewN ?_ _ | refine below_alloc' ?_ _ | refine below_to' ?_ (by assumption))))) (by omega)).mono ?_
    rintro e w4 ⟨x0, rfl, hs4, hb4⟩
    go_wp2_with fail
    refine (toIntS_c _ ms _ (Rd.below hcz (by (repeat (first | exact Below.refl _ _ | assumption | refine Below.setCell ?_ (by first | (simp; done) | omega | (simp; omega) | (simp at *; omega)) _ | refine Below.drew ?_ | refine below_drewN ?_ _ | refine below_alloc' ?_ _ | refine below_to' ?_ (by assumption))))) (by omega)).mono ?_
    rintro e w5 ⟨x1, rfl, hs5, hb5⟩
    go_wp2_with fail
    refine (PI.out _ _ _ (Rd.below hs4.rd (by (repeat (first | exact Below.refl _ _ | assumption | refine Below.setCell ?_ (by first | (simp; done) | omega | (simp; omega) | (simp at *; omega)) _ | refine Below.drew ?_ | refine below_drewN ?_ _ | refine below_alloc' ?_ _ | refine below_to' ?_ (by assumption))))) (Rd.below hs5.rd (by (repeat (first | exact Below.refl _ _ | assumption | refine Below.setCell ?_ (by first | (simp; done) | omega | (simp; omega) | (simp at *; omega)) _ | refine Below.drew ?_ | refine below_drewN ?_ _ | refine below_alloc' ?_ _ | refine below_to' ?_ (by assumption)))))).mono ?_
    rintro e w6 ⟨g0, rfl, hs6, hb6⟩
    go_wp2_with fail
    refine (eqIntS_c _ _ ys ys true _ hs6.rd (Rd.below hs3.rd (by (repeat (first | exact Below.refl _ _ | assumption | refine Below.setCell ?_ (by first | (simp; done) | omega | (simp; omega) | (simp at *; omega)) _ | refine Below.drew ?_ | refine below_drewN ?_ _ | refine below_alloc' ?_ _ | refine below_to' ?_ (by assumption))))) (by simp)).mono ?_
    rintro e w7 ⟨rfl, hb7⟩
    go_wp2_with fail
    refine (toIntS_c _ xs _ (Rd.below hcx (by (repeat (first | exact Below.refl _ _ | assumption | refine Below.setCell ?_ (by first | (simp; done) | omega | (simp; omega) | (simp at *; omega)) _ | refine Below.drew ?_ | refine below_drewN ?_ _ | refine below_alloc' ?_ _ | refine below_to' ?_ (by assumption))))) (by omega)).mono ?_
    rintro e w8 ⟨v8, rfl, hs8, hb8⟩
    go_wp2_with fail
    refine (eqIntS_c _ _ xs xs true _ (Rd.below hs4.rd (by (repeat (first | exact Below.refl _ _ | assumption | refine Below.setCell ?_ (by first | (simp; done) | omega | (simp; omega) | (simp at *; omega)) _ | refine Below.drew ?_ | refine below_drewN ?_ _ | refine below_alloc' ?_ _ | refine below_to' ?_ (by assumption))))) hs8.rd (by simp)).mono ?_
    rintro e w9 ⟨rfl, hb9⟩
    go_wp2_with fail
    refine (toIntS_c _ ms _ (Rd.below hcz (by (repeat (first | exact Below.refl _ _ | assumption | refine Below.setCell ?_ (by first | (simp; done) | omega | (simp; omega) | (simp at *; omega)) _ | refine Below.drew ?_ | refine below_drewN ?_ _ | refine below_alloc' ?_ _ | refine below_to' ?_ (by assumption))))) (by omega)).mono ?_
    rintro e w10 ⟨v10, rfl, hs10, hb10⟩
    go_wp2_with fail
    refine (eqIntS_c _ _ ms ms true _ (Rd.below hs5.rd (by (repeat (first | exact Below.refl _ _ | assumption | refine Below.setCell ?_ (by first | (simp; done) | omega | (simp; omega) | (simp at *; omega)) _ | refine Below.drew ?_ | refine below_drewN ?_ _ | refine below_alloc' ?_ _ | refine below_to' ?_ (by assumption))))) hs10.rd (by simp)).mono ?_
    rintro e w11 ⟨rfl, hb11⟩
    have hx11 : Sl w11 w3.heap.size x0 xs := (Sl.below hs4 (by (repeat (first | exact Below.refl _ _ | assumption | refine Below.setCell ?_ (by first | (simp; done) | omega | (simp; omega) | (simp at *; omega)) _ | refine Below.drew ?_ | refine below_drewN ?_ _ | refine below_alloc' ?_ _ | refine below_to' ?_ (by assumption)))))
    have hy11 : Sl w11 w4.heap.size x1 ms := (Sl.below hs5 (by (repeat (first | exact Below.refl _ _ | assumption | refine Below.setCell ?_ (by first | (simp; done) | omega | (simp; omega) | (simp at *; omega)) _ | refine Below.drew ?_ | refine below_drewN ?_ _ | refine below_alloc' ?_ _ | refine below_to' ?_ (by assumption)))))
    have hg11 : Sl w11 w5.heap.size g0 ys := (Sl.below hs6 (by (repeat (first | exact Below.refl _ _ | assumption | refine Below.setCell ?_ (by first | (simp; done) | omega | (simp; omega) | (simp at *; omega)) _ | refine Below.drew ?_ | refine below_drewN ?_ _ | refine below_alloc' ?_ _ | refine below_to' ?_ (by assumption)))))
    have hb311 : Below w3.heap.size w3 w11 := by (repeat (first | exact Below.refl _ _ | assumption | refine Below.setCell ?_ (by first | (simp; done) | omega | (simp; omega) | (simp at *; omega)) _ | refine Below.drew ?_ | refine below_drewN ?_ _ | refine below_alloc' ?_ _ | refine below_to' ?_ (by assumption)))
    have hbw3 : Below w.heap.size w w3 := by clear hb311; (repeat (first | exact Below.refl _ _ | assumption | refine Below.setCell ?_ (by first | (simp; done) | omega | (simp; omega) | (simp at *; omega)) _ | refine Below.drew ?_ | refine below_drewN ?_ _ | refine below_alloc' ?_ _ | refine below_to' ?_ (by assumption)))
    have z4 := hb4.size
    have z5 := hb5.size
    go_wp2_with fail
    refine (markIntS_c _ xs 1 _ w3.heap.size w4.heap.size hx11 hs4.lt (by omega) (by omega)).mono ?_
    rintro e w12 ⟨rfl, _, hb12, ha12⟩
    have hy12 : Sl w12 w4.heap.size x1 ms := hy11.above ha12 (Nat.le_refl _)
    have hg12 : Sl w12 w5.heap.size g0 ys := hg11.above ha12 z5
    have hb312 := hb311.trans hb12
    go_wp2_with fail
    refine (markIntS_c _ ms (1 + (xs.length : Int)) _ w4.heap.size w5.heap.size hy12 hs5.lt (by omega) (by omega)).mono ?_
    rintro e w13 ⟨rfl, _, hb13, ha13⟩
    have hg13 : Sl w13 w5.heap.size g0 ys := hg12.above ha13 (Nat.le_refl _)
    have hb313 := hb312.trans (hb13.mono z4)
    have h313 := hb313.size
    clear hb311 hb312 hb12 hb13 ha12 ha13
    go_wp2_with fail
    refine (eqIntS_c _ _ ys ys true _ hg13.rd (hs3.rd.below hb313) (by simp)).mono ?_
    rintro e w14 ⟨rfl, hb14⟩
    have hg14 : Sl w14 w5.heap.size g0 ys := hg13.below hb14
    have hb314 := hb313.trans (hb14.mono h313)
    go_wp2_with fail
    refine (markIntS_c _ ys 1 _ w5.heap.size w14.heap.size hg14 hg14.lt (by omega) (by omega)).mono ?_
    rintro e w15 ⟨rfl, hs15, hb15, _⟩
    have hb315 := hb314.trans (hb15.mono (Nat.le_trans z4 z5))
    have hbw15 := hbw3.trans (hb315.mono hbw3.size)
    have h315 := hb315.size
    clear hb314 hb313 hb14 hb15
    go_wp2_with fail
    refine (heldIntS_c _ ys.length 1 _ hs15.rd (by omega) (by omega)).mono ?_
    rintro e w16 ⟨rfl, hb16⟩
    have hbw16 := hbw15.trans (hb16.mono hbw15.size)
    go_wp2_with fail
    refine (toIntS_c _ xs _ (hcx.below hbw16) (by omega)).mono ?_
    rintro e w17 ⟨v17, rfl, hs17, hb17⟩
    have hbw17 := hbw16.trans (hb17.mono hbw16.size)
    go_wp2_with fail
    refine (toIntS_c _ ms _ (hcz.below hbw17) (by omega)).mono ?_
    rintro e w18 ⟨v18, rfl, hs18, hb18⟩
    have hbw18 := hbw17.trans (hb18.mono hbw17.size)
    go_wp2_with fail
    refine (PI.out _ _ _ (hs17.rd.below hb18) hs18.rd).mono ?_
    rintro e w19 ⟨h0, rfl, hs19, hb19⟩
    have hbw19 := hbw18.trans (hb19.mono hbw18.size)
    have hb1519 : Below w15.heap.size w15 w19 := hb16.trans ((hb17.trans ((hb18.trans (hb19.mono hb18.size)).mono hb17.size)).mono hb16.size)
    have hb319 := hb315.trans (hb1519.mono h315)
    go_wp2_with fail
    refine (eqIntS_c _ _ ys ys true _ hs19.rd (hs3.rd.below hb319) (by simp)).mono ?_
    rintro e w20 ⟨rfl, hb20⟩
    have hb1520 := hb1519.trans (hb20.mono hb1519.size)
    go_wp2_with fail
    refine (heldIntS_c _ ys.length 1 _ (hs15.rd.below hb1520) (by omega) (by omega)).mono ?_
    rintro e w21 ⟨rfl, hb21⟩
    have hbw20 := hbw19.trans (hb20.mono hbw19.size)
    have hbw21 := hbw20.trans (hb21.mono hbw20.size)
    go_wp2_with fail
    go_ret
    exact ⟨rfl, hbw21⟩
end Go.Proofs.Ytahogdcmnpidiaa
