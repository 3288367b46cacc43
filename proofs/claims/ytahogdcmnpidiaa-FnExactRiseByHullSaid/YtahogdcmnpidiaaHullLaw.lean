/-
  The statement FnExactRiseByHull.
-/
import Derived.Test.YtahogdcmnpidiaaHullI
import Derived.Test.YtahogdcmnpidiaaSqLaw
namespace Go.Proofs.Ytahogdcmnpidiaa
open Go.RowKit

theorem hullX_len (xs ws : List Int) : (hullX xs ws).length ≤ 8 := by
  unfold hullX
  split
  · next h =>
    have := okLoads_all h
    have := (hullF_bd xs ws xs.length).1
    rw [prP_len]
    omega
  · simp
set_option maxHeartbeats 1000000 in
theorem HullS_all (u v : Value) (xs ws : List Int) (w : World) (hx : Rd w u xs) (hy : Rd w v ws) :
    Calls Try.prog 11 #[u, v] w fun e w' => ∃ v', e = .returned v' ∧ SlP w' w.heap.size v' (hullX xs ws) ∧ Below w.heap.size w w' := by
  cases hok : okLoads xs ws
  · have HX : Hid (hullX xs ws = []) := by show _ = _; simp [hullX, hok]
    have K := hide fun w hx hy => validLoadsS_c u v xs ws false w hx hy hok
    obtain ⟨A, c, rfl, hc, hm, _⟩ := id hx
    obtain ⟨A2, c2, rfl, hc2, hm2, _⟩ := id hy
    clear hok
    go_enter Try.func11, Try.ntmps11
    go_wp2_with fail
    refine (K.out _ hx hy).mono ?_
    rintro e w1 ⟨rfl, rfl⟩
    go_wp2_with fail
    go_ret
    exact ⟨_, rfl, by rw [HX.out]; exact SlP.nil _ _, Below.refl _ _⟩
  · have HX : hullX xs ws = prP (hullF xs ws xs.length) := by simp [hullX, hok]
    rw [HX]
    exact HullS_yes u v xs ws w hx hy hok

set_option maxHeartbeats 1000000 in
theorem HullI_all (u v : Value) (xs ws : List Int) (w : World) (hx : Rd w u xs) (hy : Rd w v ws) :
    Calls Try.prog 13 #[u, v] w fun e w' => ∃ v', e = .returned v' ∧ SlP w' w.heap.size v' (hullX xs ws) ∧ Below w.heap.size w w' := by
  cases hok : okLoads xs ws
  · have HX : Hid (hullX xs ws = []) := by show _ = _; simp [hullX, hok]
    have K := hide fun w hx hy => ValidLoadsI_c u v xs ws false w hx hy hok
    obtain ⟨A, c, rfl, hc, hm, _⟩ := id hx
    obtain ⟨A2, c2, rfl, hc2, hm2, _⟩ := id hy
    clear hok
    go_enter Try.func13, Try.ntmps13
    go_wp2_with fail
    refine (K.out _ hx hy).mono ?_
    rintro e w1 ⟨rfl, hb1⟩
    go_wp2_with fail
    go_ret
    exact ⟨_, rfl, by rw [HX.out]; exact SlP.nil _ _, hb1⟩
  · have HX : hullX xs ws = prP (hullF xs ws xs.length) := by simp [hullX, hok]
    rw [HX]
    exact HullI_yes u v xs ws w hx hy hok

set_option maxHeartbeats 4000000 in
theorem FnExactRiseByHull_c (u z : Value) (xs ms : List Int) (w : World) (hx : Rd w u xs) (hz : Rd w z ms) :
    Calls Try.prog 3 #[u, z] w fun e w' => e = .returned (.bool true) ∧ Below w.heap.size w w' := by
  have hcx := hx
  have hcz := hz
  obtain ⟨A, c, rfl, hc, hm, hd1⟩ := hx
  obtain ⟨A3, c3, rfl, hc3, hm3, hd3⟩ := hz
  clear hd1 hd3
  by_cases hl1 : 1048576 < xs.length
  · go_enter Try.func3, Try.ntmps3
    go_wp2
    go_ret
    exact ⟨rfl, Below.refl _ _⟩
  by_cases hl2 : 1048576 < ms.length
  · go_enter Try.func3, Try.ntmps3
    go_wp2
    go_ret
    exact ⟨rfl, Below.refl _ _⟩
  have hP := hullX_len xs ms
  have PS := hide fun u z w (h1 : Rd w u xs) (h2 : Rd w z ms) => HullS_all u z xs ms w h1 h2
  have PI := hide fun u z w (h1 : Rd w u xs) (h2 : Rd w z ms) => HullI_all u z xs ms w h1 h2
  obtain ⟨P, hPe⟩ : ∃ P, hullX xs ms = P := ⟨_, rfl⟩
  rw [hPe] at hP PS PI
  clear hPe
  go_enter Try.func3, Try.ntmps3
  go_wp2_with fail
  refine (toIntS_c _ xs _ hcx (by omega)).mono ?_
  rintro e w1 ⟨v1, rfl, hs1, hb1⟩
  go_wp2_with fail
  refine (toIntS_c _ ms _ (hcz.below hb1) (by omega)).mono ?_
  rintro e w2 ⟨v2, rfl, hs2, hb2⟩
  have hw2 := hb1.trans (hb2.mono hb1.size)
  go_wp2_with fail
  refine (PS.out _ _ _ (hs1.rd.below hb2) hs2.rd).mono ?_
  rintro e w3 ⟨vw, rfl, hsw, hb3⟩
  have hw3 := hw2.trans (hb3.mono hw2.size)
  have HSW := hide hsw
  clear hsw
  go_wp2_with fail
  refine (toIntS_c _ xs _ (hcx.below hw3) (by omega)).mono ?_
  rintro e w4 ⟨v4, rfl, hs4, hb4⟩
  have hw4 := hw3.trans (hb4.mono hw3.size)
  go_wp2_with fail
  refine (toIntS_c _ ms _ (hcz.below hw4) (by omega)).mono ?_
  rintro e w5 ⟨v5, rfl, hs5, hb5⟩
  have hw5 := hw4.trans (hb5.mono hw4.size)
  go_wp2_with fail
  refine (PI.out _ _ _ (hs4.rd.below hb5) hs5.rd).mono ?_
  rintro e w6 ⟨vg, rfl, hsg, hb6⟩
  have hw6 := hw5.trans (hb6.mono hw5.size)
  have h36 := hb4.trans ((hb5.trans (hb6.mono hb5.size)).mono hb4.size)
  go_wp2_with fail
  refine (eqFracS_same _ _ P _ hsg.rd (HSW.out.rd.below h36)).mono ?_
  rintro e w7 ⟨rfl, hb7⟩
  have hw7 := hw6.trans (hb7.mono hw6.size)
  go_wp2_with fail
  refine (toIntS_c _ xs _ (hcx.below hw7) (by omega)).mono ?_
  rintro e w8 ⟨v8, rfl, hs8, hb8⟩
  have hw8 := hw7.trans (hb8.mono hw7.size)
  have h68 := hb7.trans (hb8.mono hb7.size)
  have h58 := hb6.trans (h68.mono hb6.size)
  have h48 := hb5.trans (h58.mono hb5.size)
  go_wp2_with fail
  refine (eqIntS_c _ _ xs xs true _ (hs4.rd.below h48) hs8.rd (by simp)).mono ?_
  rintro e w9 ⟨rfl, hb9⟩
  have hw9 := hw8.trans (hb9.mono hw8.size)
  have h59 := h58.trans (hb9.mono h58.size)
  go_wp2_with fail
  refine (toIntS_c _ ms _ (hcz.below hw9) (by omega)).mono ?_
  rintro e w10 ⟨v10, rfl, hs10, hb10⟩
  have hw10 := hw9.trans (hb10.mono hw9.size)
  have h510 := h59.trans (hb10.mono h59.size)
  go_wp2_with fail
  refine (eqIntS_c _ _ ms ms true _ (hs5.rd.below h510) hs10.rd (by simp)).mono ?_
  rintro e w11 ⟨rfl, hb11⟩
  have hw11 := hw10.trans (hb11.mono hw10.size)
  have h511 := h510.trans (hb11.mono h510.size)
  have h411 := hb5.trans (h511.mono hb5.size)
  have h311 := hb4.trans (h411.mono hb4.size)
  have h611 := h68.trans (((hb9.trans (hb10.mono hb9.size)).trans (hb11.mono (hb9.trans (hb10.mono hb9.size)).size)).mono h68.size)
  have hx11 := hs4.below h411
  have hz11 := hs5.below h511
  have hg11 := hsg.below h611
  have hT4 : 0 < xs.length → ∀ g, v4.ownBlock = some g → g < w4.heap.size := fun hp g hg => hs4.lt hp g hg
  have hT5 : 0 < ms.length → ∀ g, v5.ownBlock = some g → g < w5.heap.size := fun hp g hg => hs5.lt hp g hg
  clear hs1 hs2 hs8 hs10 hb1 hb2
  go_wp2_with fail
  refine (markIntS_c v4 xs 1 w11 w3.heap.size w4.heap.size hx11 hT4 (by omega) (by omega)).mono ?_
  rintro e w12 ⟨rfl, _, hb12, ha12⟩
  have hw12 := hw11.trans (hb12.mono hw3.size)
  have h312 : Below w3.heap.size w3 w12 := h311.trans hb12
  have hz12 := hz11.above ha12 (Nat.le_refl _)
  have hg12 := hg11.above ha12 hb5.size
  have K5 := hide fun w h => markIntS_c v5 ms (1 + (xs.length : Int)) w w4.heap.size w5.heap.size h hT5 (by omega) (by omega)
  have hk1 : ¬ 1 + (xs.length : Int) + (ms.length : Int) < 0 := by omega
  obtain ⟨k1, hk1e⟩ : ∃ k : Int, 1 + (xs.length : Int) + (ms.length : Int) = k := ⟨_, rfl⟩
  rw [hk1e] at hk1 K5
  obtain ⟨k0, hk0e⟩ : ∃ k : Int, 1 + (xs.length : Int) = k := ⟨_, rfl⟩
  rw [hk0e] at K5 ⊢
  clear hk1e hk0e
  go_wp2_with fail
  refine (K5.out _ hz12).mono ?_
  rintro e w13 ⟨rfl, _, hb13, ha13⟩
  have hw13 := hw12.trans (hb13.mono hw4.size)
  have h313 : Below w3.heap.size w3 w13 := h312.trans (hb13.mono hb4.size)
  have hg13 := hg12.above ha13 (Nat.le_refl _)
  go_wp2_with fail
  refine (eqFracS_same _ _ P _ hg13.rd (HSW.out.rd.below h313)).mono ?_
  rintro e w14 ⟨rfl, hb14⟩
  have hw14 := hw13.trans (hb14.mono hw13.size)
  have h314 := h313.trans (hb14.mono h313.size)
  have hg14 := hg13.below hb14
  have hTg : 0 < P.length → ∀ g, vg.ownBlock = some g → g < w14.heap.size := fun hp g hg => hg14.lt hp g hg
  have KM := hide fun w h hT => markFracS_c vg P 1 w w5.heap.size w14.heap.size h hT (by omega) (by omega) (by omega)
  have KH := hide fun w h => heldFracS_c vg P.length 1 w h (by omega) (by omega) (by omega)
  have hq0 : ¬ 1 + 2 * (P.length : Int) < 0 := by omega
  obtain ⟨q, hq⟩ : ∃ q : Int, 1 + 2 * (P.length : Int) = q := ⟨_, rfl⟩
  rw [hq] at hq0 KM KH
  clear hq
  go_wp2_with fail
  refine (KM.out _ hg14 hTg).mono ?_
  rintro e w15 ⟨rfl, hg15, hb15, _⟩
  have hw15 := hw14.trans (hb15.mono hw5.size)
  have h315 : Below w3.heap.size w3 w15 := h314.trans (hb15.mono (by have := hb4.size; have := hb5.size; omega))
  have hr15 := hg15.rd
  go_wp2_with fail
  refine (KH.out _ hr15).mono ?_
  rintro e w16 ⟨rfl, hb16⟩
  have hw16 := hw15.trans (hb16.mono hw15.size)
  go_wp2_with fail
  refine (toIntS_c _ xs _ (hcx.below hw16) (by omega)).mono ?_
  rintro e w17 ⟨v17, rfl, hs17, hb17⟩
  have hw17 := hw16.trans (hb17.mono hw16.size)
  go_wp2_with fail
  refine (toIntS_c _ ms _ (hcz.below hw17) (by omega)).mono ?_
  rintro e w18 ⟨v18, rfl, hs18, hb18⟩
  have hw18 := hw17.trans (hb18.mono hw17.size)
  go_wp2_with fail
  refine (PI.out _ _ _ (hs17.rd.below hb18) hs18.rd).mono ?_
  rintro e w19 ⟨vh, rfl, hsh, hb19⟩
  have hw19 := hw18.trans (hb19.mono hw18.size)
  have h1519 : Below w15.heap.size w15 w19 := hb16.trans ((hb17.trans ((hb18.trans (hb19.mono hb18.size)).mono hb17.size)).mono hb16.size)
  go_wp2_with fail
  refine (eqFracS_same _ _ P _ hsh.rd (HSW.out.rd.below (h315.trans (h1519.mono h315.size)))).mono ?_
  rintro e w20 ⟨rfl, hb20⟩
  have hw20 := hw19.trans (hb20.mono hw19.size)
  go_wp2_with fail
  refine (KH.out _ ((hr15.below h1519).below hb20)).mono ?_
  rintro e w21 ⟨rfl, hb21⟩
  go_wp2_with fail
  go_ret
  exact ⟨rfl, hw20.trans (hb21.mono hw20.size)⟩
end Go.Proofs.Ytahogdcmnpidiaa
