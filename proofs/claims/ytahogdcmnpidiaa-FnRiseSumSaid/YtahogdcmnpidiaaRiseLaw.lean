/-
  The statement FnRiseSum.
-/
import Derived.Test.YtahogdcmnpidiaaRiseT
namespace Go.Proofs.Ytahogdcmnpidiaa
open Go.RowKit

set_option maxHeartbeats 4000000 in
theorem FnRiseSum_c (A : Option Addr) (n c : Nat) (bs : List Int) (w : World) (hl : bs.length = n) (hnc : n ≤ c) (hc : c ≤ 9223372036854775807) (hr : Rd8 w w.heap.size A bs) :
    Calls Try.prog 8 #[.slice A n c] w fun e w' => e = .returned (.bool true) ∧ Below w.heap.size w w' := by
  by_cases hbig : 1048576 < n
  · go_enter Try.func8, Try.ntmps8
    go_wp2_with fail
    go_ret
    exact ⟨rfl, Below.refl _ _⟩
  have K := hide fun w hr => DrawRise_c A n c bs w hl hnc hc hr
  clear hl
  go_enter Try.func8, Try.ntmps8
  go_wp2_with fail
  refine (K.out _ hr).mono ?_
  rintro e w1 ⟨v, xs, u, ws, rfl, hx, hxl, hy, hyl, hall, hb1⟩
  have HALL := hide hall
  obtain ⟨Ax, cx, rfl, hcx, hmx, _⟩ := id hx
  obtain ⟨Ay, cy, rfl, hcy, hmy, _⟩ := id hy
  have PI := hide fun w hx hy => RiseI_c (.slice Ax xs.length cx) (.slice Ay ws.length cy) xs ws w hx hy
  have PS := hide fun w hx hy => RiseS_c (.slice Ax xs.length cx) (.slice Ay ws.length cy) xs ws w hx hy
  clear K hr hall
  cases hok : okLoads xs ws
  · have hR : riseX xs ws = -1 := by rw [riseX, if_neg (by rw [hok]; simp)]
    rw [hR] at PI PS
    clear hok hR
    go_wp2_with fail
    refine (PI.out _ hx hy).mono ?_
    rintro e w2 ⟨rfl, hb2⟩
    go_wp2_with fail
    refine (PS.out _ (hx.below hb2) (hy.below hb2)).mono ?_
    rintro e w3 ⟨rfl, hb3⟩
    have hb23 := hb2.trans (hb3.mono hb2.size)
    go_wp2_with fail
    refine (PS.out _ (hx.below hb23) (hy.below hb23)).mono ?_
    rintro e w4 ⟨rfl, hb4⟩
    have hb24 := hb23.trans (hb4.mono hb23.size)
    go_wp2_with fail
    go_ret
    exact ⟨rfl, hb1.trans (hb24.mono hb1.size)⟩
  · obtain ⟨l1, l8, hlen, hxs, hws⟩ := okLoads_all hok
    have hbd := riseX_bd hok
    have hzero := riseX_zero hok
    have hfar := riseX_far hok
    have hturn := riseX_turn hok
    have HPT := hide fun v v' w hx hy => RiseI_c v v' (negL xs.reverse) ws.reverse w hx hy
    have HTOPS := hide fun w hx => tops_c (.slice Ax xs.length cx) xs w hx hxl
    have HFB := hide fun k (hk : k ≤ xs.length) => farF_bd hxs hws hlen k hk
    have HXB := hide fun k (hk : k < xs.length) => allB_at hxs hk
    have HWB := hide fun k (hk : k < xs.length) => allB_at hws (j := k) (by omega)
    have HTB := hide fun k (hk : k < xs.length) => topF_allB hxs k hk
    have KT1 := hide fun w hx => turned_c (.slice Ax xs.length cx) xs w hx (by omega)
    have KT2 := hide fun w hx => turned_c (.slice Ay ws.length cy) ws w hx (by omega)
    have hnb : allB (-1000000000) 1000000000 xs.reverse = true := allB_iff.2 fun y hy => by
      have := (allB_iff.1 hxs) y (List.mem_reverse.1 hy)
      omega
    have KNG := hide fun v w hx => negated_c v xs.reverse w hx (by rw [List.length_reverse]; omega) hnb
    obtain ⟨o, ho⟩ : ∃ o, riseX xs ws = o := ⟨_, rfl⟩
    rw [hturn, ho] at HPT
    rw [ho] at PI PS hbd hzero hfar
    obtain ⟨b, hb⟩ : ∃ b, (o == (0 : Int)) = b := ⟨_, rfl⟩
    have HCL := hide fun w hx => climbs_c (.slice Ax xs.length cx) xs w b hx hxl (by rw [← hb, ← hzero]; exact beq_iff_eq)
    obtain ⟨F, hF⟩ : ∃ F, farF xs ws xs.length = F := ⟨_, rfl⟩
    rw [hF] at hfar
    have HF := hide hF
    have HL := hide hlen
    obtain ⟨R1, hR1⟩ : ∃ R1, xs.reverse = R1 := ⟨_, rfl⟩
    obtain ⟨R2, hR2⟩ : ∃ R2, ws.reverse = R2 := ⟨_, rfl⟩
    rw [hR1] at KT1 KNG HPT
    rw [hR2] at KT2 HPT
    have ho0 : ¬ (o < 0) := by omega
    clear hok ho hzero hturn hF hlen hxs hws hnb hR1 hR2
    go_wp2_with fail
    refine (PI.out _ hx hy).mono ?_
    rintro e w2 ⟨rfl, hb2⟩
    go_wp2_with fail
    refine (PS.out _ (hx.below hb2) (hy.below hb2)).mono ?_
    rintro e w3 ⟨rfl, hb3⟩
    have hb23 := hb2.trans (hb3.mono hb2.size)
    clear PI PS
    go_wp2_with fail
    refine (HTOPS.out _ (hx.below hb23)).mono ?_
    rintro e w4 ⟨uT, T, rfl, hTl, hTf, hsT, hb4⟩
    have hb24 := hb23.trans (hb4.mono hb23.size)
    have hrT := hsT.rd
    obtain ⟨AT, cT, rfl, hcT, hmT, _⟩ := id hrT
    have HTF := hide hTf
    have HTL := hide hTl
    rw [hTl] at hcT hrT ⊢
    clear hTl hTf hsT
    have hx4 := hx.below hb24
    have hy4 := hy.below hb24
    go_wp2_with fail
    go_loopw [7, 8] (fun s i wr => ∃ k : Nat, k ≤ xs.length ∧ i = .int .i64 k ∧ s = .int .i64 (farF xs ws k) ∧ Below w4.heap.size w4 wr) (fun _ i _ => xs.length - (intOf i).toNat)
    case atStart => exact ⟨0, by omega, rfl, rfl, Below.refl _ _⟩
    case round =>
      obtain ⟨k, hk, rfl, rfl, hbel⟩ := hrel
      by_cases hlt : k < xs.length
      · obtain ⟨g1, o1, rfl, hg1, hcl1⟩ := hx4.at (by omega)
        obtain ⟨g2, o2, rfl, hg2, hcl2⟩ := hy4.at (by have := HL.out; omega)
        obtain ⟨g3, o3, rfl, hg3, hcl3⟩ := hrT.at (by have := HTL.out; omega)
        have c1 := (hbel.cell (p := ⟨g1, o1 + k, none⟩) hg1).trans (hcl1 k hlt)
        have c2 := (hbel.cell (p := ⟨g2, o2 + k, none⟩) hg2).trans (hcl2 k (by have := HL.out; omega))
        have c3 := (hbel.cell (p := ⟨g3, o3 + k, none⟩) hg3).trans (hcl3 k (by have := HTL.out; omega))
        rw [HTF.out k hlt] at c3
        have ik : (k : Int) < (xs.length : Int) := by omega
        have ikw : (k : Int) < (ws.length : Int) := by have := HL.out; omega
        have B1 := HXB.out k hlt
        have B2 := HWB.out k hlt
        have B3 := HTB.out k hlt
        have B4 := HFB.out k hk
        have B5 := HFB.out (k + 1) hlt
        have HS : Hid (farF xs ws (k + 1) = farF xs ws k + atL ws k * (topF xs k - atL xs k)) := rfl
        rw [HS.out] at B5
        obtain ⟨x, hx0⟩ : ∃ x, atL xs k = x := ⟨_, rfl⟩
        obtain ⟨y, hy0⟩ : ∃ x, atL ws k = x := ⟨_, rfl⟩
        obtain ⟨t, ht0⟩ : ∃ x, topF xs k = x := ⟨_, rfl⟩
        obtain ⟨f, hf0⟩ : ∃ x, farF xs ws k = x := ⟨_, rfl⟩
        rw [hx0] at c1 B1 B5 HS
        rw [hy0] at c2 B2 B5 HS
        rw [ht0] at c3 B3 B5 HS
        rw [hf0] at B4 B5 HS ⊢
        have e1 : IntKind.i64.wrap (t - x) = t - x := IntWalk.i64_in _ (by omega)
        have e2 : IntKind.i64.wrap (y * (t - x)) = y * (t - x) := IntWalk.i64_in _ (by omega)
        have e3 : IntKind.i64.wrap (f + y * (t - x)) = f + y * (t - x) := IntWalk.i64_in _ (by omega)
        clear hx0 hy0 ht0 hf0 hcl1 hcl2 hcl3
        go_wp2_with fail
        go_quiet (fail)
        go_wp2_with fail
        clear e1 e2 e3
        go_roundw
        case rel => exact ⟨k + 1, by omega, by go_num, by rw [HS.out], below_drewN hbel _⟩
        case measure => simp [intOf]; omega
      · obtain rfl : k = xs.length := by omega
        rw [HF.out]
        have hx5 := hx4.below hbel
        have hy5 := hy4.below hbel
        have hb25 := hb24.trans (hbel.mono hb24.size)
        clear HTL HTF hrT
        have hbb : (b == b) = true := by cases b <;> rfl
        have hof : decide (o ≤ F) = true := decide_eq_true hfar
        have hoo : (o == o) = true := beq_self_eq_true o
        go_wp2_with fail
        refine (HCL.out _ hx5).mono ?_
        rintro e w6 ⟨rfl, hb6⟩
        have hx6 := hx5.below hb6
        have hy6 := hy5.below hb6
        have hb26 := hb25.trans (hb6.mono hb25.size)
        go_wp2_with fail
        refine (KT1.out _ hx6).mono ?_
        rintro e w7 ⟨v7, rfl, hs7, hb7⟩
        have hr7 := hs7.rd
        have hy7 := hy6.below hb7
        have hb27 := hb26.trans (hb7.mono hb26.size)
        clear hs7
        go_wp2_with fail
        refine (KNG.out _ _ hr7).mono ?_
        rintro e w8 ⟨v8, rfl, hs8, hb8⟩
        have hr8 := hs8.rd
        have hy8 := hy7.below hb8
        have hb28 := hb27.trans (hb8.mono hb27.size)
        clear hs8
        go_wp2_with fail
        refine (KT2.out _ hy8).mono ?_
        rintro e w9 ⟨v9, rfl, hs9, hb9⟩
        have hr9 := hs9.rd
        have hr89 := hr8.below hb9
        have hb29 := hb28.trans (hb9.mono hb28.size)
        clear hs9
        go_wp2_with fail
        refine (HPT.out _ _ _ hr89 hr9).mono ?_
        rintro e w10 ⟨rfl, hb10⟩
        have hb210 := hb29.trans (hb10.mono hb29.size)
        go_wp2_with fail
        go_ret
        exact ⟨rfl, hb1.trans (hb210.mono hb1.size)⟩
end Go.Proofs.Ytahogdcmnpidiaa
