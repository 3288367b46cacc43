
/-
  Contract: leastCut of the program, at the cost that a piece misses.
-/
import Derived.Test.YtgageljahebjnaaCutE
namespace Go.Proofs.Ytgageljahebjnaa
open Go.RowKit

theorem callFuncPM (args : Array Value) (w : World) : (callFunc 37 args).run Try.prog w = .ok (.enter 37 args) w := by kernel_rfl

theorem rd_front {w : World} {A : Option Addr} {n c k : Nat} {xs : List Int} (h : Rd w (.slice A n c) xs) (hk : k ≤ n) : Rd w (.slice A k c) (seg xs 0 k) := by
  obtain ⟨A', c', hv, hc, hm, hcell⟩ := h
  simp only [Value.slice.injEq] at hv
  obtain ⟨rfl, rfl, rfl⟩ := hv
  have hl : (seg xs 0 k).length = k := by rw [seg_len hk]; omega
  refine ⟨A, c, by rw [hl], by rw [hl]; omega, hm, fun hp => ?_⟩
  rw [hl] at hp ⊢
  obtain ⟨g, off, rfl, hg, hcl⟩ := hcell (by omega)
  refine ⟨g, off, rfl, hg, fun j hj => ?_⟩
  rw [hcl j (by omega)]
  simp [seg, List.getD, List.getElem?_take, hj]

set_option maxRecDepth 100000 in
set_option maxHeartbeats 8000000 in
theorem leastCut_c (v : Value) (xs : List Int) (w : World) (hr : Rd w v xs) (hall : allB (-30) 30 xs = true) (h0 : 1 ≤ xs.length) (hn : xs.length ≤ 8) :
    Calls Try.prog 50 #[v, .func (.func 37) #[] #[]] w fun e w' => ∃ v', e = .returned v' ∧ SlP w' w.heap.size v' (outL (mR xs) xs.length (xs.length - 1)) ∧ Below w.heap.size w w' := by
  have hcf := callFuncPM
  have hr' := hr
  obtain ⟨A, c, rfl, hc, hm, _⟩ := hr
  have HA := hide hall
  have HFro := hide fun k (h0 : 0 < k) (hk : k ≤ xs.length) w (hr : Rd w (.slice A xs.length c) xs) => pieceMiss_c _ (seg xs 0 k) w (rd_front hr hk) (seg_allB hall 0 k) (by rw [seg_len hk]; omega) (by rw [seg_len hk]; omega)
  have HSeg := hide fun i k (hi : i < k) (hk : k ≤ xs.length) w (hr : Rd w (.slice A xs.length c) xs) => pieceMiss_c _ (seg xs i k) w (hr.seg hi hk) (seg_allB hall i k) (by rw [seg_len hk]; omega) (by rw [seg_len hk]; omega)
  have w1 : IntKind.i64.wrap ((xs.length : Int) + 1) = (xs.length : Int) + 1 := IntWalk.i64_in _ (by omega)
  clear hall
  go_enter Try.func50, Try.ntmps50
  go_wp2_with (at_make; refine wpList_make_fracs _ rfl (.tmp 17) (.tmp 17) rfl (xs.length + 1) (by go_num) (by go_num) (by omega) ?_; intro w7 hown7 hbel7 hlt7)
  have HN0 : Hid (OwnP w7 w.heap.size (.slice (some ⟨w.heap.size, 0, none⟩) (xs.length + 1) (xs.length + 1)) (eRow (mR xs) 0 xs.length 1)) := by
    rw [← eRow_start (mR xs) (p := 0) (n := xs.length) (e := 1) (by omega)]
    exact hown7
  clear hown7
  go_loopw [7] (fun i wr => ∃ e : Nat, 1 ≤ e ∧ e ≤ xs.length + 1 ∧ i = .int .i64 e ∧ Hid (Below w.heap.size w wr ∧ OwnP wr w.heap.size (.slice (some ⟨w.heap.size, 0, none⟩) (xs.length + 1) (xs.length + 1)) (eRow (mR xs) 0 xs.length e))) (fun i _ => xs.length + 1 - (intOf i).toNat)
  case atStart => exact ⟨1, by omega, by omega, rfl, hbel7, HN0.out⟩
  case round =>
    obtain ⟨e, he1, he, rfl, hwr⟩ := hrel
    have hbel := hwr.out.1
    have hzr := hbel.size
    have hrr := hr'.below hbel
    by_cases hle : e ≤ xs.length
    · go_wp2_with fail
      refine (HFro.out e (by omega) hle _ hrr).mono ?_
      rintro ee w2 ⟨rfl, hb2⟩
      have hown2 := hwr.out.2.below hb2
      have hlen := eRow_len (mR xs) 0 xs.length e
      have hMe : Hid (missR (seg xs 0 e) = eR (mR xs) 0 e) := rfl
      obtain ⟨M, hM⟩ : ∃ M, missR (seg xs 0 e) = M := ⟨_, rfl⟩
      rw [hM] at hMe ⊢
      clear hM
      obtain ⟨Z, hZ, hownZ, hbZ, hZs⟩ := hown2.put (j := e) (by omega) M.num M.den
      rw [eRow_set (mR xs) (by omega) hle hMe.out] at hownZ
      obtain ⟨⟨a1, a2⟩, a3, a4⟩ := hown2.pr (j := e) (by omega)
      have HO := hide hownZ
      have ie : (e : Int) < (xs.length : Int) + 1 := by omega
      clear hwr hown2 hownZ hlen
      go_wp2_with fail
      clear hZ
      go_roundw
      case rel => exact ⟨e + 1, by omega, by omega, by go_num, hbel.trans ((hb2.mono hzr).trans hbZ), HO.out⟩
      case measure => simp [intOf]; omega
    · obtain rfl : e = xs.length + 1 := by omega
      rw [show ((xs.length + 1 : Nat) : Int) = (xs.length : Int) + 1 by omega]
      have hl0 := eRow_len (mR xs) 0 xs.length (xs.length + 1)
      have hpr := hwr.out.2.pr (j := xs.length) (by omega)
      rw [eRow_at (mR xs) (Nat.le_refl _) h0 (by omega)] at hpr
      obtain ⟨⟨r1, r2⟩, -, -⟩ := hpr
      have hE0 : Hid (outL (mR xs) xs.length 0 = [frp (eR (mR xs) 0 xs.length)]) := rfl
      obtain ⟨E0, hE0e⟩ : ∃ E, eR (mR xs) 0 xs.length = E := ⟨_, rfl⟩
      rw [hE0e] at hE0 r1 r2
      have a1 : wr.cell? ⟨w.heap.size, xs.length * 2, none⟩ = some (.int .i64 E0.num) := r1
      have a2 : wr.cell? ⟨w.heap.size, xs.length * 2 + 1, none⟩ = some (.int .i64 (E0.den : Int)) := r2
      obtain ⟨V, hV, hownV, hbV, hVs⟩ : ∃ V, wr.alloc (.cells #[.int .i64 E0.num, .int .i64 (E0.den : Int)] 24) = V ∧ OwnP V w.heap.size (.slice (some ⟨wr.heap.size, 0, none⟩) 1 1) (outL (mR xs) xs.length 0) ∧ Below wr.heap.size wr V ∧ V.heap.size = wr.heap.size + 1 := by
        refine ⟨_, rfl, ?_, by (repeat (first | exact Below.refl _ _ | assumption | refine Below.setCell ?_ (by first | (simp; done) | omega | (simp; omega) | (simp at *; omega)) _ | refine Below.drew ?_ | refine below_drewN ?_ _ | refine below_alloc' ?_ _ | refine below_to' ?_ (by assumption))), by simp⟩
        rw [hE0.out]
        exact (OwnP.one wr E0.num (E0.den : Int)).low hzr
      have HOV := hide hownV
      have hnowV := hwr.out.2.below hbV
      have HNV := hide hnowV
      have hbwV : Below w.heap.size w V := hbel.trans (hbV.mono hzr)
      have i1 : (xs.length : Int) < (xs.length : Int) + 1 := by omega
      have hdn : decide ((xs.length : Int) + 1 ≤ (xs.length : Int)) = false := decide_eq_false (by omega)
      clear r1 r2 hE0e hE0 hownV hnowV hwr hl0 hlt7 hbel7
      go_wp2_with fail
      clear hV a1 a2
      go_loopw [6, 8, 9] (fun nw ot i wo => ∃ (P q gN co : Nat) (Ao : Option Addr), 2 ≤ P ∧ P ≤ q + 2 ∧ q + 2 ≤ P ∧ P ≤ xs.length + 1 ∧ i = .int .i64 P ∧ nw = .slice (some ⟨gN, 0, none⟩) (xs.length + 1) (xs.length + 1) ∧ ot = .slice Ao (q + 1) co ∧
        Hid (Below w.heap.size w wo ∧ OwnP wo w.heap.size (.slice (some ⟨gN, 0, none⟩) (xs.length + 1) (xs.length + 1)) (eRow (mR xs) q xs.length (xs.length + 1)) ∧ OwnP wo w.heap.size (.slice Ao (q + 1) co) (outL (mR xs) xs.length q))) (fun _ _ i _ => xs.length + 1 - (intOf i).toNat)
      case atStart => exact ⟨2, 0, w.heap.size, 1, some ⟨wr.heap.size, 0, none⟩, by omega, by omega, by omega, by omega, rfl, rfl, rfl, hbwV, HNV.out, HOV.out⟩
      case round =>
        rename World => wo
        obtain ⟨P, q, gN, co, Ao, hP2, hPq, hqP, hPn, rfl, rfl, rfl, hwo⟩ := hrel
        by_cases hPl : P ≤ xs.length
        · have hbo := hwo.out.1
          have hzo := hbo.size
          go_wp2_with (at_make; refine wpList_make_fracs _ rfl (.tmp 43) (.tmp 43) rfl (xs.length + 1) (by go_num) (by go_num) (by omega) ?_; intro w8 hown8 hbel8 hlt8)
          have HNX : Hid (OwnP w8 wo.heap.size (.slice (some ⟨wo.heap.size, 0, none⟩) (xs.length + 1) (xs.length + 1)) (eRow (mR xs) (q + 1) xs.length (q + 2))) := by
            rw [← eRow_start (mR xs) (p := q + 1) (n := xs.length) (e := q + 2) (by omega)]
            exact hown8
          clear hown8
          go_loopw [11] (fun i wr => ∃ e : Nat, q + 2 ≤ e ∧ e ≤ xs.length + 1 ∧ i = .int .i64 e ∧ Hid (Below wo.heap.size wo wr ∧ OwnP wr wo.heap.size (.slice (some ⟨wo.heap.size, 0, none⟩) (xs.length + 1) (xs.length + 1)) (eRow (mR xs) (q + 1) xs.length e))) (fun i _ => xs.length + 1 - (intOf i).toNat)
          case atStart => exact ⟨P, by omega, by omega, rfl, hbel8, by rw [show P = q + 2 by omega]; exact HNX.out⟩
          case round =>
            rename World => we
            obtain ⟨e, he1, he2, rfl, hwe⟩ := hrel
            by_cases hel : e ≤ xs.length
            · have iP : IntKind.i64.wrap ((P : Int) - 1) = (P : Int) - 1 := IntWalk.i64_in _ (by omega)
              have hbe0 := hwe.out.1
              go_wp2_with fail
              go_loopw [12] (fun i wr => ∃ a : Nat, q + 1 ≤ a ∧ a ≤ e ∧ i = .int .i64 a ∧ Hid (Below wo.heap.size wo wr ∧ OwnP wr wo.heap.size (.slice (some ⟨wo.heap.size, 0, none⟩) (xs.length + 1) (xs.length + 1)) (eRowJ (mR xs) q xs.length e (a - (q + 1))))) (fun i _ => e - (intOf i).toNat)
              case atStart => exact ⟨q + 1, by omega, by omega, by simp only [Value.int.injEq, true_and]; omega, hbe0, by rw [Nat.sub_self]; exact hwe.out.2⟩
              case round =>
                rename World => wa
                obtain ⟨a, ha1, ha2, rfl, hwa⟩ := hrel
                by_cases hal : a < e
                · have hba := hwa.out.1
                  have hza := hba.size
                  have hbw : Below w.heap.size w wa := hbo.trans (hba.mono hzo)
                  have hra := hr'.below hbw
                  have hnow := hwo.out.2.1.below hba
                  obtain ⟨-, -, hgNl⟩ := hnow.len
                  have hpr := hnow.pr (j := a) (by rw [eRow_len]; omega)
                  rw [eRow_at (mR xs) (by omega) (by omega) (by omega)] at hpr
                  obtain ⟨⟨t1, t2⟩, -, -⟩ := hpr
                  have hR : Hid (missR (seg xs a e) = mR xs a e) := rfl
                  have s1 := eR_sm HA.out hn (p := q) (k := a) (by omega) (by omega)
                  have s2 := mR_sm HA.out hn (i := a) (k := e) hal hel
                  have s3 := eS_sm HA.out hn (p := q) (i := a) (k := e) (by omega) hal hel
                  have K1 := hide fun u (hu : Below wa.heap.size wa u) => HSeg.out a e hal hel u (hra.below hu)
                  have K2 := hide fun u => plusI_c (eR (mR xs) q a) (mR xs a e) u s1 s2
                  rw [hR.out] at K1
                  have hMst : Hid ((a = q + 1 → eR (mR xs) q a + mR xs a e = mE (mR xs) (eR (mR xs) q) q e 0) ∧ (q + 2 ≤ a → mE (mR xs) (eR (mR xs) q) q e (a - (q + 1)) = if eR (mR xs) q a + mR xs a e < mE (mR xs) (eR (mR xs) q) q e (a - (q + 2)) then eR (mR xs) q a + mR xs a e else mE (mR xs) (eR (mR xs) q) q e (a - (q + 2)))) :=
                    ⟨fun h => by rw [h]; rfl, fun h => mE_next (mR xs) q e a h⟩
                  obtain ⟨F, hF⟩ : ∃ F, eR (mR xs) q a = F := ⟨_, rfl⟩
                  obtain ⟨R, hRe⟩ : ∃ F, mR xs a e = F := ⟨_, rfl⟩
                  rw [hF] at t1 t2 K2 hMst s3
                  rw [hRe] at K1 K2 hMst s3
                  obtain ⟨X, hX⟩ : ∃ X, F + R = X := ⟨_, rfl⟩
                  rw [hX] at K2 hMst s3
                  have r1 : wa.cell? ⟨gN, a * 2, none⟩ = some (.int .i64 F.num) := t1
                  have r2 : wa.cell? ⟨gN, a * 2 + 1, none⟩ = some (.int .i64 (F.den : Int)) := t2
                  have ia : (a : Int) < (xs.length : Int) + 1 := by omega
                  have hca : ¬ c = a := by omega
                  clear t1 t2 hF hRe hX s1 s2 hR hnow hra
                  go_wp2_with fail
                  refine wp_region_free_ex 11 13 (.cells #[.int .i64 0, .int .i64 0] 24) (by kernel_rfl) (by kernel_rfl) (by kernel_rfl) (fun oa hoa => by cases hoa; exact ⟨rfl, fun ρ w => by simp [execOp, go_sem]⟩) ?_
                  apply Exists.intro
                  refine ⟨fun z hz => ?_, ?_⟩
                  · have k1 := cell_grn hz hgNl r1
                    have k2 := cell_grn hz hgNl r2
                    have K1z := hide fun u (hu : Below z.heap.size z u) => K1.out u (hz.trans (hu.mono hz.size))
                    simp only [List.take_succ_cons, List.take_zero]
                    repeat (go_big_quiet_step ((first | (go_at_call 33; with_reducible exact calls_grn K2.out) | (with_reducible exact calls_grn' K1z.out))))
                    exact wpQuiet_nil rfl
                  intro pc w3 hb3 hpc hoc
                  obtain ⟨⟨⟨q1, q2⟩, q3, q4⟩, Z1, hZ1, hbZ1, hPZ1, hs1⟩ := Pr.new hb3 hpc hoc X.num X.den
                  have hnx1 := hwa.out.2.below hbZ1
                  have hsz1 := hbZ1.size
                  have hboZ := hba.trans (hbZ1.mono hza)
                  have HPX := hide hPZ1
                  have HNX1 := hide hnx1
                  obtain ⟨⟨x1, x2⟩, x3, x4⟩ := hPZ1
                  have hlJ := eRowJ_len (mR xs) q xs.length e (a - (q + 1))
                  have hej : e < (eRowJ (mR xs) q xs.length e (a - (q + 1))).length := by omega
                  have HEJ := hide hej
                  have ie : (e : Int) < (xs.length : Int) + 1 := by omega
                  have hgX : wo.heap.size < Z1.heap.size := (hnx1.len).2.2
                  clear r1 r2 hnx1 hlJ hej hpc hoc hb3
                  simp only [List.drop_succ_cons, List.drop_zero, Act.put]
                  go_wp2_with fail
                  clear hZ1 q1 q2 q3 q4
                  by_cases haq : a = q + 1
                  · have hbt : ((a : Int) == (P : Int) - 1) = true := beq_iff_eq.2 (by omega)
                    have hXe : Hid (X = mE (mR xs) (eR (mR xs) q) q e (a - (q + 1))) := by show _ = _; rw [show a - (q + 1) = 0 by omega]; exact hMst.out.1 haq
                    have k1 := cell_grn (Below.refl Z1.heap.size Z1) hs1 x1
                    have k2 := cell_grn (Below.refl Z1.heap.size Z1) hs1 x2
                    clear haq x1 x2 x3 x4
                    go_wp2_with fail
                    refine wp_region_below (by kernel_rfl) (by kernel_rfl) ?_
                    repeat (go_big_quiet_step (fail))
                    refine wpQuiet_nil ?_
                    intro w4 hb4
                    clear k1 k2 hbt
                    obtain ⟨⟨x1, x2⟩, x3, x4⟩ := HPX.out.below hb4 hs1
                    have hnx4 := HNX1.out.below hb4
                    obtain ⟨⟨n1, n2⟩, n3, n4⟩ := hnx4.pr (j := e) HEJ.out
                    obtain ⟨Z2, hZ2, hown2, hbZ2, hZs2⟩ := hnx4.put (j := e) HEJ.out X.num X.den
                    rw [eRowJ_set (mR xs) q xs.length e (a - (q + 1)) hXe.out] at hown2
                    have hz4 := hb4.size
                    have HOX : Hid (OwnP Z2 wo.heap.size (.slice (some ⟨wo.heap.size, 0, none⟩) (xs.length + 1) (xs.length + 1)) (eRowJ (mR xs) q xs.length e (a + 1 - (q + 1)))) := by
                      rw [show a + 1 - (q + 1) = a - (q + 1) + 1 by omega]
                      exact hown2
                    clear hnx4 hown2
                    go_wp2_with fail
                    clear hZ2
                    go_roundw
                    case rel => exact ⟨a + 1, by omega, by omega, by go_num, hboZ.trans ((hb4.mono (by omega)).trans hbZ2), HOX.out⟩
                    case measure => simp [intOf]; omega
                  · have hbt : ((a : Int) == (P : Int) - 1) = false := beq_eq_false_iff_ne.2 (by omega)
                    have hY := eRowJ_at (mR xs) (q := q) (n := xs.length) (e := e) hel (a - (q + 2))
                    rw [show a - (q + 2) + 1 = a - (q + 1) by omega] at hY
                    obtain ⟨⟨t1, t2⟩, -, -⟩ := HNX1.out.pr (j := e) HEJ.out
                    rw [hY] at t1 t2
                    have sY := mE_sm HA.out hn (p := q) (k := e) (j := a - (q + 2)) (by omega) hel
                    have hXY : Hid (mE (mR xs) (eR (mR xs) q) q e (a - (q + 1)) = if X < mE (mR xs) (eR (mR xs) q) q e (a - (q + 2)) then X else mE (mR xs) (eR (mR xs) q) q e (a - (q + 2))) := hMst.out.2 (by omega)
                    have hJ : Hid (eRowJ (mR xs) q xs.length e (a - (q + 1)) = (eRow (mR xs) (q + 1) xs.length e).set e (frp (mE (mR xs) (eR (mR xs) q) q e (a - (q + 2))))) := by show _ = _; rw [show a - (q + 1) = a - (q + 2) + 1 by omega]; rfl
                    have hJ1 : Hid (eRowJ (mR xs) q xs.length e (a + 1 - (q + 1)) = (eRow (mR xs) (q + 1) xs.length e).set e (frp (mE (mR xs) (eR (mR xs) q) q e (a - (q + 1))))) := by show _ = _; rw [show a + 1 - (q + 1) = a - (q + 1) + 1 by omega]; rfl
                    obtain ⟨Y, hYe⟩ : ∃ Y, mE (mR xs) (eR (mR xs) q) q e (a - (q + 2)) = Y := ⟨_, rfl⟩
                    rw [hYe] at t1 t2 sY hXY hJ
                    have y1 : Z1.cell? ⟨wo.heap.size, e * 2, none⟩ = some (.int .i64 Y.num) := t1
                    have y2 : Z1.cell? ⟨wo.heap.size, e * 2 + 1, none⟩ = some (.int .i64 (Y.den : Int)) := t2
                    have KL := hide fun u => lessI_c X Y u s3 sY
                    obtain ⟨dm, hdm⟩ : ∃ d, decide (X < Y) = d := ⟨_, rfl⟩
                    rw [hdm] at KL
                    have HDM := hide hdm
                    have k1 := cell_grn (Below.refl Z1.heap.size Z1) hs1 x1
                    have k2 := cell_grn (Below.refl Z1.heap.size Z1) hs1 x2
                    have k3 := cell_grn (Below.refl Z1.heap.size Z1) hgX y1
                    have k4 := cell_grn (Below.refl Z1.heap.size Z1) hgX y2
                    clear haq x1 x2 x3 x4 t1 t2 y1 y2 hY hYe sY hdm
                    go_wp2_with fail
                    refine wp_region_below (by kernel_rfl) (by kernel_rfl) ?_
                    repeat (go_big_quiet_step ((go_at_call 40; with_reducible exact calls_grn KL.out)))
                    refine wpQuiet_nil ?_
                    intro w4 hb4
                    clear k1 k2 k3 k4 hbt
                    cases dm
                    · have hXY2 : ¬ X < Y := of_decide_eq_false HDM.out
                      have hnx4 := HNX1.out.below hb4
                      have hz4 := hb4.size
                      have HOX : Hid (OwnP w4 wo.heap.size (.slice (some ⟨wo.heap.size, 0, none⟩) (xs.length + 1) (xs.length + 1)) (eRowJ (mR xs) q xs.length e (a + 1 - (q + 1)))) := by
                        rw [hJ1.out, hXY.out, if_neg hXY2, ← hJ.out]
                        exact hnx4
                      clear hnx4 hXY2
                      go_wp2_with fail
                      go_roundw
                      case rel => exact ⟨a + 1, by omega, by omega, by go_num, hboZ.trans (hb4.mono (by omega)), HOX.out⟩
                      case measure => simp [intOf]; omega
                    · have hXe : Hid (X = mE (mR xs) (eR (mR xs) q) q e (a - (q + 1))) := by
                        show _ = _
                        rw [hXY.out, if_pos (of_decide_eq_true HDM.out)]
                      obtain ⟨⟨x1, x2⟩, x3, x4⟩ := HPX.out.below hb4 hs1
                      have hnx4 := HNX1.out.below hb4
                      obtain ⟨⟨n1, n2⟩, n3, n4⟩ := hnx4.pr (j := e) HEJ.out
                      obtain ⟨Z2, hZ2, hown2, hbZ2, hZs2⟩ := hnx4.put (j := e) HEJ.out X.num X.den
                      rw [eRowJ_set (mR xs) q xs.length e (a - (q + 1)) hXe.out] at hown2
                      have hz4 := hb4.size
                      have HOX : Hid (OwnP Z2 wo.heap.size (.slice (some ⟨wo.heap.size, 0, none⟩) (xs.length + 1) (xs.length + 1)) (eRowJ (mR xs) q xs.length e (a + 1 - (q + 1)))) := by
                        rw [show a + 1 - (q + 1) = a - (q + 1) + 1 by omega]
                        exact hown2
                      clear hnx4 hown2
                      go_wp2_with fail
                      clear hZ2
                      go_roundw
                      case rel => exact ⟨a + 1, by omega, by omega, by go_num, hboZ.trans ((hb4.mono (by omega)).trans hbZ2), HOX.out⟩
                      case measure => simp [intOf]; omega
                · have hROW : Hid (Below wo.heap.size wo wa ∧ OwnP wa wo.heap.size (.slice (some ⟨wo.heap.size, 0, none⟩) (xs.length + 1) (xs.length + 1)) (eRow (mR xs) (q + 1) xs.length (e + 1))) := by
                    have h := hwa.out
                    rw [show a = e by omega, eRowJ_done (mR xs) he1 hel] at h
                    exact h
                  go_wp2_with fail
                  go_roundw
                  case rel => exact ⟨e + 1, by omega, by omega, by go_num, hROW.out⟩
                  case measure => simp [intOf]; omega
            · obtain rfl : e = xs.length + 1 := by omega
              have hl0 := eRow_len (mR xs) (q + 1) xs.length (xs.length + 1)
              have hpr := hwe.out.2.pr (j := xs.length) (by omega)
              rw [eRow_at (mR xs) (Nat.le_refl _) (by omega) (by omega)] at hpr
              obtain ⟨⟨t1, t2⟩, -, -⟩ := hpr
              have hOS := hide (outL_succ (mR xs) xs.length q)
              have hoL := outL_len (mR xs) xs.length q
              have hoL8 : (outL (mR xs) xs.length q).length ≤ 1000000000 := by omega
              obtain ⟨E1, hE1⟩ : ∃ E, eR (mR xs) (q + 1) xs.length = E := ⟨_, rfl⟩
              rw [hE1] at t1 t2 hOS
              have a1 : we.cell? ⟨wo.heap.size, xs.length * 2, none⟩ = some (.int .i64 E1.num) := t1
              have a2 : we.cell? ⟨wo.heap.size, xs.length * 2 + 1, none⟩ = some (.int .i64 (E1.den : Int)) := t2
              have hbe := hwe.out.1
              have hze := hbe.size
              have hout := hwo.out.2.2.below hbe
              have hsz : w.heap.size ≤ we.heap.size := by omega
              have hob := World.ownsRow.lt hwo.out.2.2
              have HOB := hide hob
              have HOUT := hide hout
              have i1 : (xs.length : Int) < (xs.length : Int) + 1 := by omega
              have hbwe := hbo.trans (hbe.mono hzo)
              clear hl0 t1 t2 hE1 hob hoL
              go_wp2_with (at_builtin; refine wpList_push_frac _ rfl (.tmp 86) (.tmp 91) rfl w.heap.size _ _ _ _ _ 1 rfl rfl hout hsz hoL8 ?_; intro v9 w9 hown9 hb9 hg9 hat9 hlt9)
              have HO9 : Hid (OwnP w9 w.heap.size v9 (outL (mR xs) xs.length (q + 1))) := by
                show OwnP _ _ _ _
                rw [hOS.out]
                exact hown9
              have hne : (Value.slice (some ⟨wo.heap.size, 0, none⟩) (xs.length + 1) (xs.length + 1)).ownBlock = none ∨ (Value.slice (some ⟨wo.heap.size, 0, none⟩) (xs.length + 1) (xs.length + 1)).ownBlock ≠ (Value.slice Ao (q + 1) co).ownBlock := by
                right
                intro h
                have := HOB.out wo.heap.size (by rw [← h]; rfl)
                omega
              have HN9 := hide ((hwe.out.2.keep hg9 hne).low (B' := w.heap.size) hzo)
              obtain ⟨A9, c9, hv9⟩ : ∃ A9 c9, v9 = .slice A9 (q + 1 + 1) c9 := by
                obtain ⟨A9, c9, hv, _⟩ := HO9.out.sl
                rw [outL_len] at hv
                exact ⟨A9, c9, hv⟩
              subst hv9
              clear hown9 hg9 hat9 hout hne
              go_roundw
              case rel => exact ⟨P + 1, q + 1, wo.heap.size, c9, A9, by omega, by omega, by omega, by omega, by go_num, rfl, rfl, hbwe.trans hb9, HN9.out, HO9.out⟩
              case measure => simp [intOf]; omega
        · have HF : Hid (SlP wo w.heap.size (.slice Ao (q + 1) co) (outL (mR xs) xs.length (xs.length - 1))) := by
            have h := hwo.out.2.2.sl
            rw [show q = xs.length - 1 by omega] at h
            rw [show q = xs.length - 1 by omega]
            exact h
          have hbo := hwo.out.1
          go_wp2_with fail
          go_ret
          exact ⟨_, rfl, HF.out, hbo⟩
end Go.Proofs.Ytgageljahebjnaa
