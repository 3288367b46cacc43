
/-
  Contracts: PricedPieces of the reference.
-/
import Derived.Test.YtgageljahebjnaaPriceI
import Derived.Test.YtgageljahebjnaaCutU
namespace Go.Proofs.Ytgageljahebjnaa
open Go.RowKit

set_option maxHeartbeats 400000 in
theorem PricedS_no (v : Value) (xs : List Int) (p : Int) (w : World) (hr : Rd w v xs) (h : ¬ okPP xs p) :
    Calls Try.prog 17 #[v, .int .i64 p] w fun e w' => e = .returned (.tuple #[.agg #[.int .i64 0, .int .i64 0], .int .i64 0, .bool false]) ∧ Below w.heap.size w w' := by
  have hr' := hr
  obtain ⟨A, c, rfl, hc, hm, _⟩ := hr
  cases hok : okSteps xs
  · have HO := hide hok
    clear hok h
    go_enter Try.func17, Try.ntmps17
    go_wp2_with fail
    refine (validSteps_c _ xs false _ (hr'.alloc _) HO.out).mono ?_
    rintro e w1 ⟨rfl, rfl⟩
    go_wp2_with fail
    refine bodyPost_ret (v := .tuple #[.agg #[.int .i64 0, .int .i64 0], .int .i64 0, .bool false]) (by simp [results, Try.results17, go_sem]) rfl ⟨rfl, ?_⟩
    (repeat (first | exact Below.refl _ _ | assumption | refine Below.setCell ?_ (by first | (simp; done) | omega | (simp; omega) | (simp at *; omega)) _ | refine Below.drew ?_ | refine below_drewN ?_ _ | refine below_alloc' ?_ _ | refine below_to' ?_ (by assumption)))
  · have HO := hide hok
    have hp : ¬ (0 ≤ p ∧ p ≤ 500) := fun hp => h ⟨hok, hp⟩
    clear hok h
    go_enter Try.func17, Try.ntmps17
    go_wp2_with fail
    refine (validSteps_c _ xs true _ (hr'.alloc _) HO.out).mono ?_
    rintro e w1 ⟨rfl, rfl⟩
    go_wp2_with fail
    refine (inRange_c false _ _ _ _ (by simp; omega)).mono ?_
    rintro e w' ⟨rfl, rfl⟩
    go_wp2_with fail
    refine bodyPost_ret (v := .tuple #[.agg #[.int .i64 0, .int .i64 0], .int .i64 0, .bool false]) (by simp [results, Try.results17, go_sem]) rfl ⟨rfl, ?_⟩
    (repeat (first | exact Below.refl _ _ | assumption | refine Below.setCell ?_ (by first | (simp; done) | omega | (simp; omega) | (simp at *; omega)) _ | refine Below.drew ?_ | refine below_drewN ?_ _ | refine below_alloc' ?_ _ | refine below_to' ?_ (by assumption)))

set_option maxHeartbeats 4000000 in
theorem PricedS_yes (v : Value) (xs : List Int) (p : Int) (w : World) (hr : Rd w v xs) (h : okPP xs p) :
    Calls Try.prog 17 #[v, .int .i64 p] w fun e w' => e = .returned (.tuple #[.agg #[.int .i64 ((bst (gA (mR xs) xs.length (p : Rat)) (xs.length - 1)).1).num, .int .i64 (((bst (gA (mR xs) xs.length (p : Rat)) (xs.length - 1)).1).den : Int)], .int .i64 ((bst (gA (mR xs) xs.length (p : Rat)) (xs.length - 1)).2 : Int), .bool true]) ∧ Below w.heap.size w w' := by
  obtain ⟨hok, hp1, hp2⟩ := h
  obtain ⟨hall, hl1, hl2⟩ := okSteps_parts hok
  have HO := hide hok
  have K := hide fun w hr => leastMisses_c v xs xs.length w hr hall hl1 hl2 hl1 hl2
  obtain ⟨G, hG⟩ : ∃ G, gA (mR xs) xs.length (p : Rat) = G := ⟨_, rfl⟩
  have HGq : Hid (∀ q, q < xs.length → aR (mR xs) q xs.length + ((p * ((q : Int) + 1) : Int) : Rat) = G q ∧ Sm (aR (mR xs) q xs.length) ∧ Sm (((p * ((q : Int) + 1) : Int)) : Rat) ∧ Sm (G q)) := fun q hq => by
    have e : aR (mR xs) q xs.length + ((p * ((q : Int) + 1) : Int) : Rat) = G q := by rw [← hG, gA, cost_int]
    obtain ⟨s1, s2, s3⟩ := sm_cost (c := p) (q := q) (aR_fb (p := q) hall hl2 (show 0 < xs.length by omega) (Nat.le_refl _)) hl2 hp1 hp2 (by omega)
    rw [e] at s3
    exact ⟨e, s1, s2, s3⟩
  rw [hG]
  have HSB : Hid (∀ j, j < xs.length → Sm (bst G j).1) := fun j hj => bst_P (P := Sm) j fun i hi => (HGq.out i (by omega)).2.2.2
  obtain ⟨W, hW, hbW, hWs, hRW⟩ := new1 w 24 0 0
  have HRW := hide hRW
  have hrW := hr.below hbW
  have hrW' := hrW
  obtain ⟨A, c, rfl, hc, hm, _⟩ := hrW
  -- the first row
  obtain ⟨hge, s1, s2, s3⟩ := HGq.out 0 (by omega)
  have hp0 : p * (((0 : Nat) : Int) + 1) = p := by simp
  rw [hp0] at hge s2
  have KF0 : Hid (∀ u, Calls Try.prog 25 #[.int .i64 p, .int .i64 1] u fun e w' => e = .returned (.agg #[.int .i64 ((p : Rat)).num, .int .i64 (((p : Rat)).den : Int)]) ∧ Below u.heap.size u w') := fun u => by
    have := fracS_c p 1 u (by omega) (by omega) (by omega)
    rwa [qf_one] at this
  have KP0 := hide fun u => plusS_c (aR (mR xs) 0 xs.length) (p : Rat) u s1 s2
  rw [hge] at KP0
  clear hok hall hG hRW hr hge s1 s2 s3 hp0
  go_enter Try.func17, Try.ntmps17
  go_wp2_with fail
  clear hW
  refine (validSteps_c _ xs true _ hrW' HO.out).mono ?_
  rintro e w1 ⟨rfl, rfl⟩
  go_wp2_with fail
  refine (inRange_c true _ _ _ _ (by simp; omega)).mono ?_
  rintro e w1 ⟨rfl, rfl⟩
  go_wp2_with fail
  refine (K.out _ hrW').mono ?_
  rintro e w2 ⟨g, cg, us, rfl, hg1, hg2, hgl, hcells, hrows, hb2⟩
  have hz2 := hb2.size
  have hbw2 : Below w.heap.size w w2 := hbW.trans (hb2.mono (by omega))
  have HRW2 := hide (HRW.out.below hb2 (by omega))
  have HROW : Hid (∀ j, j < xs.length → ∃ g1 c1, w2.cell? ⟨g, j, none⟩ = some (.slice (some ⟨g1, 0, none⟩) (xs.length + 1) c1) ∧ g1 < w2.heap.size ∧ w2.cell? ⟨g1, xs.length * 2, none⟩ = some (.int .i64 (aR (mR xs) j xs.length).num) ∧ w2.cell? ⟨g1, xs.length * 2 + 1, none⟩ = some (.int .i64 ((aR (mR xs) j xs.length).den : Int))) := fun j hj => by
    obtain ⟨g1, c1, hu, hg1l, t1, t2⟩ := hrows.last (j := j) hj
    exact ⟨g1, c1, hcells _ _ hu, hg1l, t1, t2⟩
  obtain ⟨g1, c1, cu, hg1l, t1, t2⟩ := HROW.out 0 (by omega)
  obtain ⟨F, hF⟩ : ∃ F, aR (mR xs) 0 xs.length = F := ⟨_, rfl⟩
  obtain ⟨R, hR⟩ : ∃ R : Rat, (p : Rat) = R := ⟨_, rfl⟩
  obtain ⟨X, hX⟩ : ∃ X, G 0 = X := ⟨_, rfl⟩
  rw [hF] at t1 t2 KP0
  rw [hR] at KF0 KP0
  rw [hX] at KP0
  have HX0 : Hid (bst G 0 = (X, 1)) := by show _ = _; rw [← hX]; rfl
  have i1 : (xs.length : Int) < (xs.length : Int) + 1 := by omega
  have i0 : 0 < xs.length := by omega
  clear hcells hrows hF hR hX
  go_wp2_with fail
  refine wp_region_free_ex 10 9 (.cells #[.int .i64 0, .int .i64 0] 24) (by kernel_rfl) (by kernel_rfl) (by kernel_rfl) (fun oa hoa => by cases hoa; exact ⟨rfl, fun ρ w => by simp [execOp, go_sem]⟩) ?_
  apply Exists.intro
  refine ⟨fun z hz => ?_, ?_⟩
  · have k1 := cell_grn hz hg1l t1
    have k2 := cell_grn hz hg1l t2
    have k3 := cell_grn hz hgl cu
    simp only [List.take_succ_cons, List.take_zero]
    repeat (go_big_quiet_step ((first | (go_at_call 26; with_reducible exact calls_grn KP0.out) | (go_at_call 25; with_reducible exact calls_grn KF0.out))))
    exact wpQuiet_nil rfl
  intro pb w3 hb3 hpb hob
  obtain ⟨⟨⟨q1, q2⟩, q3, q4⟩, V, hV, hbV, hPV, hsV⟩ := Pr.new hb3 hpb hob X.num X.den
  have HPV : Hid (Pr V pb (bst G 0).1.num ((bst G 0).1.den : Int)) := by
    show Pr _ _ _ _
    rw [HX0.out]
    exact hPV
  have HM0 : Hid ((bst G 0).2 = 1) := by show _ = _; rw [HX0.out]
  have hzV := hbV.size
  simp only [List.drop_succ_cons, List.drop_zero, Act.put]
  clear cu t1 t2 hob hb3 hPV
  go_wp2_with fail
  clear hV q1 q2 q3 q4
  go_loopw [8, 10] (fun mn i wr => ∃ j : Nat, j + 1 ≤ xs.length ∧ i = .int .i64 ((j : Int) + 2) ∧ mn = .int .i64 ((bst G j).2 : Int) ∧ Hid (Below pb V wr ∧ Pr wr pb (bst G j).1.num ((bst G j).1.den : Int))) (fun _ i _ => xs.length + 2 - (intOf i).toNat)
  case atStart => exact ⟨0, by omega, by simp, by rw [HM0.out]; rfl, Below.refl _ _, HPV.out⟩
  case round =>
    obtain ⟨j, hj, rfl, rfl, hwr⟩ := hrel
    have hbr := hwr.out.1
    have hzr := hbr.size
    have hb2r : Below w2.heap.size w2 wr := hbV.trans (hbr.mono hpb)
    have hz2r := hb2r.size
    by_cases hjn : j + 2 ≤ xs.length
    · obtain ⟨g1, c1, cu, hg1l, t1, t2⟩ := HROW.out (j + 1) (by omega)
      have cu := (hb2r.cell (p := ⟨g, _, none⟩) hgl).trans cu
      have t1 := (hb2r.cell (p := ⟨g1, _, none⟩) hg1l).trans t1
      have t2 := (hb2r.cell (p := ⟨g1, _, none⟩) hg1l).trans t2
      obtain ⟨hge, s1, s2, s3⟩ := HGq.out (j + 1) (by omega)
      obtain ⟨hcb1, hcb2⟩ := cost_bd (c := p) (q := j + 1) hp1 hp2 (by omega)
      have hpj : p * (((j + 1 : Nat) : Int) + 1) = p * ((j : Int) + 2) := by rw [show ((j + 1 : Nat) : Int) + 1 = (j : Int) + 2 by omega]
      rw [hpj] at hge s2 hcb1 hcb2
      have K0 : Hid (∀ u, Calls Try.prog 25 #[.int .i64 (p * ((j : Int) + 2)), .int .i64 1] u fun e w' => e = .returned (.agg #[.int .i64 (((p * ((j : Int) + 2) : Int) : Rat)).num, .int .i64 ((((p * ((j : Int) + 2) : Int) : Rat)).den : Int)]) ∧ Below u.heap.size u w') := fun u => by
        have := fracS_c (p * ((j : Int) + 2)) 1 u (by omega) (by omega) (by omega)
        rwa [qf_one] at this
      have K1 := hide fun u => plusS_c (aR (mR xs) (j + 1) xs.length) (((p * ((j : Int) + 2) : Int)) : Rat) u s1 s2
      rw [hge] at K1
      have sB := HSB.out j (by omega)
      have HBS : Hid (bst G (j + 1) = if G (j + 1) < (bst G j).1 then (G (j + 1), j + 2) else bst G j) := bst_succ G j
      obtain ⟨F, hF⟩ : ∃ F, aR (mR xs) (j + 1) xs.length = F := ⟨_, rfl⟩
      obtain ⟨R, hR⟩ : ∃ F : Rat, (((p * ((j : Int) + 2) : Int)) : Rat) = F := ⟨_, rfl⟩
      obtain ⟨X, hX⟩ : ∃ X, G (j + 1) = X := ⟨_, rfl⟩
      obtain ⟨B, hB⟩ : ∃ B, (bst G j).1 = B := ⟨_, rfl⟩
      have HBE := hide hB
      have hpr := hwr.out.2
      rw [hF] at t1 t2 K1
      rw [hR] at K0 K1
      rw [hX] at K1 HBS s3
      rw [hB] at HBS sB hpr
      have KL := hide fun u => lessS_c X B u s3 sB
      have HPB := hide hpr
      have e1 : IntKind.i64.wrap ((j : Int) + 1) = (j : Int) + 1 := IntWalk.i64_in _ (by omega)
      have e2 : IntKind.i64.wrap (p * ((j : Int) + 2)) = p * ((j : Int) + 2) := IntWalk.i64_in _ (by omega)
      have ij : (j : Int) + 1 < (xs.length : Int) := by omega
      have ij2 : (j : Int) + 2 ≤ (xs.length : Int) := by omega
      have hgr : g < wr.heap.size := by omega
      have hg1r : g1 < wr.heap.size := by omega
      clear hge s1 s2 s3 sB hF hR hX hB hcb1 hcb2 hpj hpr
      go_wp2_with fail
      refine wp_region_free_ex 14 11 (.cells #[.int .i64 0, .int .i64 0] 24) (by kernel_rfl) (by kernel_rfl) (by kernel_rfl) (fun oa hoa => by cases hoa; exact ⟨rfl, fun ρ w => by simp [execOp, go_sem]⟩) ?_
      apply Exists.intro
      refine ⟨fun z hz => ?_, ?_⟩
      · have k1 := cell_grn hz hg1r t1
        have k2 := cell_grn hz hg1r t2
        have k3 := cell_grn hz hgr cu
        simp only [List.take_succ_cons, List.take_zero]
        repeat (go_big_quiet_step ((first | (go_at_call 26; with_reducible exact calls_grn K1.out) | (go_at_call 25; with_reducible exact calls_grn K0.out))))
        exact wpQuiet_nil rfl
      intro pc w5 hb5 hpc hoc
      obtain ⟨⟨⟨q1, q2⟩, q3, q4⟩, Z1, hZ1, hbZ1, hPZ1, hs1⟩ := Pr.new hb5 hpc hoc X.num X.den
      have hsz1 := hbZ1.size
      have hpr1 := HPB.out.below hbZ1 (by omega)
      have HPX := hide hPZ1
      have HPB1 := hide hpr1
      obtain ⟨⟨x1, x2⟩, x3, x4⟩ := hPZ1
      obtain ⟨⟨y1, y2⟩, y3, y4⟩ := hpr1
      clear t1 t2 cu hpc hoc hb5 e1 e2
      simp only [List.drop_succ_cons, List.drop_zero, Act.put]
      go_wp2_with fail
      clear hZ1 q1 q2 q3 q4
      refine (KL.out _).mono ?_
      rintro e w4 ⟨rfl, hb4⟩
      have hz4 := hb4.size
      have hpx4 := HPX.out.below hb4 hs1
      have hpb4 := HPB1.out.below hb4 (by omega)
      have hbV4 : Below pb V w4 := hbr.trans ((hbZ1.mono (by omega)).trans (hb4.mono (by omega)))
      clear x1 x2 x3 x4 y1 y2 y3 y4
      by_cases hxb : X < B
      · have hd := decide_eq_true hxb
        have HBX : Hid (bst G (j + 1) = (X, j + 2)) := by show _ = _; rw [HBS.out, if_pos hxb]
        obtain ⟨Z2, hZ2, hbZ2, hPZ2, hZs2, _⟩ := hpb4.put X.num X.den
        obtain ⟨⟨x1, x2⟩, x3, x4⟩ := hpx4
        obtain ⟨⟨y1, y2⟩, y3, y4⟩ := hpb4
        have HP2 := hide hPZ2
        clear hxb hPZ2
        rw [hd]
        go_wp2_with fail
        clear hZ2
        go_roundw
        case rel => exact ⟨j + 1, by omega, by go_num, by rw [HBX.out]; go_num, hbV4.trans hbZ2, by rw [HBX.out]; exact HP2.out⟩
        case measure => simp [intOf]; omega
      · have hd := decide_eq_false hxb
        have HBX : Hid (bst G (j + 1) = bst G j ∧ (bst G (j + 1)).1 = B) := by
          have : bst G (j + 1) = bst G j := by rw [HBS.out, if_neg hxb]
          exact ⟨this, by rw [this]; exact HBE.out⟩
        have HP2 := hide hpb4
        clear hxb hpx4 hpb4
        rw [hd]
        go_wp2_with fail
        go_roundw
        case rel => exact ⟨j + 1, by omega, by go_num, by rw [HBX.out.1], hbV4, by rw [HBX.out.2]; exact HP2.out⟩
        case measure => simp [intOf]; omega
    · obtain ⟨B, hB⟩ : ∃ B, (bst G (xs.length - 1)).1 = B := ⟨_, rfl⟩
      obtain ⟨N2, hN2⟩ : ∃ B, (bst G (xs.length - 1)).2 = B := ⟨_, rfl⟩
      have HB := hide (And.intro hB hN2)
      have hjl : j = xs.length - 1 := by omega
      have hpb := hwr.out.2
      rw [hjl, hB] at hpb
      rw [hjl, hN2]
      obtain ⟨⟨b1, b2⟩, -, -⟩ := hpb
      have hRr := HRW2.out.keep hb2r (by omega)
      obtain ⟨Z, hZ, hbZ, hPZ, hZs, _⟩ := hRr.put B.num B.den
      obtain ⟨⟨r1, r2⟩, r3, r4⟩ := hRr
      obtain ⟨⟨z1, z2⟩, -, -⟩ := hPZ
      have hbwr : Below w.heap.size w wr := hbw2.trans (hb2r.mono (by omega))
      have hd : decide (((xs.length - 1 : Nat) : Int) + 2 ≤ (xs.length : Int)) = false := decide_eq_false (by omega)
      clear hB hN2 hjl
      go_wp2_with fail
      refine bodyPost_ret (v := .tuple #[.agg #[.int .i64 (B).num, .int .i64 ((B).den : Int)], .int .i64 (N2 : Int), .bool true]) (by simp [results, Try.results17, go_sem, z1, z2]) rfl ⟨by rw [HB.out.1, HB.out.2], hbwr.trans hbZ⟩
end Go.Proofs.Ytgageljahebjnaa
