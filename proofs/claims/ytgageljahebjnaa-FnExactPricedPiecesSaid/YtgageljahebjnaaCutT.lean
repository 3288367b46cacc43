
/-
  Contract: leastMisses of the reference: the walk.
-/
import Derived.Test.YtgageljahebjnaaCutS
namespace Go.Proofs.Ytgageljahebjnaa
open Go.RowKit

theorem lit_ownV {w : World} {G B : Nat} (hG : G = w.heap.size) (hR : B ≤ G) : OwnV (w.alloc (.cells #[] 39)) B 39 (.slice (some ⟨G, 0, none⟩) 0 0) [] := by
  subst hG
  have h := World.ownsRow_lit (base := w.heap.size) (e := 39) (size := 1) w (#[] : Array Value) 0 (Nat.le_refl _) (by unfold maxLen; omega) (by simp)
  obtain ⟨hl, h0 | ⟨g, cap, cur, hv, hB, hr⟩⟩ := id h
  · exact ⟨hl, .inl h0⟩
  · exact ⟨hl, .inr ⟨g, cap, cur, hv, by omega, hr⟩⟩

set_option maxRecDepth 100000 in
set_option maxHeartbeats 8000000 in
theorem leastMisses_c (v : Value) (xs : List Int) (N : Nat) (w : World) (hr : Rd w v xs) (hall : allB (-30) 30 xs = true) (h0 : 1 ≤ xs.length) (hn : xs.length ≤ 8) (hN1 : 1 ≤ N) (hN8 : N ≤ 8) :
    Calls Try.prog 47 #[v, .int .i64 N] w fun e w' => ∃ g c us, e = .returned (.slice (some ⟨g, 0, none⟩) N c) ∧ N ≤ c ∧ c ≤ 9223372036854775807 ∧ g < w'.heap.size ∧ (∀ (j : Nat) u, us[j]? = some u → w'.cell? ⟨g, j, none⟩ = some u) ∧ RowsP w' w.heap.size us (mR xs) xs.length N ∧ Below w.heap.size w w' := by
  have hr' := hr
  obtain ⟨A, c, rfl, hc, hm, _⟩ := hr
  have HA := hide hall
  have HMS := hide fun i k (hi : i < k) (hk : k ≤ xs.length) w (hr : Rd w (.slice A xs.length c) xs) => missS_c (.slice A xs.length c) xs i k w hr hall hn hi hk
  obtain ⟨z0, hz0⟩ : ∃ z : Rat, z = 0 := ⟨_, rfl⟩
  have KZ : Hid (∀ w, Calls Try.prog 25 #[.int .i64 0, .int .i64 1] w fun e w' => e = .returned (.agg #[.int .i64 (z0).num, .int .i64 ((z0).den : Int)]) ∧ Below w.heap.size w w') := fun w => by
    have := fracS_c 0 1 w (by omega) (by omega) (by omega)
    rw [qf_one] at this
    rw [hz0]
    exact this
  have HZ := hide hz0
  obtain ⟨W, hW, hbW, hWs, hO0⟩ : ∃ W, w.alloc (.cells #[] 39) = W ∧ Below w.heap.size w W ∧ W.heap.size = w.heap.size + 1 ∧ OwnV W w.heap.size 39 (.slice (some ⟨w.heap.size, 0, none⟩) 0 0) [] :=
    ⟨_, rfl, by (repeat (first | exact Below.refl _ _ | assumption | refine Below.setCell ?_ (by first | (simp; done) | omega | (simp; omega) | (simp at *; omega)) _ | refine Below.drew ?_ | refine below_drewN ?_ _ | refine below_alloc' ?_ _ | refine below_to' ?_ (by assumption))), by simp, lit_ownV rfl (Nat.le_refl _)⟩
  have HO0 := hide hO0
  clear hall hz0 hO0
  go_enter Try.func47, Try.ntmps47
  go_wp2_with fail
  clear hW
  refine (KZ.out _).mono ?_
  rintro e w1 ⟨rfl, hb1⟩
  have hz1 := hb1.size
  obtain ⟨V, hV, hbV, hVs, hO1⟩ : ∃ V, w1.alloc (.cells #[.int .i64 z0.num, .int .i64 (z0.den : Int)] 24) = V ∧ Below w1.heap.size w1 V ∧ V.heap.size = w1.heap.size + 1 ∧ OwnP V w.heap.size (.slice (some ⟨w1.heap.size, 0, none⟩) 1 1) ((aRow (mR xs) xs.length 0).take 1) := by
    refine ⟨_, rfl, by (repeat (first | exact Below.refl _ _ | assumption | refine Below.setCell ?_ (by first | (simp; done) | omega | (simp; omega) | (simp at *; omega)) _ | refine Below.drew ?_ | refine below_drewN ?_ _ | refine below_alloc' ?_ _ | refine below_to' ?_ (by assumption))), by simp, ?_⟩
    rw [aRow_one (mR xs) xs.length 0 HZ.out]
    exact (OwnP.one w1 z0.num (z0.den : Int)).low (by omega)
  have HO1 := hide hO1
  have HOV := hide ((HO0.out.below hb1).below hbV)
  have hbwV : Below w.heap.size w V := hbW.trans ((hb1.trans (hbV.mono hz1)).mono (by omega))
  clear hO1
  go_wp2_with fail
  clear hV
  go_loopw [7, 8] (fun f i wr => ∃ (k cf : Nat) (Af : Option Addr), 1 ≤ k ∧ k ≤ xs.length + 1 ∧ i = .int .i64 k ∧ f = .slice Af k cf ∧ Hid (Below w.heap.size w wr ∧ OwnP wr w.heap.size (.slice Af k cf) ((aRow (mR xs) xs.length 0).take k) ∧ OwnV wr w.heap.size 39 (.slice (some ⟨w.heap.size, 0, none⟩) 0 0) [])) (fun _ i _ => xs.length + 1 - (intOf i).toNat)
  case atStart => exact ⟨1, 1, some ⟨w1.heap.size, 0, none⟩, by omega, by omega, rfl, rfl, hbwV, HO1.out, HOV.out⟩
  case round =>
    obtain ⟨k, cf, Af, hk1, hk, rfl, rfl, hwr⟩ := hrel
    have hbel := hwr.out.1
    have hzr := hbel.size
    have hrr := hr'.below hbel
    by_cases hkn : k ≤ xs.length
    · go_wp2_with fail
      refine (HMS.out 0 k (by omega) hkn _ hrr).mono ?_
      rintro e w2 ⟨rfl, hb2⟩
      have hz2 := hb2.size
      have hMk : Hid (missR (seg xs 0 k) = aR (mR xs) 0 k) := by show _ = _; rw [aR, if_neg (by omega)]; rfl
      have hT := hide (aRow_take (mR xs) (n := xs.length) (q := 0) hkn)
      obtain ⟨M, hM⟩ : ∃ M, missR (seg xs 0 k) = M := ⟨_, rfl⟩
      rw [hM] at hMk ⊢
      rw [← hMk.out] at hT
      have hown := hwr.out.2.1.below hb2
      have hsz : w.heap.size ≤ w2.heap.size := by omega
      have hlen : ((aRow (mR xs) xs.length 0).take k).length ≤ 1000000000 := by rw [List.length_take, aRow_len]; omega
      have hOV2 := hwr.out.2.2.below hb2
      have hap := own_apart2 hown hOV2
      have HOV2 := hide (And.intro hOV2 hap)
      have hbw2 := hbel.trans (hb2.mono hzr)
      clear hM hOV2 hap
      go_wp2_with (at_builtin; refine wpList_push_frac _ rfl (.tmp 25) (.tmp 29) rfl w.heap.size _ _ _ _ _ 1 rfl rfl hown hsz hlen ?_; intro v9 w9 hown9 hb9 hg9 hat9 hlt9)
      have HO9 : Hid (OwnP w9 w.heap.size v9 ((aRow (mR xs) xs.length 0).take (k + 1))) := by
        show OwnP _ _ _ _
        rw [hT.out]
        exact hown9
      obtain ⟨A9, c9, hv9⟩ : ∃ A9 c9, v9 = .slice A9 (k + 1) c9 := by
        obtain ⟨A9, c9, hv, _⟩ := HO9.out.sl
        rw [List.length_take, aRow_len, show min (k + 1) (xs.length + 1) = k + 1 by omega] at hv
        exact ⟨A9, c9, hv⟩
      subst hv9
      have HV9 := hide (HOV2.out.1.keep hg9 HOV2.out.2)
      clear hown9 hg9 hat9 hown
      go_roundw
      case rel => exact ⟨k + 1, c9, A9, by omega, by omega, by go_num, rfl, hbw2.trans hb9, HO9.out, HV9.out⟩
      case measure => simp [intOf]; omega
    · obtain rfl : k = xs.length + 1 := by omega
      rw [show ((xs.length + 1 : Nat) : Int) = (xs.length : Int) + 1 by omega]
      have hfull := aRow_full (mR xs) xs.length 0
      have hOP := hwr.out.2.1
      rw [hfull] at hOP
      have hOV := hwr.out.2.2
      have hne := own_apart hOP hOV
      obtain ⟨g1, c1, hv1, -, -⟩ := hOP.head (by rw [aRow_len]; omega)
      rw [aRow_len] at hv1
      simp only [Value.slice.injEq] at hv1
      obtain ⟨rfl, -, rfl⟩ := hv1
      have hdn : decide ((xs.length : Int) + 1 ≤ (xs.length : Int)) = false := decide_eq_false (by omega)
      have HX := hide (And.intro hOP hne)
      clear hfull hOP hne hwr
      go_wp2_with (at_builtin; refine wpList_push_val _ rfl (.tmp 31) (.tmp 33) rfl rowsF (by omega) w.heap.size _ _ _ rfl _ 1 rfl rfl hOV hzr (by simp) ?_; intro v5 w5 hown5 hb5 hg5 hat5 hlt5)
      have HR5 : Hid (RowsP w5 w.heap.size [.slice (some ⟨g1, 0, none⟩) (xs.length + 1) cf] (mR xs) xs.length 1) :=
        ⟨rfl, fun j hj => by obtain rfl : j = 0 := by omega
                             exact ⟨g1, cf, rfl, HX.out.1.keep hg5 HX.out.2⟩⟩
      have HO5 := hide hown5
      obtain ⟨g5, c5, hv5, -, -, -, -⟩ := hown5.head (by simp)
      simp only [List.nil_append, List.length_singleton] at hv5
      subst hv5
      have hbw5 := hbel.trans hb5
      clear hown5 hg5 hat5 hOV
      go_loopw [6, 9] (fun ot i wo => ∃ (q go co : Nat) (us : List Value), q + 1 ≤ N ∧ i = .int .i64 ((q : Int) + 2) ∧ ot = .slice (some ⟨go, 0, none⟩) (q + 1) co ∧
        Hid (Below w.heap.size w wo ∧ OwnV wo w.heap.size 39 (.slice (some ⟨go, 0, none⟩) (q + 1) co) us ∧ RowsP wo w.heap.size us (mR xs) xs.length (q + 1))) (fun _ i _ => N + 2 - (intOf i).toNat)
      case atStart => exact ⟨0, g5, c5, _, by omega, by simp, rfl, hbw5, HO5.out, HR5.out⟩
      case round =>
        rename World => wo
        obtain ⟨q, go, co, us, hqN, rfl, rfl, hwo⟩ := hrel
        have hbo := hwo.out.1
        have hzo := hbo.size
        have hul := hwo.out.2.2.1
        obtain ⟨g', c', hv', hco1, hco2, hgo, hcells⟩ := hwo.out.2.1.head (by omega)
        rw [hul] at hv' hco1
        simp only [Value.slice.injEq, Option.some.injEq, Addr.mk.injEq, and_true, true_and] at hv'
        obtain ⟨rfl, rfl⟩ := hv'
        have HCS := hide hcells
        clear hcells hul
        by_cases hq2 : q + 2 ≤ N
        · obtain ⟨gr, cr, hur, hrow⟩ := hwo.out.2.2.2 q (by omega)
          have cu := HCS.out q _ hur
          have hgr : gr < wo.heap.size := (hrow.len).2.2
          have HROW : Hid (∀ k, k ≤ xs.length → wo.cell? ⟨gr, k * 2, none⟩ = some (.int .i64 (aR (mR xs) q k).num) ∧ wo.cell? ⟨gr, k * 2 + 1, none⟩ = some (.int .i64 ((aR (mR xs) q k).den : Int))) := fun k hk => by
            have := (hrow.pr (j := k) (by rw [aRow_len]; omega)).1
            rw [aRow_at (mR xs) hk] at this
            exact this
          have HCU := hide cu
          have iq : (q : Int) + 2 ≤ (N : Int) := by omega
          clear hrow cu hur
          go_wp2_with fail
          refine (KZ.out _).mono ?_
          rintro e w6 ⟨rfl, hb6⟩
          have hz6 := hb6.size
          obtain ⟨V2, hV2, hbV2, hVs2, hO2⟩ : ∃ V, w6.alloc (.cells #[.int .i64 z0.num, .int .i64 (z0.den : Int)] 24) = V ∧ Below w6.heap.size w6 V ∧ V.heap.size = w6.heap.size + 1 ∧ OwnP V wo.heap.size (.slice (some ⟨w6.heap.size, 0, none⟩) 1 1) ((aRow (mR xs) xs.length (q + 1)).take 1) := by
            refine ⟨_, rfl, by (repeat (first | exact Below.refl _ _ | assumption | refine Below.setCell ?_ (by first | (simp; done) | omega | (simp; omega) | (simp at *; omega)) _ | refine Below.drew ?_ | refine below_drewN ?_ _ | refine below_alloc' ?_ _ | refine below_to' ?_ (by assumption))), by simp, ?_⟩
            rw [aRow_one (mR xs) xs.length (q + 1) HZ.out]
            exact (OwnP.one w6 z0.num (z0.den : Int)).low hz6
          have HO2 := hide hO2
          have hbo2 : Below wo.heap.size wo V2 := hb6.trans (hbV2.mono hz6)
          clear hO2
          go_wp2_with fail
          clear hV2
          go_loopw [10, 11] (fun rw i wr => ∃ (k cf : Nat) (Af : Option Addr), 1 ≤ k ∧ k ≤ xs.length + 1 ∧ i = .int .i64 k ∧ rw = .slice Af k cf ∧ Hid (Below wo.heap.size wo wr ∧ OwnP wr wo.heap.size (.slice Af k cf) ((aRow (mR xs) xs.length (q + 1)).take k))) (fun _ i _ => xs.length + 1 - (intOf i).toNat)
          case atStart => exact ⟨1, 1, some ⟨w6.heap.size, 0, none⟩, by omega, by omega, rfl, rfl, hbo2, HO2.out⟩
          case round =>
            rename World => wk
            obtain ⟨k, cf, Af, hk1, hk, rfl, rfl, hwk⟩ := hrel
            have hbk := hwk.out.1
            have hzk := hbk.size
            by_cases hkn : k ≤ xs.length
            · obtain ⟨t1, t2⟩ := HROW.out k hkn
              have t1 := (hbk.cell (p := ⟨gr, _, none⟩) hgr).trans t1
              have t2 := (hbk.cell (p := ⟨gr, _, none⟩) hgr).trans t2
              have cu := (hbk.cell (p := ⟨go, q, none⟩) hgo).trans HCU.out
              have ik : (k : Int) < (xs.length : Int) + 1 := by omega
              have hM0 : Hid (mA (mR xs) (aR (mR xs) q) k (1 - 1) = aR (mR xs) q k) := rfl
              obtain ⟨b0, hb0⟩ : ∃ b, aR (mR xs) q k = b := ⟨_, rfl⟩
              rw [hb0] at t1 t2 hM0
              obtain ⟨V3, hV3, hbV3, hVs3, hP3⟩ := new1 wk 24 b0.num b0.den
              have HP3 := hide hP3
              have HAK : Hid (mA (mR xs) (aR (mR xs) q) k (k - 1) = aR (mR xs) (q + 1) k) := by show _ = _; rw [aR, if_neg (by omega)]
              clear hb0 hP3
              go_wp2_with fail
              clear hV3
              have HT := hide (And.intro t1 t2)
              have HCUK := hide cu
              clear t1 t2 cu
              go_loopw [13] (fun i wz => ∃ j : Nat, 1 ≤ j ∧ j ≤ k ∧ i = .int .i64 j ∧ Hid (Below wk.heap.size V3 wz ∧ Pr wz wk.heap.size (mA (mR xs) (aR (mR xs) q) k (j - 1)).num ((mA (mR xs) (aR (mR xs) q) k (j - 1)).den : Int))) (fun i _ => k - (intOf i).toNat)
              case atStart => exact ⟨1, by omega, hk1, rfl, Below.refl _ _, by rw [hM0.out]; exact HP3.out⟩
              case round =>
                rename World => wz
                obtain ⟨j, hj1, hj, rfl, hwz⟩ := hrel
                have hb3z := hwz.out.1
                have hz3 := hb3z.size
                have hbkz : Below wk.heap.size wk wz := hbV3.trans hb3z
                have hzz := hbkz.size
                have hboz : Below wo.heap.size wo wz := hbk.trans (hbkz.mono hzk)
                by_cases hjk : j < k
                · obtain ⟨t1, t2⟩ := HROW.out j (by omega)
                  have t1 := (hboz.cell (p := ⟨gr, _, none⟩) hgr).trans t1
                  have t2 := (hboz.cell (p := ⟨gr, _, none⟩) hgr).trans t2
                  have cu := (hboz.cell (p := ⟨go, q, none⟩) hgo).trans HCU.out
                  have hrz := hr'.below (hbo.trans (hboz.mono hzo))
                  have s1 := aR_sm HA.out hn (p := q) (k := j) (by omega) (by omega)
                  have s2 := mR_sm HA.out hn (i := j) (k := k) hjk hkn
                  have s3 := aS_sm HA.out hn (p := q) (i := j) (k := k) (by omega) hjk hkn
                  have s4 := mA_sm HA.out hn (p := q) (k := k) (j := j - 1) (by omega) hkn
                  have hR : Hid (missR (seg xs j k) = mR xs j k) := rfl
                  have K1 := hide fun u (hu : Below wz.heap.size wz u) => HMS.out j k hjk hkn u (hrz.below hu)
                  rw [hR.out] at K1
                  have K2 := hide fun u => plusS_c (aR (mR xs) q j) (mR xs j k) u s1 s2
                  have HNX := hide (mA_next (mR xs) q k j hj1)
                  obtain ⟨F, hF⟩ : ∃ F, aR (mR xs) q j = F := ⟨_, rfl⟩
                  obtain ⟨R, hRe⟩ : ∃ F, mR xs j k = F := ⟨_, rfl⟩
                  rw [hF] at t1 t2 K2 HNX s3
                  rw [hRe] at K1 K2 HNX s3
                  obtain ⟨X, hX⟩ : ∃ X, F + R = X := ⟨_, rfl⟩
                  obtain ⟨Y, hY⟩ : ∃ Y, mA (mR xs) (aR (mR xs) q) k (j - 1) = Y := ⟨_, rfl⟩
                  have hpy := hwz.out.2
                  rw [hX] at K2 HNX s3
                  rw [hY] at HNX s4 hpy
                  have KL := hide fun u => lessS_c X Y u s3 s4
                  have HPY := hide hpy
                  have ij : (j : Int) < (xs.length : Int) + 1 := by omega
                  have hzzg : gr < wz.heap.size := by omega
                  have hzzo : go < wz.heap.size := by omega
                  clear hF hRe hX hY s1 s2 hR hrz hpy hwz s3 s4
                  go_wp2_with fail
                  refine wp_region_free_ex 13 14 (.cells #[.int .i64 0, .int .i64 0] 24) (by kernel_rfl) (by kernel_rfl) (by kernel_rfl) (fun oa hoa => by cases hoa; exact ⟨rfl, fun ρ w => by simp [execOp, go_sem]⟩) ?_
                  apply Exists.intro
                  refine ⟨fun z hz => ?_, ?_⟩
                  · have k1 := cell_grn hz hzzg t1
                    have k2 := cell_grn hz hzzg t2
                    have k3 := cell_grn hz hzzo cu
                    have K1z := hide fun u (hu : Below z.heap.size z u) => K1.out u (hz.trans (hu.mono hz.size))
                    simp only [List.take_succ_cons, List.take_zero]
                    repeat (go_big_quiet_step ((first | (go_at_call 26; with_reducible exact calls_grn K2.out) | (go_at_call 62; with_reducible exact calls_grn' K1z.out))))
                    exact wpQuiet_nil rfl
                  intro pc w3 hb3 hpc hoc
                  obtain ⟨⟨⟨q1, q2⟩, q3, q4⟩, Z1, hZ1, hbZ1, hPZ1, hs1⟩ := Pr.new hb3 hpc hoc X.num X.den
                  have hsz1 := hbZ1.size
                  have hpy1 := HPY.out.below hbZ1 (by omega)
                  have HPX := hide hPZ1
                  have HPY1 := hide hpy1
                  obtain ⟨⟨x1, x2⟩, x3, x4⟩ := hPZ1
                  obtain ⟨⟨y1, y2⟩, y3, y4⟩ := hpy1
                  clear t1 t2 cu hpc hoc hb3
                  simp only [List.drop_succ_cons, List.drop_zero, Act.put]
                  go_wp2_with fail
                  clear hZ1 q1 q2 q3 q4
                  refine (KL.out _).mono ?_
                  rintro e w4 ⟨rfl, hb4⟩
                  have hz4 := hb4.size
                  have hpx4 := HPX.out.below hb4 hs1
                  have hpy4 := HPY1.out.below hb4 (by omega)
                  have hb34 : Below wk.heap.size V3 w4 := hb3z.trans ((hbZ1.mono (by omega)).trans (hb4.mono (by omega)))
                  clear x1 x2 x3 x4 y1 y2 y3 y4
                  by_cases hxy : X < Y
                  · have hd := decide_eq_true hxy
                    have HX : Hid (mA (mR xs) (aR (mR xs) q) k (j + 1 - 1) = X) := by show _ = _; rw [HNX.out, if_pos hxy]
                    obtain ⟨Z, hZ, hbZ, hPZ, hZs, _⟩ := hpy4.put X.num X.den
                    obtain ⟨⟨x1, x2⟩, x3, x4⟩ := hpx4
                    obtain ⟨⟨y1, y2⟩, y3, y4⟩ := hpy4
                    have HPZ := hide hPZ
                    clear hxy hPZ
                    rw [hd]
                    go_wp2_with fail
                    clear hZ
                    go_roundw
                    case rel => exact ⟨j + 1, by omega, by omega, by go_num, hb34.trans hbZ, by rw [HX.out]; exact HPZ.out⟩
                    case measure => simp [intOf]; omega
                  · have hd := decide_eq_false hxy
                    have HX : Hid (mA (mR xs) (aR (mR xs) q) k (j + 1 - 1) = Y) := by show _ = _; rw [HNX.out, if_neg hxy]
                    have HPZ := hide hpy4
                    clear hxy hpx4 hpy4
                    rw [hd]
                    go_wp2_with fail
                    go_roundw
                    case rel => exact ⟨j + 1, by omega, by omega, by go_num, hb34, by rw [HX.out]; exact HPZ.out⟩
                    case measure => simp [intOf]; omega
                · obtain rfl : j = k := by omega
                  have hpb := hwz.out.2
                  rw [HAK.out] at hpb
                  have hTk := hide (aRow_take (mR xs) (n := xs.length) (q := q + 1) hkn)
                  obtain ⟨b1, hb1e⟩ : ∃ b, aR (mR xs) (q + 1) j = b := ⟨_, rfl⟩
                  rw [hb1e] at hpb hTk
                  obtain ⟨⟨y1, y2⟩, y3, y4⟩ := hpb
                  have hownz := hwk.out.2.below hbkz
                  have hlen : ((aRow (mR xs) xs.length (q + 1)).take j).length ≤ 1000000000 := by rw [List.length_take, aRow_len]; omega
                  have hszz : wo.heap.size ≤ wz.heap.size := by omega
                  clear hb1e
                  go_wp2_with (at_builtin; refine wpList_push_frac _ rfl (.tmp 77) (.tmp 79) rfl wo.heap.size _ _ _ _ _ 1 rfl rfl hownz hszz hlen ?_; intro v9 w9 hown9 hb9 hg9 hat9 hlt9)
                  have HO9 : Hid (OwnP w9 wo.heap.size v9 ((aRow (mR xs) xs.length (q + 1)).take (j + 1))) := by
                    show OwnP _ _ _ _
                    rw [hTk.out]
                    exact hown9
                  obtain ⟨A9, c9, hv9⟩ : ∃ A9 c9, v9 = .slice A9 (j + 1) c9 := by
                    obtain ⟨A9, c9, hv, _⟩ := HO9.out.sl
                    rw [List.length_take, aRow_len, show min (j + 1) (xs.length + 1) = j + 1 by omega] at hv
                    exact ⟨A9, c9, hv⟩
                  subst hv9
                  clear hown9 hg9 hat9 hownz
                  go_roundw
                  case rel => exact ⟨j + 1, c9, A9, by omega, by omega, by go_num, rfl, hboz.trans hb9, HO9.out⟩
                  case measure => simp [intOf]; omega
            · obtain rfl : k = xs.length + 1 := by omega
              have hfull := aRow_full (mR xs) xs.length (q + 1)
              have hOP := hwk.out.2
              rw [hfull] at hOP
              have hOV := hwo.out.2.1.below hbk
              have hRP := hwo.out.2.2.below hbk
              obtain ⟨g1, c1, hv1, -, -⟩ := hOP.head (by rw [aRow_len]; omega)
              rw [aRow_len] at hv1
              simp only [Value.slice.injEq] at hv1
              obtain ⟨rfl, -, rfl⟩ := hv1
              have HX := hide (And.intro (hOP.low (B' := w.heap.size) hzo) (And.intro hRP hOV))
              have hszk : w.heap.size ≤ wk.heap.size := by omega
              have hul : us.length ≤ 1000000000 := by rw [hwo.out.2.2.1]; omega
              have hbwk := hbo.trans (hbk.mono hzo)
              clear hfull hOP hRP hwk
              go_wp2_with (at_builtin; refine wpList_push_val _ rfl (.tmp 81) (.tmp 83) rfl rowsF (by omega) w.heap.size _ _ _ rfl _ 1 rfl rfl hOV hszk hul ?_; intro v5' w5' hown5 hb5' hg5 hat5 hlt5')
              have HR5' := hide ((HX.out.2.1.keep HX.out.2.2 hg5).snoc (HX.out.1.keep hg5 (own_apart HX.out.1 HX.out.2.2)))
              have hl5 : (us ++ [Value.slice (some ⟨g1, 0, none⟩) (xs.length + 1) cf]).length = q + 1 + 1 := HR5'.out.1
              obtain ⟨g6, c6, hv6, -, -, -, -⟩ := hown5.head (by omega)
              rw [hl5] at hv6
              subst hv6
              have HO6 := hide hown5
              clear hown5 hg5 hat5 hOV hl5 hul
              go_roundw
              case rel => exact ⟨q + 1, g6, c6, _, by omega, by go_num, rfl, hbwk.trans hb5', HO6.out, HR5'.out⟩
              case measure => simp [intOf]; omega
        · obtain ⟨e1, e2⟩ : q + 1 ≤ N ∧ N ≤ q + 1 := ⟨by omega, by omega⟩
          obtain rfl : N = q + 1 := by omega
          have HOUT := hide (And.intro hco1 (And.intro hco2 (And.intro hgo hwo.out.2.2)))
          go_wp2_with fail
          go_ret
          exact ⟨_, _, us, rfl, HOUT.out.1, HOUT.out.2.1, HOUT.out.2.2.1, HCS.out, HOUT.out.2.2.2, hbo⟩
end Go.Proofs.Ytgageljahebjnaa
