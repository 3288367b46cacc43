
/-
  CurveAt of the reference.
-/
import Derived.Test.YtgageljahebjnaaCurS
import Derived.Test.YtgageljahebjnaaCurV
namespace Go.Proofs.Ytgageljahebjnaa
open Go.RowKit

theorem cell_lt {w : World} {b o : Nat} {x : Value} (h : w.cell? ⟨b, o, none⟩ = some x) : b < w.heap.size := by
  unfold World.cell? at h
  cases e : w.heap[b]? with
  | none => simp [e] at h
  | some o => exact (Array.getElem?_eq_some_iff.1 e).1
/-- The arguments for which there is a curve and a value. -/
def okC (xs ys : List Int) (z : Int) : Prop := okPts xs ys = true ∧ (1 ≤ xs.length ∧ xs.length ≤ 5) ∧ Dif (atL xs) xs.length ∧ (-12 ≤ z ∧ z ≤ 12)
set_option maxRecDepth 100000 in
set_option maxHeartbeats 4000000 in
theorem CurveS_yes (u v : Value) (xs ys : List Int) (z : Int) (n : Nat) (w : World) (hx : Rd w u xs) (hy : Rd w v ys) (hp : okPts xs ys = true) (hN1 : xs.length = n) (hN2 : ys.length = n) (h1 : 1 ≤ n) (h5 : n ≤ 5) (hd : Dis (atL xs) n) (px : Pl (atL xs) n) (py : Pl (atL ys) n) (hz : -12 ≤ z ∧ z ≤ 12) :
    Calls Try.prog 8 #[u, v, .int .i64 z] w fun e w' => e = .returned (.tuple #[.agg #[.int .i64 (hv (atL xs) (atL ys) n z n).num, .int .i64 ((hv (atL xs) (atL ys) n z n).den : Int)], .bool true]) ∧ Below w.heap.size w w' := by
  have K1 := hide fun w hx hy => validPoints_c u v xs ys true w hx hy hp
  have K2 := hide (inRange_c true n 1 5 · (by simp; omega))
  have K3 := hide fun w hx => different_c u xs true w hx ⟨fun _ i j h1 h2 e => hd i j h1 (by omega) (by omega), fun _ => rfl⟩
  have K4 := hide (inRange_c true z (-12) 12 · (by simp; omega))
  have K5 := hide fun w hx hy => factorsS_c u v xs ys n w hx hy hN1 hN2 h1 h5 hd px py
  have F1 := hide fun w => fracS_c 0 1 w (by omega) (by omega) (by omega)
  obtain ⟨A, c, rfl, hc, hm, _⟩ := id hx
  obtain ⟨A2, c2, rfl, hc2, hm2, _⟩ := id hy
  have HHX := hide hx
  have HHY := hide hy
  obtain ⟨g, off, rfl, hg, hcl⟩ := hx.at (by omega)
  rw [hN1] at hc hcl HHX K1 K3 K5 ⊢
  rw [hN2] at hc2 HHY K1 K5 ⊢
  have HX := hide fun (wz : World) (hb : Below w.heap.size w wz) k hk => (hb.cell (p := ⟨g, off + k, none⟩) hg).trans (hcl k hk)
  obtain ⟨X, hX⟩ : ∃ X, atL xs = X := ⟨_, rfl⟩
  obtain ⟨Y, hY⟩ : ∃ Y, atL ys = Y := ⟨_, rfl⟩
  rw [hX] at HX hd px K5 ⊢
  rw [hY] at py K5 ⊢
  have HD := hide hd
  have HPX := hide px
  have HPY := hide py
  clear hcl hx hy hX hY hN1 hN2 hd px py hp
  go_enter Try.func8, Try.ntmps8
  go_wp2_with fail
  obtain ⟨W, hW, hbW, hWs, R0⟩ := new1 w 24 0 0
  rw [hW]
  have HR0 := hide R0
  clear hW R0
  refine (K1.out _ (HHX.out.below hbW) (HHY.out.below hbW)).mono ?_
  rintro e w1 ⟨rfl, rfl⟩
  go_wp2_with (first | (go_at_call 22; with_reducible refine (K2.out _).mono ?_; rintro e wa ⟨rfl, rfl⟩) | (go_at_call 22; with_reducible refine (K4.out _).mono ?_; rintro e wa ⟨rfl, rfl⟩) | (go_at_call 23; with_reducible refine (K3.out _ (HHX.out.below hbW)).mono ?_; rintro e wa ⟨rfl, hba⟩))
  have hbwa : Below w.heap.size w wa := hbW.trans (hba.mono hbW.size)
  have HRa := hide (HR0.out.below hba (by omega))
  refine (K5.out _ (HHX.out.below hbwa) (HHY.out.below hbwa)).mono ?_
  rintro e wb ⟨vf, rfl, hOf, hbb⟩
  have hbwb : Below w.heap.size w wb := hbwa.trans (hbb.mono hbwa.size)
  have hza := hbwa.size
  have hWa := hba.size
  have HRb := hide (HRa.out.below hbb (by omega))
  have hfl := fac_len X Y n
  obtain ⟨gf, cf, rfl, hgf, hgf2⟩ := hOf.form (by omega)
  rw [hfl] at hOf ⊢
  have HOf := hide hOf
  clear hOf hfl
  go_wp2_with fail
  refine (F1.out _).mono ?_
  rintro e wc ⟨rfl, hbc⟩
  go_wp2_with fail
  obtain ⟨V, hV, hbV, hVs, hP⟩ := new1 wc 24 (qf 0 1).num ((qf 0 1).den : Int)
  rw [hV]
  have HP := hide hP
  clear hV hP
  go_loopw [10] (fun i wr => ∃ m : Nat, m ≤ n ∧ i = .int .i64 ((n : Int) - 1 - m) ∧ Hid (Pr wr wc.heap.size (hv X Y n z m).num ((hv X Y n z m).den : Int)) ∧ Below wc.heap.size wc wr) (fun i _ => (intOf i + 1).toNat)
  case atStart => exact ⟨0, by omega, by simp, HP.out, hbV⟩
  case round =>
    obtain ⟨m, hm, rfl, hpr, hbel⟩ := hrel
    by_cases hlt : m < n
    · obtain ⟨i, hi⟩ : ∃ i, n - 1 - m = i := ⟨_, rfl⟩
      have hie : (n : Int) - 1 - m = (i : Int) := by omega
      have hin : i < n := by omega
      have hbwr : Below w.heap.size w wr := hbwb.trans ((hbc.mono (by have := hbb.size; omega)).trans (hbel.mono (by have := hbb.size; have := hbc.size; omega)))
      have hbbr : Below wb.heap.size wb wr := hbc.trans (hbel.mono hbc.size)
      have x1 := HX.out wr hbwr i hin
      obtain ⟨⟨y1, y2⟩, _, _⟩ := (HOf.out.below hbbr).pr (j := i) (by rw [fac_len]; exact hin)
      rw [fac_at hin] at y1 y2
      have f1 := hv_fit1 (m := m) HD.out HPX.out HPY.out h5 hz hlt
      have f2 := hv_fit2 (m := m) HD.out HPX.out HPY.out h5 hz hlt
      have hE : hv X Y n z (m + 1) = hv X Y n z m * qf (z - X (n - 1 - m)) 1 + dd X Y (n - 1 - m) 0 := rfl
      have pxi := HPX.out i hin
      rw [hi] at f1 f2 hE
      rw [hie]
      have y1 : wr.cell? ⟨gf, i * 2, none⟩ = some (.int .i64 (dd X Y i 0).num) := y1
      have y2 : wr.cell? ⟨gf, i * 2 + 1, none⟩ = some (.int .i64 ((dd X Y i 0).den : Int)) := y2
      obtain ⟨⟨a1, a2⟩, a3, a4⟩ := id hpr.out
      have hgw : g < wr.heap.size := Nat.lt_of_lt_of_le hg hbwr.size
      have hgfw : gf < wr.heap.size := Nat.lt_of_lt_of_le hgf2 hbbr.size
      obtain ⟨x, hxe⟩ : ∃ x, X i = x := ⟨_, rfl⟩
      rw [hxe] at x1 f1 f2 hE pxi
      have ew : IntKind.i64.wrap (z - x) = z - x := IntWalk.i64_in _ (by omega)
      have ew2 : IntKind.i64.wrap ((i : Int) - 1) = (i : Int) - 1 := IntWalk.i64_in _ (by omega)
      have hin2 : (i : Int) < (n : Int) := by omega
      have G1 := hide fun w => fracS_c (z - x) 1 w (by omega) (by omega) (by omega)
      obtain ⟨p, hp⟩ : ∃ r, hv X Y n z m = r := ⟨_, rfl⟩
      obtain ⟨q, hq⟩ : ∃ r, hv X Y n z (m + 1) = r := ⟨_, rfl⟩
      obtain ⟨d, hd⟩ : ∃ r, dd X Y i 0 = r := ⟨_, rfl⟩
      obtain ⟨s, hs⟩ : ∃ r, qf (z - x) 1 = r := ⟨_, rfl⟩
      rw [hp] at f1 f2 hE a1 a2
      rw [hq] at hE
      rw [hd] at f2 hE y1 y2
      rw [hs] at G1 f1 f2 hE
      have G2 := hide fun w => timesS_d p s w f1
      obtain ⟨t, ht⟩ : ∃ r, p * s = r := ⟨_, rfl⟩
      rw [ht] at G2 f2 hE
      have G3 := hide fun w => plusS_d t d w f2
      rw [← hE] at G3
      have HQ := hide hq
      have hpw : wc.heap.size < wr.heap.size := cell_lt a1
      have k1 := cell_grn (Below.refl wr.heap.size wr) hgw x1
      have k2 := cell_grn (Below.refl wr.heap.size wr) hgfw y1
      have k3 := cell_grn (Below.refl wr.heap.size wr) hgfw y2
      have k4 := cell_grn (Below.refl wr.heap.size wr) hpw a1
      have k5 := cell_grn (Below.refl wr.heap.size wr) hpw a2
      have HPR : Hid (Pr wr wc.heap.size p.num (p.den : Int)) := ⟨⟨a1, a2⟩, a3, a4⟩
      have HIE := hide hie
      clear hxe hp hq hd hs ht hE f1 f2 x1 y1 y2 a1 a2 a3 a4 pxi hie hi hpr
      go_wp2_with fail
      refine wp_region_below_tail 14 (by kernel_rfl) (by kernel_rfl) ?_
      simp only [List.take_succ_cons, List.take_zero, List.drop_succ_cons, List.drop_zero]
      repeat (go_big_quiet_step ((first | (go_at_call 25; with_reducible exact calls_grn G1.out) | (go_at_call 27; with_reducible exact calls_grn G2.out) | (go_at_call 26; with_reducible exact calls_grn G3.out))))
      refine wpQuiet_nil ?_
      intro w6 hb6
      have hpr6 := HPR.out.keep hb6 hpw
      obtain ⟨⟨a1, a2⟩, a3, a4⟩ := hpr6
      obtain ⟨Z6, hZ6, hbZ6, hpZ6, hsZ6, _⟩ := set_pair (x := .int .i64 q.num) (y := .int .i64 (q.den : Int)) (Nat.le_refl wc.heap.size) a1 a2 a3 a4
      have HPZ : Hid (Pr Z6 wc.heap.size q.num (q.den : Int)) := ⟨⟨hpZ6.1, hpZ6.2.1⟩, hpZ6.2.2.1, hpZ6.2.2.2⟩
      have hb6s := hb6.size
      clear hpZ6 k1 k2 k3 k4 k5
      go_wp2_with fail
      clear hZ6 a1 a2 a3 a4
      go_roundw
      case rel => exact ⟨m + 1, by omega, by have := HIE.out; simp; omega, by rw [HQ.out]; exact HPZ.out, hbel.trans ((hb6.mono (by omega)).trans hbZ6)⟩
      case measure => have := HIE.out; simp [intOf]; try omega
    · obtain rfl : m = n := by omega
      have hni : ¬ (0 : Int) ≤ (m : Int) - 1 - m := by omega
      have hbbr : Below wb.heap.size wb wr := hbc.trans (hbel.mono hbc.size)
      have hbwr : Below w.heap.size w wr := hbwb.trans (hbbr.mono (by have := hbb.size; omega))
      have hRr := HRb.out.below hbbr (by have := hbb.size; omega)
      obtain ⟨⟨b1, b2⟩, b3, b4⟩ := hRr
      obtain ⟨⟨a1, a2⟩, a3, a4⟩ := hpr.out
      obtain ⟨q, hq⟩ : ∃ r, hv X Y m z m = r := ⟨_, rfl⟩
      rw [hq] at a1 a2
      have HQ := hide hq
      clear hq
      obtain ⟨Z6, hZ6, hbZ6, hpZ6, hsZ6, _⟩ := set_pair (x := .int .i64 q.num) (y := .int .i64 (q.den : Int)) (Nat.le_refl w.heap.size) b1 b2 b3 b4
      obtain ⟨e1, e2, _, _⟩ := hpZ6
      go_wp2_with fail
      refine bodyPost_ret (v := .tuple #[.agg #[.int .i64 (q).num, .int .i64 ((q).den : Int)], .bool true]) (by simp [results, Try.results8, go_sem, e1, e2]) rfl ⟨by rw [HQ.out], hbwr.trans hbZ6⟩

set_option maxHeartbeats 1000000 in
theorem CurveS_no (u v : Value) (xs ys : List Int) (z : Int) (w : World) (hx : Rd w u xs) (hy : Rd w v ys) (h : ¬ okC xs ys z) :
    Calls Try.prog 8 #[u, v, .int .i64 z] w fun e w' => e = .returned (.tuple #[.agg #[.int .i64 0, .int .i64 0], .bool false]) ∧ Below w.heap.size w w' := by
  have HHX := hide hx
  have HHY := hide hy
  obtain ⟨A, c, rfl, hc, hm, _⟩ := hx
  obtain ⟨A2, c2, rfl, hc2, hm2, _⟩ := hy
  obtain ⟨W, hW, hbW, hWs, hRW⟩ := new1 w 24 0 0
  have HR := hide hRW
  have hsw : w.heap.size < W.heap.size := by omega
  clear hRW
  cases hok : okPts xs ys
  · have HO := hide hok
    clear hok h
    go_enter Try.func8, Try.ntmps8
    go_wp2_with fail
    refine (validPoints_c _ _ xs ys false _ (HHX.out.below hbW) (HHY.out.below hbW) HO.out).mono ?_
    rintro e w1 ⟨rfl, rfl⟩
    obtain ⟨Z, hZ, hbZ, hPZ, -⟩ := Pr.put HR.out 0 0
    obtain ⟨⟨r1, r2⟩, r3, r4⟩ := HR.out
    obtain ⟨⟨z1, z2⟩, -, -⟩ := hPZ
    go_wp2_with fail
    refine bodyPost_ret (v := .tuple #[.agg #[.int .i64 0, .int .i64 0], .bool false]) (by simp [results, Try.results8, go_sem, z1, z2]) rfl ⟨rfl, ?_⟩
    exact hbW.trans hbZ
  have HO := hide hok
  cases hin : (decide (1 ≤ (xs.length : Int)) && decide ((xs.length : Int) ≤ 5))
  · have HN := hide hin
    clear hok h hin
    go_enter Try.func8, Try.ntmps8
    go_wp2_with fail
    refine (validPoints_c _ _ xs ys true _ (HHX.out.below hbW) (HHY.out.below hbW) HO.out).mono ?_
    rintro e w1 ⟨rfl, rfl⟩
    go_wp2_with fail
    refine (inRange_c false _ _ _ _ HN.out).mono ?_
    rintro e w1 ⟨rfl, rfl⟩
    obtain ⟨Z, hZ, hbZ, hPZ, -⟩ := Pr.put HR.out 0 0
    obtain ⟨⟨r1, r2⟩, r3, r4⟩ := HR.out
    obtain ⟨⟨z1, z2⟩, -, -⟩ := hPZ
    go_wp2_with fail
    refine bodyPost_ret (v := .tuple #[.agg #[.int .i64 0, .int .i64 0], .bool false]) (by simp [results, Try.results8, go_sem, z1, z2]) rfl ⟨rfl, ?_⟩
    exact hbW.trans hbZ
  have HN := hide hin
  have hl : 1 ≤ xs.length ∧ xs.length ≤ 5 := by simp at hin; omega
  by_cases hdf : Dif (atL xs) xs.length
  · have HD := hide hdf
    have hz : (decide (-12 ≤ z) && decide (z ≤ 12)) = false := by
      cases hz : (decide (-12 ≤ z) && decide (z ≤ 12))
      · rfl
      · exact absurd ⟨hok, hl, hdf, by simpa using hz⟩ h
    have HZ := hide hz
    clear hok h hin hl hdf hz
    go_enter Try.func8, Try.ntmps8
    go_wp2_with fail
    refine (validPoints_c _ _ xs ys true _ (HHX.out.below hbW) (HHY.out.below hbW) HO.out).mono ?_
    rintro e w1 ⟨rfl, rfl⟩
    go_wp2_with fail
    refine (inRange_c true _ _ _ _ HN.out).mono ?_
    rintro e w1 ⟨rfl, rfl⟩
    go_wp2_with fail
    refine (different_c _ xs true _ (HHX.out.below hbW) ⟨fun _ => HD.out, fun _ => rfl⟩).mono ?_
    rintro e w1 ⟨rfl, hb1⟩
    go_wp2_with fail
    refine (inRange_c false _ _ _ _ HZ.out).mono ?_
    rintro e w2 ⟨rfl, rfl⟩
    obtain ⟨Z, hZ, hbZ, hPZ, -⟩ := Pr.put (HR.out.below hb1 hsw) 0 0
    obtain ⟨⟨r1, r2⟩, r3, r4⟩ := HR.out.below hb1 hsw
    obtain ⟨⟨z1, z2⟩, -, -⟩ := hPZ
    go_wp2_with fail
    refine bodyPost_ret (v := .tuple #[.agg #[.int .i64 0, .int .i64 0], .bool false]) (by simp [results, Try.results8, go_sem, z1, z2]) rfl ⟨rfl, ?_⟩
    exact (hbW.trans (hb1.mono (by omega))).trans hbZ
  · have HD := hide hdf
    clear hok h hin hl hdf
    go_enter Try.func8, Try.ntmps8
    go_wp2_with fail
    refine (validPoints_c _ _ xs ys true _ (HHX.out.below hbW) (HHY.out.below hbW) HO.out).mono ?_
    rintro e w1 ⟨rfl, rfl⟩
    go_wp2_with fail
    refine (inRange_c true _ _ _ _ HN.out).mono ?_
    rintro e w1 ⟨rfl, rfl⟩
    go_wp2_with fail
    refine (different_c _ xs false _ (HHX.out.below hbW) ⟨fun h => (by cases h), fun h => absurd h HD.out⟩).mono ?_
    rintro e w1 ⟨rfl, hb1⟩
    obtain ⟨Z, hZ, hbZ, hPZ, -⟩ := Pr.put (HR.out.below hb1 hsw) 0 0
    obtain ⟨⟨r1, r2⟩, r3, r4⟩ := HR.out.below hb1 hsw
    obtain ⟨⟨z1, z2⟩, -, -⟩ := hPZ
    go_wp2_with fail
    refine bodyPost_ret (v := .tuple #[.agg #[.int .i64 0, .int .i64 0], .bool false]) (by simp [results, Try.results8, go_sem, z1, z2]) rfl ⟨rfl, ?_⟩
    exact (hbW.trans (hb1.mono (by omega))).trans hbZ
end Go.Proofs.Ytgageljahebjnaa
