/-
  Contract: the line that is turned, in the program.
-/
import Derived.Test.YtcmjmnlccempfaaPartI
namespace Go.Proofs.Ytcmjmnlccempfaa
open Go.RowKit

set_option maxRecDepth 20000 in
set_option maxHeartbeats 8000000 in
theorem PartI_c (u v z : Value) (xs ys ms : List Int) (w : World) (hx : Rd w u xs) (hy : Rd w v ys) (hz : Rd w z ms) :
    Calls Try.prog 10 #[u, v, z] w fun e w' => ∃ v', e = .returned (.tuple #[v', .int .i64 (partX xs ys ms).2.1, .bool (partX xs ys ms).2.2]) ∧ Sl w' w.heap.size v' (partX xs ys ms).1 ∧ Below w.heap.size w w' := by
  have hcx := hx
  have hcy := hy
  have hcz := hz
  obtain ⟨A1, c1, rfl, hc1, hm1, hd1⟩ := hx
  obtain ⟨A2, c2, rfl, hc2, hm2, hd2⟩ := hy
  obtain ⟨A3, c3, rfl, hc3, hm3, hd3⟩ := hz
  clear hd1 hd2 hd3
  cases hpv : okPv xs ys
  · have HX := hide (partX_bad (xs := xs) (ys := ys) (ms := ms) (by rw [okPart_impl, hpv]; rfl))
    have HP := hide hpv
    clear hpv
    go_enter Try.func10, Try.ntmps10
    go_wp2_with fail
    refine (placesValid_c _ _ xs ys false _ hcx hcy HP.out).mono ?_
    rintro e w1 ⟨rfl, hb1⟩
    go_wp2_with fail
    go_ret3
    rw [HX.out]
    exact ⟨_, rfl, Sl.nil _ _, hb1⟩
  by_cases hl : (ms.length : Int) = (xs.length : Int)
  · have hlb : ((ms.length : Int) != (xs.length : Int)) = false := by simp [hl]
    have hl' : ms.length = xs.length := by omega
    clear hl
    cases hma : allB 0 1 ms
    · have HX := hide (partX_bad (xs := xs) (ys := ys) (ms := ms) (by rw [okPart_impl, hpv, hma]; simp))
      have HP := hide hpv
      have HM := hide hma
      clear hpv hma hl'
      go_enter Try.func10, Try.ntmps10
      go_wp2_with fail
      refine (placesValid_c _ _ xs ys true _ hcx hcy HP.out).mono ?_
      rintro e w1 ⟨rfl, hb1⟩
      go_wp2_with fail
      refine (allIn_c _ ms 0 1 false _ (hcz.below hb1) HM.out).mono ?_
      rintro e w2 ⟨rfl, hb2⟩
      go_wp2_with fail
      go_ret3
      rw [HX.out]
      exact ⟨_, rfl, Sl.nil _ _, by (repeat (first | exact Below.refl _ _ | assumption | refine Below.setCell ?_ (by first | (simp; done) | omega | (simp; omega) | (simp at *; omega)) _ | refine Below.drew ?_ | refine below_drewN ?_ _ | refine below_alloc' ?_ _ | refine below_to' ?_ (by assumption)))⟩
    · have hok : okPart xs ys ms = true := by rw [okPart_impl, hpv, hma, hl']; simp
      have HP := hide hpv
      have HM := hide hma
      obtain ⟨_, ⟨hl1, hl2, hxa, hya⟩, hl3, hl4⟩ := okPart_iff.1 hok
      have hxb := at_all hxa (by omega)
      have hyb := at_all hya (by omega)
      have hmb := mark_at hma
      have HX := hide (partX_ok hok)
      obtain ⟨g1, o1, rfl, hg1, hcl1⟩ := hcx.at hl4
      obtain ⟨g2, o2, rfl, hg2, hcl2⟩ := hcy.at (by omega)
      obtain ⟨g3, o3, rfl, hg3, hcl3⟩ := hcz.at (by omega)
      have PV := hide (placesValid_c _ _ xs ys true w hcx hcy HP.out)
      have AI := hide fun w1 (hb1 : Below w.heap.size w w1) => allIn_c _ ms 0 1 true w1 (hcz.below hb1) HM.out
      rw [← hl1] at hcl2 hc2 PV ⊢
      rw [← hl3] at hcl3 hc3 AI hlb ⊢
      obtain ⟨N, hN⟩ : ∃ N, xs.length = N := ⟨_, rfl⟩
      have HN := hide hN
      rw [hN] at hcl1 hcl2 hcl3 hc1 hc2 hc3 hl2 hl4 PV AI hlb ⊢
      clear hN hma hxa hya hl1 hl3 hok hcx hcy hcz hpv hl'
      go_enter Try.func10, Try.ntmps10
      go_wp2_with fail
      refine PV.out.mono ?_
      rintro e w1 ⟨rfl, hb1⟩
      go_wp2_with fail
      refine (AI.out _ hb1).mono ?_
      rintro e w2 ⟨rfl, hb2⟩
      have hb02 : Below w.heap.size w w2 := below_to' hb1 hb2
      have hGb := heap_alloc_new w2 (.cells #[.int .i64 0, .int .i64 0, .int .i64 0] 3)
      have hbG := below_alloc' hb02 (.cells #[.int .i64 0, .int .i64 0, .int .i64 0] 3)
      have hGw := hb02.size
      obtain ⟨G, hGe⟩ : ∃ G, w2.heap.size = G := ⟨_, rfl⟩
      rw [hGe] at hGb hGw
      have hn1 : ¬ g1 = G := by omega
      have hn2 : ¬ g2 = G := by omega
      have hn3 : ¬ g3 = G := by omega
      clear hb1 hb2
      go_wp2_with fail
      try rw [hGe]
      clear hGe
      go_loopw [10, 11, 12, 13, 31] (fun n be i s r wr => ∃ (a b c t : Int) (k : Nat), k ≤ 60 ∧ r = .int .i64 k ∧ n = .int .i64 t ∧ wr.heap[G]? = some (.cells #[.int .i64 a, .int .i64 b, .int .i64 c] 3 (0, 0)) ∧ okP ⟨a, b, c, t⟩ (7 * k) ∧ Hid (runP xs ys ms 60 zeroP = runP xs ys ms (60 - k) ⟨a, b, c, t⟩) ∧ Below w.heap.size w wr) (fun _ _ _ _ r _ => 60 - (intOf r).toNat)
      case atStart => exact ⟨0, 0, 0, 0, 0, by omega, rfl, rfl, hGb, by simp [okP], by show _ = _; rfl, hbG⟩
      case round =>
        obtain ⟨a, b, c, t, k, hk, rfl, rfl, hG, hP, hrun, hbel⟩ := hrel
        have htb0 : 0 ≤ t ∧ t ≤ 7 * k := hP.2.2.2
        by_cases hlt : k < 60
        · have hkd : decide ((k : Int) < 60) = true := decide_eq_true (by omega)
          go_wp2_with fail
          try simp only [hkd]
          go_loopw [10, 12, 13, 36] (fun n i s x wr => ∃ (a' b' c' t' : Int) (j : Nat), j ≤ N ∧ x = .int .i64 j ∧ Hid (roundP xs ys ms ⟨a, b, c, t⟩ j = ⟨a', b', c', t'⟩) ∧ n = .int .i64 t' ∧ wr.heap[G]? = some (.cells #[.int .i64 a', .int .i64 b', .int .i64 c'] 3 (0, 0)) ∧ Below w.heap.size w wr) (fun _ _ _ x _ => N - (intOf x).toNat)
          case atStart => exact ⟨a, b, c, t, 0, Nat.zero_le _, rfl, rfl, rfl, hG, hbel⟩
          case round =>
            obtain ⟨a', b', c', t', j, hj, rfl, hq, rfl, hG', hbel'⟩ := hrel
            by_cases hjl : j < N
            · have hc1 := (hbel'.cell (p := ⟨g1, o1 + j, none⟩) hg1).trans (hcl1 j hjl)
              have hc2 := (hbel'.cell (p := ⟨g2, o2 + j, none⟩) hg2).trans (hcl2 j hjl)
              have hc3 := (hbel'.cell (p := ⟨g3, o3 + j, none⟩) hg3).trans (hcl3 j hjl)
              have HR := hide (roundP_succ xs ys ms ⟨a, b, c, t⟩ j)
              have hPj := okP_round hxb hyb hmb hP j
              rw [hq.out] at HR hPj
              have hxj := hxb j
              have hyj := hyb j
              have hmj := hmb j
              obtain ⟨x, hxe⟩ : ∃ x, atL xs j = x := ⟨_, rfl⟩
              obtain ⟨y, hye⟩ : ∃ x, atL ys j = x := ⟨_, rfl⟩
              obtain ⟨m, hme⟩ : ∃ x, atL ms j = x := ⟨_, rfl⟩
              rw [hxe] at HR hxj hc1
              rw [hye] at HR hyj hc2
              rw [hme] at HR hmj hc3
              obtain ⟨f1, f2, f3, f4, f5, f6, f7, f8, f9, f10, f11, f12⟩ := turn_bd hPj (by omega) hxj hyj hmj
              have htb : 0 ≤ t' ∧ t' ≤ 7 * k + j := hPj.2.2.2
              have q0 : wr.cell? ⟨G, 0, none⟩ = some (.int .i64 a') := blk_cell hG' 0
              have q1 : wr.cell? ⟨G, 1, none⟩ = some (.int .i64 b') := blk_cell hG' 1
              have q2 : wr.cell? ⟨G, 2, none⟩ = some (.int .i64 c') := blk_cell hG' 2
              have z0 : wr.frozen? ⟨G, 0, none⟩ = false := blk_frozen hG' 0
              have z1 : wr.frozen? ⟨G, 1, none⟩ = false := blk_frozen hG' 1
              have z2 : wr.frozen? ⟨G, 2, none⟩ = false := blk_frozen hG' 2
              have hjN : (j : Int) < (N : Int) := by omega
              have HSd : Hid (sideP x y m ⟨a', b', c', t'⟩ = (2 * m - 1) * (a' * x + b' * y + c')) := rfl
              clear hcl1 hcl2 hcl3 hxe hye hme hP hPj hxb hyb hmb hq hxj hyj hmj
              by_cases cs : (2 * m - 1) * (a' * x + b' * y + c') ≤ 0
              · have HSt := hide (stepP_yes (x := x) (y := y) (m := m) (s := ⟨a', b', c', t'⟩) (by rw [HSd.out]; exact cs))
                go_wp2_with fail
                go_quiet (fail)
                go_wp2_with fail
                refine wp_region_quiet_tail 11 (by kernel_rfl) (by kernel_rfl) ?_
                simp only [List.take_succ_cons, List.take_zero, List.drop_succ_cons, List.drop_zero]
                repeat (go_big_quiet_step (fail))
                refine wpQuiet_nil ?_
                intro _ hw'
                obtain ⟨nq2, rfl⟩ := hw'
                go_wp2_with fail
                refine wp_region_quiet_tail 11 (by kernel_rfl) (by kernel_rfl) ?_
                simp only [List.take_succ_cons, List.take_zero, List.drop_succ_cons, List.drop_zero]
                repeat (go_big_quiet_step (fail))
                refine wpQuiet_nil ?_
                intro _ hw'
                obtain ⟨nq3, rfl⟩ := hw'
                go_wp2_with fail
                have hB0 : (((wr.drewN (nq + nq2)).setCell ⟨G, 0, none⟩ (.int .i64 (a' + (2 * m - 1) * x))).drewN nq3).heap[G]? = some (.cells #[.int .i64 (a' + (2 * m - 1) * x), .int .i64 b', .int .i64 c'] 3 (0, 0)) := blk_set (w := wr.drewN (nq + nq2)) hG' 0 _
                have hB1 := blk_set hB0 1 (.int .i64 (b' + (2 * m - 1) * y))
                have hB2 := blk_set hB1 2 (.int .i64 (c' + (2 * m - 1)))
                go_roundw
                case rel => exact ⟨a' + (2 * m - 1) * x, b' + (2 * m - 1) * y, c' + (2 * m - 1), t' + 1, j + 1, by omega, by go_num, by show _ = _; rw [HR.out, HSt.out], rfl, hB2, Below.setCell (Below.setCell (below_drewN (Below.setCell (below_drewN hbel' _) (by exact hGw) _) _) (by exact hGw) _) (by exact hGw) _⟩
                case measure => simp [intOf]; omega
              · have HSt := hide (stepP_no (x := x) (y := y) (m := m) (s := ⟨a', b', c', t'⟩) (by rw [HSd.out]; exact cs))
                have hcd : decide ((2 * m - 1) * (a' * x + b' * y + c') ≤ 0) = false := decide_eq_false cs
                go_wp2_with fail
                go_quiet (fail)
                go_wp2_with fail
                go_roundw
                case rel => exact ⟨a', b', c', t', j + 1, by omega, by go_num, by show _ = _; rw [HR.out, HSt.out], rfl, hG', below_drewN hbel' _⟩
                case measure => simp [intOf]; omega
            · obtain rfl : j = N := by omega
              have hPN := okP_round hxb hyb hmb hP j
              rw [hq.out] at hPN
              clear hcl1 hcl2 hcl3
              by_cases hte : t' = t
              · have hclean : (roundP xs ys ms ⟨a, b, c, t⟩ xs.length).t = (⟨a, b, c, t⟩ : PL).t := by rw [HN.out, hq.out]; exact hte
                have he := (round_clean hclean).1
                rw [HN.out, hq.out] at he
                injection he with e1 e2 e3 e4
                subst e1 e2 e3 e4
                obtain ⟨f, hf⟩ : ∃ f, 60 - k = f + 1 := ⟨59 - k, by omega⟩
                have HF : Hid (partX xs ys ms = ([a', b', c'], t', true)) := by show _ = _; rw [HX.out, hrun.out, hf, runP_clean f hclean]
                clear hclean hq hP hPN hxb hyb hmb hrun hf
                go_wp2_with fail
                go_ret3
                rw [HF.out]
                exact ⟨_, rfl, sl_of_blk hG' hGw, hbel'⟩
              · have hnc : ¬ (roundP xs ys ms ⟨a, b, c, t⟩ xs.length).t = (⟨a, b, c, t⟩ : PL).t := by rw [HN.out, hq.out]; exact hte
                obtain ⟨f, hf⟩ : ∃ f, 60 - k = f + 1 := ⟨59 - k, by omega⟩
                have HF : Hid (runP xs ys ms 60 zeroP = runP xs ys ms (60 - (k + 1)) ⟨a', b', c', t'⟩) := by
                  show _ = _
                  rw [hrun.out, hf, runP_next f hnc, HN.out, hq.out, show 60 - (k + 1) = f from by omega]
                have HP2 := hide (okP_mono hPN (show 7 * (k : Int) + j ≤ 7 * ((k + 1 : Nat) : Int) by omega))
                have htd : (t' == t) = false := beq_eq_false_iff_ne.2 hte
                clear hnc hq hP hPN hxb hyb hmb hrun hf hte hkd
                go_wp2_with fail
                go_roundw
                case rel => exact ⟨a', b', c', t', k + 1, by omega, by go_num, rfl, hG', HP2.out, HF, hbel'⟩
                case measure => simp [intOf]; omega
        · have hk6 : k = 60 := by omega
          have HF : Hid (partX xs ys ms = ([], t, false)) := by show _ = _; rw [HX.out, hrun.out, hk6]; rfl
          have hkd : ¬ (k : Int) < 60 := by omega
          clear hk6 hrun hP hxb hyb hmb hcl1 hcl2 hcl3
          go_wp2_with fail
          go_ret3
          rw [HF.out]
          exact ⟨_, rfl, Sl.nil _ _, hbel⟩
  · have hlb : ((ms.length : Int) != (xs.length : Int)) = true := by simpa using hl
    have HX := hide (partX_bad (xs := xs) (ys := ys) (ms := ms) (by rw [okPart_impl, hpv]; simp; intro h; omega))
    have HP := hide hpv
    clear hpv hl
    go_enter Try.func10, Try.ntmps10
    go_wp2_with fail
    refine (placesValid_c _ _ xs ys true _ hcx hcy HP.out).mono ?_
    rintro e w1 ⟨rfl, hb1⟩
    go_wp2_with fail
    go_ret3
    rw [HX.out]
    exact ⟨_, rfl, Sl.nil _ _, hb1⟩
end Go.Proofs.Ytcmjmnlccempfaa
