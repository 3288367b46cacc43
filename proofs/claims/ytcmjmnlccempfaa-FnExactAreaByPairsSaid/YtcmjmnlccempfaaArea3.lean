/-
  Contract: AreaByPairs of the program.
-/
import Derived.Test.YtcmjmnlccempfaaArea2
namespace Go.Proofs.Ytcmjmnlccempfaa
open Go.RowKit

set_option maxHeartbeats 1000000 in
theorem ValidCases_c (u z : Value) (xs ms : List Int) (r : Bool) (w : World) (hx : Rd w u xs) (hz : Rd w z ms) (hr : okCases xs ms = r) :
    Calls Try.prog 57 #[u, z] w fun e w' => e = .returned (.bool r) ∧ Below w.heap.size w w' := by
  have hcx := hx
  have hcz := hz
  obtain ⟨A, c, rfl, hc, hm, hd1⟩ := hx
  obtain ⟨A3, c3, rfl, hc3, hm3, hd3⟩ := hz
  clear hd1 hd3
  by_cases h0 : (0 : Int) < (xs.length : Int)
  · cases hd : okData xs
    · have HF : Hid (r = false) := by show _ = _; rw [← hr, okCases, hd]; rfl
      have HD := hide hd
      clear hd hr
      go_enter Try.func57, Try.ntmps57
      go_wp2_with fail
      refine (ValidData_c _ xs false _ hcx HD.out).mono ?_
      rintro e w1 ⟨rfl, hb1⟩
      go_wp2_with fail
      go_ret
      exact ⟨ret_bool HF.out.symm, hb1⟩
    · have HD := hide hd
      by_cases hl : (ms.length : Int) = (xs.length : Int)
      · have hlb : ((ms.length : Int) == (xs.length : Int)) = true := beq_iff_eq.2 hl
        have HF : Hid (r = allB 0 1 ms) := by
          show _ = _
          rw [← hr]
          cases hma : allB 0 1 ms
          · exact okCases_no (by simp [hma])
          · exact okCases_yes hd (by omega) (by omega) hma
        clear hd hr hl
        obtain ⟨B, hB⟩ : ∃ B, allB 0 1 ms = B := ⟨_, rfl⟩
        rw [hB] at HF
        have HB := hide hB
        clear hB
        go_enter Try.func57, Try.ntmps57
        go_wp2_with fail
        refine (ValidData_c _ xs true _ hcx HD.out).mono ?_
        rintro e w1 ⟨rfl, hb1⟩
        go_wp2_with fail
        refine (allIn_c _ ms 0 1 B _ (hcz.below hb1) HB.out).mono ?_
        rintro e w2 ⟨rfl, hb2⟩
        go_wp2_with fail
        go_ret
        exact ⟨ret_bool HF.out.symm, by (repeat (first | exact Below.refl _ _ | assumption | refine Below.setCell ?_ (by first | (simp; done) | omega | (simp; omega) | (simp at *; omega)) _ | refine Below.drew ?_ | refine below_drewN ?_ _ | refine below_alloc' ?_ _ | refine below_to' ?_ (by assumption)))⟩
      · have hlb : ((ms.length : Int) == (xs.length : Int)) = false := beq_eq_false_iff_ne.2 hl
        have HF : Hid (r = false) := by show _ = _; rw [← hr]; exact okCases_no (by omega)
        clear hd hr hl
        go_enter Try.func57, Try.ntmps57
        go_wp2_with fail
        refine (ValidData_c _ xs true _ hcx HD.out).mono ?_
        rintro e w1 ⟨rfl, hb1⟩
        go_wp2_with fail
        go_ret
        exact ⟨ret_bool HF.out.symm, hb1⟩
  · have HF : Hid (r = false) := by show _ = _; rw [← hr]; exact okCases_no (by omega)
    clear hr
    go_enter Try.func57, Try.ntmps57
    go_wp2_with fail
    go_ret
    exact ⟨ret_bool HF.out.symm, Below.refl _ _⟩

set_option maxHeartbeats 1000000 in
theorem bothMarks_c (u z : Value) (xs ms : List Int) (r0 r1 r2 : Bool) (w : World) (hx : Rd w u xs) (hz : Rd w z ms) (h0 : okCases xs ms = r0) (h1 : decide ((0 : Int) ∈ ms) = r1) (h2 : decide ((1 : Int) ∈ ms) = r2) :
    Calls Try.prog 39 #[u, z] w fun e w' => e = .returned (.bool (r0 && (r1 && r2))) ∧ Below w.heap.size w w' := by
  have H0 := hide h0
  have H1 := hide h1
  have H2 := hide h2
  clear h0 h1 h2
  go_enter Try.func39, Try.ntmps39
  go_wp2_with fail
  refine (ValidCases_c _ _ xs ms r0 _ hx hz H0.out).mono ?_
  rintro e w1 ⟨rfl, hb1⟩
  cases r0
  · go_wp2_with fail
    go_ret
    exact ⟨rfl, hb1⟩
  · go_wp2_with fail
    refine (contains_c _ ms 0 r1 _ (hz.below hb1) H1.out).mono ?_
    rintro e w2 ⟨rfl, rfl⟩
    cases r1
    · go_wp2_with fail
      go_ret
      exact ⟨rfl, hb1⟩
    · go_wp2_with fail
      refine (contains_c _ ms 1 r2 _ (hz.below hb1) H2.out).mono ?_
      rintro e w3 ⟨rfl, rfl⟩
      go_wp2_with fail
      go_ret
      exact ⟨rfl, hb1⟩

set_option maxRecDepth 20000 in
set_option maxHeartbeats 4000000 in
theorem AreaI_c (u z : Value) (xs ms : List Int) (w : World) (hx : Rd w u xs) (hz : Rd w z ms) :
    Calls Try.prog 19 #[u, z] w fun e w' => e = .returned (.tuple #[.agg #[.int .i64 (areaX xs ms).1, .int .i64 (areaX xs ms).2.1], .bool (areaX xs ms).2.2]) ∧ Below w.heap.size w w' := by
  have hcx := hx
  have hcz := hz
  obtain ⟨A, c, rfl, hc, hm, hd1⟩ := hx
  obtain ⟨A3, c3, rfl, hc3, hm3, hd3⟩ := hz
  clear hd1 hd3
  obtain ⟨r0, h0⟩ : ∃ r, okCases xs ms = r := ⟨_, rfl⟩
  obtain ⟨r1, h1⟩ : ∃ r, decide ((0 : Int) ∈ ms) = r := ⟨_, rfl⟩
  obtain ⟨r2, h2⟩ : ∃ r, decide ((1 : Int) ∈ ms) = r := ⟨_, rfl⟩
  have BM := hide fun u z w hx hz => bothMarks_c u z xs ms r0 r1 r2 w hx hz h0 h1 h2
  by_cases hr : (r0 && (r1 && r2)) = false
  · have HX : areaX xs ms = (0, 0, false) := by
      cases r0
      · exact areaX_no h0
      · rw [areaX_ok h0]
        obtain ⟨_, hl, _, _⟩ := okCases_all h0
        apply areaY_no
        rw [partTo_pos xs ms 1 _ (by omega), partTo_pos xs ms 0 _ (by omega), hl, List.take_length]
        intro ⟨q1, q2⟩
        rw [decide_eq_true q2] at h1
        rw [decide_eq_true q1] at h2
        subst h1
        subst h2
        cases hr
    rw [HX]
    rw [hr] at BM
    clear h0 h1 h2 HX hr
    go_enter Try.func19, Try.ntmps19
    go_wp2_with fail
    refine (BM.out _ _ _ (hcx.alloc _) (hcz.alloc _)).mono ?_
    rintro e w1 ⟨rfl, hb1⟩
    obtain ⟨hc1, hf1⟩ := bcell hb1
    have hz1 := hb1.size
    go_wp2_with fail
    refine bodyPost_ret (v := .tuple #[.agg #[.int .i64 0, .int .i64 0], .bool false]) (by simp [results, Try.results19, go_sem, hc1]) rfl ⟨rfl, ?_⟩
    (repeat (first | exact Below.refl _ _ | assumption | refine Below.setCell ?_ (by first | (simp; done) | omega | (simp; omega) | (simp at *; omega)) _ | refine Below.drew ?_ | refine below_drewN ?_ _ | refine below_alloc' ?_ _ | refine below_to' ?_ (by assumption)))
  · have hr' : (r0 && (r1 && r2)) = true := by simpa using hr
    rw [hr'] at BM
    simp only [Bool.and_eq_true] at hr'
    obtain ⟨e0, e1, e2⟩ := hr'
    subst e0
    subst e1
    subst e2
    obtain ⟨hd, hl, hp, hma⟩ := okCases_all h0
    have hA : 0 < (partTo xs ms 1 xs.length).length := by
      rw [partTo_pos xs ms 1 _ (by omega), hl, List.take_length]; exact of_decide_eq_true h2
    have hB : 0 < (partTo xs ms 0 xs.length).length := by
      rw [partTo_pos xs ms 0 _ (by omega), hl, List.take_length]; exact of_decide_eq_true h1
    rw [areaX_ok h0, areaY_yes hA hB]
    obtain ⟨hall, hlen⟩ := okData_all hd
    have hxb := at_all hall (by omega)
    have hat1 := hcx.at hp
    have hat3 := hcz.at (by omega)
    have LB := partTo_len xs ms 0 xs.length
    have HB : Hid (partTo xs ms 0 xs.length = _) := rfl
    obtain ⟨bs, hbs⟩ : ∃ q, partTo xs ms 0 xs.length = q := ⟨_, rfl⟩
    have HBS := hide hbs
    rw [hbs] at hB LB ⊢
    have HA := hide hA
    rw [← hl] at hat3 hc3 hcz ⊢
    obtain ⟨g1, o1, rfl, hg1, hcl1⟩ := hat1
    obtain ⟨g3, o3, rfl, hg3, hcl3⟩ := hat3
    clear h0 h1 h2 hr hl hd hma hall hbs hA HB
    go_enter Try.func19, Try.ntmps19
    go_wp2_with fail
    refine (BM.out _ _ _ (hcx.alloc _) (hcz.alloc _)).mono ?_
    rintro e w1 ⟨rfl, hb1⟩
    obtain ⟨hc1, hf1⟩ := bcell hb1
    have hz1 := hb1.size
    have hbA : Below w.heap.size w w1 := by (repeat (first | exact Below.refl _ _ | assumption | refine Below.setCell ?_ (by first | (simp; done) | omega | (simp; omega) | (simp at *; omega)) _ | refine Below.drew ?_ | refine below_drewN ?_ _ | refine below_alloc' ?_ _ | refine below_to' ?_ (by assumption)))
    have hzA := hbA.size
    have hga : g1 < w1.heap.size := by omega
    have hgb : g3 < w1.heap.size := by omega
    clear hcx hcz BM
    go_wp2_with fail
    go_loopw [6, 7, 19] (fun u a i wr => ∃ k : Nat, k ≤ xs.length ∧ i = .int .i64 k ∧ u = .int .i64 (winsL (partTo xs ms 1 k) bs) ∧ a = .int .i64 (2 * ((partTo xs ms 1 k).length : Int) * (bs.length : Int)) ∧ Below w1.heap.size w1 wr) (fun _ _ i _ => xs.length - (intOf i).toNat)
    case atStart => exact ⟨0, Nat.zero_le _, rfl, rfl, by simp [partTo], Below.refl _ _⟩
    case round =>
      obtain ⟨k, hk, rfl, rfl, rfl, hbel⟩ := hrel
      by_cases hlt : k < xs.length
      · have hk1 := hbel.cell (p := ⟨g1, o1 + k, none⟩) hga
        have hxk := hxb k
        have hU := winsL_bd' (xs := partTo xs ms 1 k) (ys := bs) (by omega)
        have hLA := partTo_len xs ms 1 k
        have hM := area_mul (a := (partTo xs ms 1 k).length) (b := bs.length) (by omega) (by omega)
        obtain ⟨U, hUe⟩ : ∃ q, winsL (partTo xs ms 1 k) bs = q := ⟨_, rfl⟩
        obtain ⟨T, hTe⟩ : ∃ q, 2 * ((partTo xs ms 1 k).length : Int) * (bs.length : Int) = q := ⟨_, rfl⟩
        obtain ⟨X, hX⟩ : ∃ q, atL xs k = q := ⟨_, rfl⟩
        obtain ⟨M, hM'⟩ : ∃ q, atL ms k = q := ⟨_, rfl⟩
        have hcx : w1.cell? ⟨g1, o1 + k, none⟩ = some (.int .i64 X) := by rw [← hX]; exact (hbA.cell (p := ⟨g1, o1 + k, none⟩) hg1).trans (hcl1 k hlt)
        have hcm : w1.cell? ⟨g3, o3 + k, none⟩ = some (.int .i64 M) := by rw [← hM']; exact (hbA.cell (p := ⟨g3, o3 + k, none⟩) hg3).trans (hcl3 k hlt)
        have HCX := hide hcx
        have HCM := hide hcm
        have hkx : wr.cell? ⟨g1, o1 + k, none⟩ = some (.int .i64 X) := hk1.trans hcx
        rw [hUe] at hU ⊢
        rw [hTe] at hM ⊢
        rw [hX] at hxk
        have hkd : decide ((k : Int) < (xs.length : Int)) = true := decide_eq_true (by omega)
        by_cases hm1 : M = 1
        · have HN1 : Hid (winsL (partTo xs ms 1 (k + 1)) bs = U + rankIn X bs) := by show _ = _; rw [partTo_yes (by rw [hM', hm1]), winsL_snoc, hUe, hX]
          have HN2 : Hid (2 * ((partTo xs ms 1 (k + 1)).length : Int) * (bs.length : Int) = T + 2 * (bs.length : Int)) := by
            show _ = _
            rw [partTo_yes (by rw [hM', hm1]), ← hTe, ← area_next]
            simp
          clear hUe hTe hX hM' hcx hcm hk1
          subst hm1
          go_wp2_with fail
          try simp only [hkd]
          go_loopw [6, 7, 26] (fun u a i wr => ∃ j : Nat, j ≤ xs.length ∧ i = .int .i64 j ∧ u = .int .i64 (U + rankIn X (partTo xs ms 0 j)) ∧ a = .int .i64 (T + 2 * ((partTo xs ms 0 j).length : Int)) ∧ Below w1.heap.size w1 wr) (fun _ _ i _ => xs.length - (intOf i).toNat)
          case atStart => exact ⟨0, Nat.zero_le _, rfl, by simp [partTo, rankIn, sumL_nil], by simp [partTo], hbel⟩
          case round =>
            obtain ⟨j, hj, rfl, rfl, rfl, hbel⟩ := hrel
            by_cases hjl : j < xs.length
            · have hR := rankIn_bd' X (partTo xs ms 0 j)
              have hLB := partTo_len xs ms 0 j
              have hyb := hxb j
              have hcy : wr.cell? ⟨g1, o1 + j, none⟩ = some (.int .i64 (atL xs j)) := (hbel.cell (p := ⟨g1, o1 + j, none⟩) hga).trans ((hbA.cell (p := ⟨g1, o1 + j, none⟩) hg1).trans (hcl1 j hjl))
              have hcn : wr.cell? ⟨g3, o3 + j, none⟩ = some (.int .i64 (atL ms j)) := (hbel.cell (p := ⟨g3, o3 + j, none⟩) hgb).trans ((hbA.cell (p := ⟨g3, o3 + j, none⟩) hg3).trans (hcl3 j hjl))
              have hcm : wr.cell? ⟨g3, o3 + k, none⟩ = some (.int .i64 1) := (hbel.cell (p := ⟨g3, o3 + k, none⟩) hgb).trans HCM.out
              have hi1 : (k : Int) < (xs.length : Int) := by omega
              have hi2 : (j : Int) < (xs.length : Int) := by omega
              by_cases hm0 : atL ms j = 0
              · have HP := hide (partTo_yes (xs := xs) hm0)
                have HQ := hide (rankIn_snoc X (partTo xs ms 0 j) (atL xs j))
                have HO := hide (oneRank_sgn X (atL xs j))
                rw [hm0] at hcn
                obtain ⟨ps, hps⟩ : ∃ q, partTo xs ms 0 j = q := ⟨_, rfl⟩
                obtain ⟨Y, hY⟩ : ∃ q, atL xs j = q := ⟨_, rfl⟩
                rw [hps] at hR hLB HP HQ ⊢
                rw [hY] at hyb hcy HP HQ HO
                obtain ⟨Z, hZ⟩ : ∃ q, rankIn X ps = q := ⟨_, rfl⟩
                rw [hZ] at hR HQ ⊢
                have hsg := sgn_bd (X - Y)
                clear hps hY hm0 hZ hcl1 hcl3
                go_wp2_with fail
                refine (signI_c _ _ (by omega)).mono ?_
                rintro e w2 ⟨rfl, rfl⟩
                go_wp2_with fail
                go_roundw
                case rel => exact ⟨j + 1, by omega, by go_num, by rw [HP.out, HQ.out, HO.out]; congr 1; omega, by rw [HP.out]; simp; omega, hbel⟩
                case measure => simp [intOf]; omega
              · have HP := hide (partTo_no (xs := xs) hm0)
                have hmb : (atL ms j == 0) = false := beq_eq_false_iff_ne.2 hm0
                obtain ⟨ps, hps⟩ : ∃ q, partTo xs ms 0 j = q := ⟨_, rfl⟩
                rw [hps] at hR hLB HP ⊢
                obtain ⟨Z, hZ⟩ : ∃ q, rankIn X ps = q := ⟨_, rfl⟩
                rw [hZ] at hR ⊢
                have HZ := hide hZ
                clear hps hm0 hZ hcl1 hcl3
                go_wp2_with fail
                go_roundw
                case rel => exact ⟨j + 1, by omega, by go_num, by rw [HP.out, HZ.out], by rw [HP.out], hbel⟩
                case measure => simp [intOf]; omega
            · obtain rfl : j = xs.length := by omega
              rw [HBS.out]
              rw [← HN1.out, ← HN2.out]
              clear hcl1 hcl3 hkd
              go_wp2_with fail
              go_roundw
              case rel => exact ⟨k + 1, by omega, by go_num, rfl, rfl, hbel⟩
              case measure => simp [intOf]; omega
        · have hmb1 : (M == 1) = false := beq_eq_false_iff_ne.2 hm1
          have HN1 : Hid (winsL (partTo xs ms 1 (k + 1)) bs = U) := by show _ = _; rw [partTo_no (by rw [hM']; exact hm1), hUe]
          have HN2 : Hid (2 * ((partTo xs ms 1 (k + 1)).length : Int) * (bs.length : Int) = T) := by show _ = _; rw [partTo_no (by rw [hM']; exact hm1), hTe]
          clear hUe hTe hX hM' hcx hcm hk1
          go_wp2_with fail
          try simp only [hkd]
          go_loopw [6, 7, 26] (fun u a i wr => ∃ j : Nat, j ≤ xs.length ∧ i = .int .i64 j ∧ u = .int .i64 U ∧ a = .int .i64 T ∧ Below w1.heap.size w1 wr) (fun _ _ i _ => xs.length - (intOf i).toNat)
          case atStart => exact ⟨0, Nat.zero_le _, rfl, rfl, rfl, hbel⟩
          case round =>
            obtain ⟨j, hj, rfl, rfl, rfl, hbel⟩ := hrel
            by_cases hjl : j < xs.length
            · have hcy : wr.cell? ⟨g1, o1 + j, none⟩ = some (.int .i64 (atL xs j)) := (hbel.cell (p := ⟨g1, o1 + j, none⟩) hga).trans ((hbA.cell (p := ⟨g1, o1 + j, none⟩) hg1).trans (hcl1 j hjl))
              have hcm : wr.cell? ⟨g3, o3 + k, none⟩ = some (.int .i64 M) := (hbel.cell (p := ⟨g3, o3 + k, none⟩) hgb).trans HCM.out
              have hi1 : (k : Int) < (xs.length : Int) := by omega
              have hi2 : (j : Int) < (xs.length : Int) := by omega
              clear hcl1 hcl3 hm1
              go_wp2_with fail
              go_roundw
              case rel => exact ⟨j + 1, by omega, by go_num, rfl, rfl, hbel⟩
              case measure => simp [intOf]; omega
            · obtain rfl : j = xs.length := by omega
              clear hcl1 hcl3 hkd hm1
              go_wp2_with fail
              go_roundw
              case rel => exact ⟨k + 1, by omega, by go_num, by rw [HN1.out], by rw [HN2.out], hbel⟩
              case measure => simp [intOf]; omega
      · obtain rfl : k = xs.length := by omega
        have hU := winsL_bd' (xs := partTo xs ms 1 xs.length) (ys := bs) (by omega)
        have hLA := partTo_len xs ms 1 xs.length
        obtain ⟨hM1, hM2, hM3⟩ := area_mul (a := (partTo xs ms 1 xs.length).length) (b := bs.length) (by omega) (by omega)
        have hD0 := hM3 HA.out hB
        obtain ⟨U, hUe⟩ : ∃ q, winsL (partTo xs ms 1 xs.length) bs = q := ⟨_, rfl⟩
        obtain ⟨D, hD⟩ : ∃ q, 2 * ((partTo xs ms 1 xs.length).length : Int) * (bs.length : Int) = q := ⟨_, rfl⟩
        rw [hUe] at hU ⊢
        rw [hD] at hM1 hM2 hD0 ⊢
        have HUE := hide hUe
        have HDE := hide hD
        clear hUe hD hM3 hcl1 hcl3
        obtain ⟨hc2, hf2⟩ := bcell hbel
        have hz2 := hbel.size
        have y1 : w.heap.size < w1.heap.size := by simp at hz1; omega
        go_wp2_with fail
        refine (frac_c U D _ (by omega) (by omega) hD0).mono ?_
        rintro e w5 ⟨rfl, hb5⟩
        obtain ⟨hc5, hf5⟩ := bcell hb5
        have hz5 := hb5.size
        have y2 : w.heap.size < wr.heap.size := by omega
        go_wp2_with fail
        refine bodyPost_ret (v := .tuple #[.agg #[.int .i64 (qf U D).num, .int .i64 ((qf U D).den : Int)], .bool true]) (by simp [results, Try.results19, go_sem, hc5, hc2, hc1, y1, y2]) rfl ⟨by rw [HUE.out, HDE.out], ?_⟩
        repeat (refine Below.setCell ?_ (by simp) _)
        exact (hbA.trans (hbel.mono hzA)).trans (hb5.mono (by omega))
end Go.Proofs.Ytcmjmnlccempfaa
