/-
  The statement FnMeanOf.
-/
import Derived.Test.YtahogdcmnpidiaaMeanD
import Derived.Deep.RegionHeld3
namespace Go.Proofs.Ytahogdcmnpidiaa
open Go.RowKit

theorem seg_mem {xs : List Int} {i k j : Nat} (h : i + j < k) (hk : k ≤ xs.length) : atL xs (i + j) ∈ seg xs i k := by
  have hl := seg_len (xs := xs) (i := i) (k := k) hk
  have hj : j < (seg xs i k).length := by omega
  have e : atL xs (i + j) = (seg xs i k)[j] := by
    simp [atL, seg, List.getD, List.getElem_take, List.getElem_drop, show i + j < xs.length by omega]
  rw [e]
  exact List.getElem_mem hj

set_option maxRecDepth 20000 in
set_option maxHeartbeats 8000000 in
theorem FnMeanOf_c (A : Option Addr) (n c : Nat) (bs : List Int) (w : World) (hl : bs.length = n) (hnc : n ≤ c) (hc : c ≤ 9223372036854775807) (hr : Rd8 w w.heap.size A bs) :
    Calls Try.prog 9 #[.slice A n c] w fun e w' => e = .returned (.bool true) ∧ Below w.heap.size w w' := by
  by_cases hbig : 1048576 < n
  · go_enter Try.func9, Try.ntmps9
    go_wp2_with fail
    go_ret
    exact ⟨rfl, Below.refl _ _⟩
  have K := hide fun w hr => DrawMean_c A n c bs w hl hnc hc hr
  clear hl
  go_enter Try.func9, Try.ntmps9
  go_wp2_with fail
  refine (K.out _ hr).mono ?_
  rintro e w1 ⟨v, xs, u, ws, i, k, rfl, hx, hxl, hy, hyl, hi, hk, hb1⟩
  obtain ⟨Ax, cx, rfl, hcx, hmx, _⟩ := id hx
  obtain ⟨Ay, cy, rfl, hcy, hmy, _⟩ := id hy
  have PI := hide fun w hx hy => MeanOfI_c (.slice Ax xs.length cx) (.slice Ay ws.length cy) xs ws i k w hx hy (by omega) (by omega)
  have PS := hide fun w hx hy => MeanOfS_c (.slice Ax xs.length cx) (.slice Ay ws.length cy) xs ws i k w hx hy (by omega) (by omega)
  clear K hr
  cases hok : okM xs ws i k
  · obtain ⟨za, zb, hT⟩ : ∃ a b : Int, meanT xs ws i k = .tuple #[.agg #[.int .i64 a, .int .i64 b], .bool false] := ⟨0, 0, by simp [meanT, hok]⟩
    rw [hT] at PI PS
    clear hT hok
    go_wp2_with fail
    refine (PI.out _ hx hy).mono ?_
    rintro e w2 ⟨rfl, hb2⟩
    obtain ⟨V, hV, hbV, hVs, ⟨⟨v1, v2⟩, v3, v4⟩⟩ := new1 w2 31 za zb
    have hb2V := hb2.trans (hbV.mono hb2.size)
    go_wp2_with fail
    clear hV
    refine (PS.out _ (hx.below hb2V) (hy.below hb2V)).mono ?_
    rintro e w3 ⟨rfl, hb3⟩
    obtain ⟨U, hU, hbU, hUs, ⟨⟨u1, u2⟩, u3, u4⟩⟩ := new1 w3 31 za zb
    have hbVU := hb3.trans (hbU.mono hb3.size)
    have v1 := (hbVU.cell (p := ⟨w2.heap.size, 0, none⟩) hVs).trans v1
    have v2 := (hbVU.cell (p := ⟨w2.heap.size, 1, none⟩) hVs).trans v2
    go_wp2_with fail
    clear hU
    go_ret
    exact ⟨rfl, hb1.trans ((hb2V.trans (hbVU.mono hb2V.size)).mono hb1.size)⟩
  · have hT : meanT xs ws i k = .tuple #[.agg #[.int .i64 (meanM xs ws i k).num, .int .i64 ((meanM xs ws i k).den : Int)], .bool true] := by simp [meanT, hok]
    rw [hT] at PI PS
    simp only [okM, Bool.and_eq_true] at hok
    obtain ⟨hokl, ha, hb⟩ := hok
    have ha' : 0 ≤ i ∧ i ≤ (xs.length : Int) - 1 := by simpa [okA] using ha
    have hb' : i ≤ k ∧ k ≤ (xs.length : Int) - 1 := by simpa [okB] using hb
    obtain ⟨l1, l8, hln, hxs, hws⟩ := okLoads_all hokl
    obtain ⟨I, rfl⟩ := Int.eq_ofNat_of_zero_le ha'.1
    obtain ⟨J, rfl⟩ := Int.eq_ofNat_of_zero_le (show 0 ≤ k by omega)
    have hIJ : I ≤ J := by omega
    have hJl : J < xs.length := by omega
    obtain ⟨q, hq⟩ : ∃ q, meanM xs ws I J = q := ⟨_, rfl⟩
    have hqe : meanR xs ws I (J + 1 - I) = q := by rw [← hq, meanM, Int.toNat_natCast]; congr 1; omega
    rw [hq] at PI PS
    have hsq : Sm q := by rw [← hqe]; exact mean_sm hxs hws (by omega) (by omega) (by omega) (by omega)
    have hdn := dnTo_bd hws (i := I) (n := J + 1 - I) (by omega)
    have hsl := seg_len (xs := xs) (i := I) (k := J + 1) (by omega)
    have hsb := seg_allB hxs I (J + 1)
    have hne : seg xs I (J + 1) ≠ [] := by intro e; rw [e] at hsl; have : ([] : List Int).length = 0 := rfl; omega
    have hne2 : negL (seg xs I (J + 1)) ≠ [] := by intro e; have h1 := congrArg List.length e; rw [negL_len, hsl] at h1; have : ([] : List Int).length = 0 := rfl; omega
    have hm1 := (allB_iff.1 hsb) _ (maxL_mem hne)
    have hn1 : -30 ≤ maxL (negL (seg xs I (J + 1))) ∧ maxL (negL (seg xs I (J + 1))) ≤ 30 := by
      have := maxL_mem hne2
      obtain ⟨x, hx1, hx2⟩ := List.mem_map.1 this
      have := (allB_iff.1 hsb) x hx1
      omega
    have LT1 : ¬ ((maxL (seg xs I (J + 1)) : Rat) < q) := by
      rw [← hqe]
      refine qf_le_int (by omega) (upTo_le fun j hj => ⟨le_maxL (seg_mem (by omega) (by omega)), ?_⟩)
      have := allB_at hws (j := I + j) (by omega)
      omega
    have LT2 : ¬ (q < ((-maxL (negL (seg xs I (J + 1))) : Int) : Rat)) := by
      rw [← hqe]
      refine int_le_qf (by omega) (le_upTo fun j hj => ⟨?_, ?_⟩)
      · have := le_maxL (xs := negL (seg xs I (J + 1))) (List.mem_map_of_mem (f := fun x : Int => -x) (seg_mem (xs := xs) (i := I) (k := J + 1) (j := j) (by omega) (by omega)))
        omega
      · have := allB_at hws (j := I + j) (by omega)
        omega
    have HONE : Hid (I = J → q = (atL xs I : Rat)) := fun e => by
      subst e
      rw [← hqe, show I + 1 - I = 1 by omega, mean_one (by have := allB_at hws (j := I) (by omega); omega)]
    have hxb := allB_at hxs (j := I) (by omega)
    have KN := hide fun v w h => negated_c v (seg xs I (J + 1)) w h (by omega) (allB_iff.2 fun y hy => by have := (allB_iff.1 hsb) y hy; omega)
    have hsl2 : (seg xs I (J + 1)).length ≤ 8 := by omega
    have hsl3 : 0 < (seg xs I (J + 1)).length := by omega
    have hnl3 : 0 < (negL (seg xs I (J + 1))).length := by rw [negL_len]; omega
    obtain ⟨g1, hg1⟩ : ∃ g, maxL (seg xs I (J + 1)) = g := ⟨_, rfl⟩
    obtain ⟨g2, hg2⟩ : ∃ g, maxL (negL (seg xs I (J + 1))) = g := ⟨_, rfl⟩
    have KG1 := hide fun v w h => greatest_c v (seg xs I (J + 1)) w h hsl3
    have KG2 := hide fun v w h => greatest_c v (negL (seg xs I (J + 1))) w h hnl3
    rw [hg1] at KG1 LT1 hm1
    rw [hg2] at KG2 LT2 hn1
    obtain ⟨f1, hf1⟩ : ∃ f : Rat, (g1 : Rat) = f := ⟨_, rfl⟩
    obtain ⟨f2, hf2⟩ : ∃ f : Rat, ((-g2 : Int) : Rat) = f := ⟨_, rfl⟩
    obtain ⟨f3, hf3⟩ : ∃ f : Rat, (atL xs I : Rat) = f := ⟨_, rfl⟩
    have KF1 : Hid (∀ w, Calls Try.prog 41 #[.int .i64 g1, .int .i64 1] w fun e w' => e = .returned (.agg #[.int .i64 (f1).num, .int .i64 ((f1).den : Int)]) ∧ Below w.heap.size w w') := fun w => by rw [← hf1, ← qf_one]; exact fracL_c g1 1 w (by omega) (by omega) (by omega)
    have KF2 : Hid (∀ w, Calls Try.prog 41 #[.int .i64 (-g2), .int .i64 1] w fun e w' => e = .returned (.agg #[.int .i64 (f2).num, .int .i64 ((f2).den : Int)]) ∧ Below w.heap.size w w') := fun w => by rw [← hf2, ← qf_one]; exact fracL_c (-g2) 1 w (by omega) (by omega) (by omega)
    have KF3 : Hid (∀ w, Calls Try.prog 41 #[.int .i64 (atL xs I), .int .i64 1] w fun e w' => e = .returned (.agg #[.int .i64 (f3).num, .int .i64 ((f3).den : Int)]) ∧ Below w.heap.size w w') := fun w => by rw [← hf3, ← qf_one]; exact fracL_c (atL xs I) 1 w (by omega) (by omega) (by omega)
    have sf1 : Sm f1 := by rw [← hf1]; exact sm_int (by omega)
    have sf2 : Sm f2 := by rw [← hf2]; exact sm_int (by omega)
    rw [hf1] at LT1
    rw [hf2] at LT2
    rw [hf3] at HONE
    have KL1 : Hid (∀ w, Calls Try.prog 40 #[.agg #[.int .i64 (f1).num, .int .i64 ((f1).den : Int)], .agg #[.int .i64 (q).num, .int .i64 ((q).den : Int)]] w fun e w' => e = .returned (.bool false) ∧ Below w.heap.size w w') := fun w => by have := lessL_c f1 q w sf1 hsq; rwa [decide_eq_false LT1] at this
    have KL2 : Hid (∀ w, Calls Try.prog 40 #[.agg #[.int .i64 (q).num, .int .i64 ((q).den : Int)], .agg #[.int .i64 (f2).num, .int .i64 ((f2).den : Int)]] w fun e w' => e = .returned (.bool false) ∧ Below w.heap.size w w') := fun w => by have := lessL_c q f2 w hsq sf2; rwa [decide_eq_false LT2] at this
    have e1 : IntKind.i64.wrap ((J : Int) + 1) = (J : Int) + 1 := IntWalk.i64_in _ (by omega)
    have ne1 : IntKind.i64.wrap (-g2) = -g2 := IntWalk.i64_in _ (by omega)
    obtain ⟨gx, ox, rfl, hgx, hclx⟩ := hx.at (by omega)
    have cI := hclx I (by omega)
    have hseg := hx.seg (i := I) (k := J + 1) (by omega) (by omega)
    have i1 : (I : Int) < (xs.length : Int) := by omega
    have i2 : (J : Int) + 1 ≤ (xs.length : Int) := by omega
    have i3 : (I : Int) ≤ (J : Int) + 1 := by omega
    obtain ⟨x, hx0⟩ : ∃ x, atL xs I = x := ⟨_, rfl⟩
    rw [hx0] at cI KF3
    clear hq hqe hsq hdn hsl hsb hne hne2 hm1 hn1 hxb hf1 hf2 hf3 sf1 sf2 LT1 LT2 hg1 hg2 hln hxs hws hT hokl ha hb ha' hb' hclx hx0
    go_wp2_with fail
    refine (PI.out _ hx hy).mono ?_
    rintro e w2 ⟨rfl, hb2⟩
    obtain ⟨V, hV, hbV, hVs, ⟨⟨v1, v2⟩, v3, v4⟩⟩ := new1 w2 31 q.num (q.den : Int)
    have hb2V := hb2.trans (hbV.mono hb2.size)
    go_wp2_with fail
    clear hV
    refine (PS.out _ (hx.below hb2V) (hy.below hb2V)).mono ?_
    rintro e w3 ⟨rfl, hb3⟩
    obtain ⟨U, hU, hbU, hUs, ⟨⟨u1, u2⟩, u3, u4⟩⟩ := new1 w3 31 q.num (q.den : Int)
    have hbVU := hb3.trans (hbU.mono hb3.size)
    have hb1U := hb2V.trans (hbVU.mono hb2V.size)
    have v1 := (hbVU.cell (p := ⟨w2.heap.size, 0, none⟩) hVs).trans v1
    have v2 := (hbVU.cell (p := ⟨w2.heap.size, 1, none⟩) hVs).trans v2
    have cI := (hb1U.cell (p := ⟨gx, ox + I, none⟩) hgx).trans cI
    have hsegU := hide (hseg.below hb1U)
    clear hseg u3 u4 v3 v4
    go_wp2_with fail
    clear hU u1 u2 e1
    have hadd : (⟨gx, ox, none⟩ : Addr).add I = ⟨gx, ox + I, none⟩ := by
      unfold Addr.add; split
      · next h0 => subst h0; rfl
      · rfl
    have hsg : Hid (Rd U (.slice (some ⟨gx, ox + I, none⟩) (J + 1 - I) (cx - I)) (seg xs I (J + 1))) := by
      have := hsegU.out
      simp only [Option.map_some, hadd] at this
      exact this
    have hgU : gx < U.heap.size := by have := hb1U.size; omega
    have hvU : w2.heap.size < U.heap.size := by have := hbVU.size; omega
    have HK : Hid (∀ wz, Below U.heap.size U wz → wz.cell? ⟨w2.heap.size, 0, none⟩ = some (.int .i64 q.num) ∧ wz.cell? ⟨w2.heap.size, 1, none⟩ = some (.int .i64 (q.den : Int)) ∧ wz.cell? ⟨gx, ox + I, none⟩ = some (.int .i64 x)) := fun wz hz =>
      ⟨(hz.cell (p := ⟨w2.heap.size, 0, none⟩) hvU).trans v1, (hz.cell (p := ⟨w2.heap.size, 1, none⟩) hvU).trans v2, (hz.cell (p := ⟨gx, ox + I, none⟩) hgU).trans cI⟩
    have hU0 : Below U.heap.size U U.drew := Below.drew (Below.refl _ _)
    have hbw : Hid (Below w.heap.size w U) := hb1.trans (hb1U.mono hb1.size)
    clear v1 v2 cI hsegU hadd
    by_cases hIJ2 : I < J
    · have hd : decide ((I : Int) < (J : Int)) = true := decide_eq_true (by omega)
      have hlt : (I : Int) < (J : Int) := by omega
      clear HONE KF3
      refine wp_region_held_drew (S := (fun wz : World => wz.cell? ⟨w2.heap.size, 0, none⟩ = some (.int .i64 q.num) ∧ wz.cell? ⟨w2.heap.size, 1, none⟩ = some (.int .i64 (q.den : Int)) ∧ wz.cell? ⟨gx, ox + I, none⟩ = some (.int .i64 x))) (by kernel_rfl) (HK.out _ hU0) (fun hHeld => ?_)
      refine wpAnyH_take (i := 0) (oi := ?oi_0) (v := ?v_0) ?hi_0 ?hs_0 ?hf_0 ?hr_0 ?hQ_0 ?hy_0 (by assumption) ?h_0
      case hi_0 => simp only [List.getElem?_toArray, List.getElem?_cons_succ, List.getElem?_cons_zero]; rfl
      case hs_0 => kernel_rfl
      case hf_0 => kernel_rfl
      case hr_0 => kernel_rfl
      case hQ_0 => exact fun _ _ _ h => h
      case hy_0 =>
        refine Or.inl ⟨by rfl, fun w hSw => ?_⟩
        (try dsimp only at hSw)
        go_simp
        (try with_reducible rfl)
      try simp only [Act.put, List.setIfInBounds_toArray, List.set_cons_zero, List.set_cons_succ]
      refine wpAnyH_take (i := 3) (oi := ?oi_3) (v := ?v_3) ?hi_3 ?hs_3 ?hf_3 ?hr_3 ?hQ_3 ?hy_3 (by assumption) ?h_3
      case hi_3 => simp only [List.getElem?_toArray, List.getElem?_cons_succ, List.getElem?_cons_zero]; rfl
      case hs_3 => kernel_rfl
      case hf_3 => kernel_rfl
      case hr_3 => kernel_rfl
      case hQ_3 => exact fun _ _ _ h => h
      case hy_3 =>
        refine Or.inl ⟨by rfl, fun w hSw => ?_⟩
        (try dsimp only at hSw)
        go_simp
        (try with_reducible rfl)
      try simp only [Act.put, List.setIfInBounds_toArray, List.set_cons_zero, List.set_cons_succ]
      refine wpAnyH_ready (rs := [1]) (by kernel_rfl) (by simp) ?_
      refine AllReadyH.cons (o := ?o_1) ?ho_1 ?hk_1 AllReadyH.nil
      case ho_1 => simp only [List.getElem?_toArray, List.getElem?_cons_succ, List.getElem?_cons_zero]; rfl
      intro K hK
      go_simp
      refine (KG1.out _ _ (hsg.out.below hU0)).mono ?_
      rintro e wy ⟨rfl, rfl⟩
      go_wp2_with fail
      refine hK.out _ _ (HK.out _ hU0) (fun hHeld => ?_)
      clear hK K
      try simp only [Act.put, List.setIfInBounds_toArray, List.set_cons_zero, List.set_cons_succ]
      refine wpAnyH_ready (rs := [2]) (by kernel_rfl) (by simp) ?_
      refine AllReadyH.cons (o := ?o_2) ?ho_2 ?hk_2 AllReadyH.nil
      case ho_2 => simp only [List.getElem?_toArray, List.getElem?_cons_succ, List.getElem?_cons_zero]; rfl
      intro K hK
      go_simp
      refine (KF1.out _).mono ?_
      rintro e wA ⟨rfl, hbA⟩
      have hUA := hU0.trans (hbA.mono hU0.size)
      go_wp2_with fail
      refine hK.out _ _ (HK.out _ hUA) (fun hHeld => ?_)
      clear hK K
      try simp only [Act.put, List.setIfInBounds_toArray, List.set_cons_zero, List.set_cons_succ]
      refine wpAnyH_ready (rs := [4]) (by kernel_rfl) (by simp) ?_
      refine AllReadyH.cons (o := ?o_4) ?ho_4 ?hk_4 AllReadyH.nil
      case ho_4 => simp only [List.getElem?_toArray, List.getElem?_cons_succ, List.getElem?_cons_zero]; rfl
      intro K hK
      go_simp
      refine (KL1.out _).mono ?_
      rintro e wB ⟨rfl, hbB⟩
      have hUB := hUA.trans (hbB.mono hUA.size)
      go_wp2_with fail
      refine hK.out _ _ (HK.out _ hUB) (fun hHeld => ?_)
      clear hK K
      try simp only [Act.put, List.setIfInBounds_toArray, List.set_cons_zero, List.set_cons_succ]
      refine wpAnyH_take (i := 5) (oi := ?oi_5) (v := ?v_5) ?hi_5 ?hs_5 ?hf_5 ?hr_5 ?hQ_5 ?hy_5 (by assumption) ?h_5
      case hi_5 => simp only [List.getElem?_toArray, List.getElem?_cons_succ, List.getElem?_cons_zero]; rfl
      case hs_5 => kernel_rfl
      case hf_5 => kernel_rfl
      case hr_5 => kernel_rfl
      case hQ_5 => exact fun _ _ _ h => h
      case hy_5 =>
        refine Or.inl ⟨by rfl, fun w hSw => ?_⟩
        (try dsimp only at hSw)
        go_simp
        (try with_reducible rfl)
      try simp only [Act.put, List.setIfInBounds_toArray, List.set_cons_zero, List.set_cons_succ]
      refine wpAnyH_take (i := 6) (oi := ?oi_6) (v := ?v_6) ?hi_6 ?hs_6 ?hf_6 ?hr_6 ?hQ_6 ?hy_6 (by assumption) ?h_6
      case hi_6 => simp only [List.getElem?_toArray, List.getElem?_cons_succ, List.getElem?_cons_zero]; rfl
      case hs_6 => kernel_rfl
      case hf_6 => kernel_rfl
      case hr_6 => kernel_rfl
      case hQ_6 => exact fun _ _ _ h => h
      case hy_6 =>
        refine Or.inl ⟨by rfl, fun w hSw => ?_⟩
        (try dsimp only at hSw)
        go_simp
        (try with_reducible rfl)
      try simp only [Act.put, List.setIfInBounds_toArray, List.set_cons_zero, List.set_cons_succ]
      refine wpAnyH_take (i := 7) (oi := ?oi_7) (v := ?v_7) ?hi_7 ?hs_7 ?hf_7 ?hr_7 ?hQ_7 ?hy_7 (by assumption) ?h_7
      case hi_7 => simp only [List.getElem?_toArray, List.getElem?_cons_succ, List.getElem?_cons_zero]; rfl
      case hs_7 => kernel_rfl
      case hf_7 => kernel_rfl
      case hr_7 => kernel_rfl
      case hQ_7 => exact fun _ _ _ h => h
      case hy_7 =>
        refine Or.inl ⟨by rfl, fun w hSw => ?_⟩
        (try dsimp only at hSw)
        go_simp
        (try with_reducible rfl)
      try simp only [Act.put, List.setIfInBounds_toArray, List.set_cons_zero, List.set_cons_succ]
      refine wpAnyH_take (i := 8) (oi := ?oi_8) (v := ?v_8) ?hi_8 ?hs_8 ?hf_8 ?hr_8 ?hQ_8 ?hy_8 (by assumption) ?h_8
      case hi_8 => simp only [List.getElem?_toArray, List.getElem?_cons_succ, List.getElem?_cons_zero]; rfl
      case hs_8 => kernel_rfl
      case hf_8 => kernel_rfl
      case hr_8 => kernel_rfl
      case hQ_8 => exact fun _ _ _ h => h
      case hy_8 =>
        refine Or.inl ⟨by rfl, fun w hSw => ?_⟩
        (try dsimp only at hSw)
        go_simp
        (try with_reducible rfl)
      try simp only [Act.put, List.setIfInBounds_toArray, List.set_cons_zero, List.set_cons_succ]
      refine wpAnyH_ready (rs := [9]) (by kernel_rfl) (by simp) ?_
      refine AllReadyH.cons (o := ?o_9) ?ho_9 ?hk_9 AllReadyH.nil
      case ho_9 => simp only [List.getElem?_toArray, List.getElem?_cons_succ, List.getElem?_cons_zero]; rfl
      intro K hK
      go_simp
      refine (KN.out _ _ (hsg.out.below hUB)).mono ?_
      rintro e wC ⟨vN, rfl, hsN, hbC⟩
      have hUC := hUB.trans (hbC.mono hUB.size)
      have hrN := hsN.rd
      clear hsN
      go_wp2_with fail
      refine hK.out _ _ (HK.out _ hUC) (fun hHeld => ?_)
      clear hK K
      try simp only [Act.put, List.setIfInBounds_toArray, List.set_cons_zero, List.set_cons_succ]
      refine wpAnyH_ready (rs := [10]) (by kernel_rfl) (by simp) ?_
      refine AllReadyH.cons (o := ?o_10) ?ho_10 ?hk_10 AllReadyH.nil
      case ho_10 => simp only [List.getElem?_toArray, List.getElem?_cons_succ, List.getElem?_cons_zero]; rfl
      intro K hK
      go_simp
      refine (KG2.out _ _ hrN).mono ?_
      rintro e wy ⟨rfl, rfl⟩
      go_wp2_with fail
      refine hK.out _ _ (HK.out _ hUC) (fun hHeld => ?_)
      clear hK K
      try simp only [Act.put, List.setIfInBounds_toArray, List.set_cons_zero, List.set_cons_succ]
      refine wpAnyH_take (i := 11) (oi := ?oi_11) (v := ?v_11) ?hi_11 ?hs_11 ?hf_11 ?hr_11 ?hQ_11 ?hy_11 (by assumption) ?h_11
      case hi_11 => simp only [List.getElem?_toArray, List.getElem?_cons_succ, List.getElem?_cons_zero]; rfl
      case hs_11 => kernel_rfl
      case hf_11 => kernel_rfl
      case hr_11 => kernel_rfl
      case hQ_11 => exact fun _ _ _ h => h
      case hy_11 =>
        refine Or.inl ⟨by rfl, fun w hSw => ?_⟩
        (try dsimp only at hSw)
        go_simp
        (try with_reducible rfl)
      try simp only [Act.put, List.setIfInBounds_toArray, List.set_cons_zero, List.set_cons_succ]
      refine wpAnyH_ready (rs := [12]) (by kernel_rfl) (by simp) ?_
      refine AllReadyH.cons (o := ?o_12) ?ho_12 ?hk_12 AllReadyH.nil
      case ho_12 => simp only [List.getElem?_toArray, List.getElem?_cons_succ, List.getElem?_cons_zero]; rfl
      intro K hK
      go_simp
      refine (KF2.out _).mono ?_
      rintro e wD ⟨rfl, hbD⟩
      have hUD := hUC.trans (hbD.mono hUC.size)
      go_wp2_with fail
      refine hK.out _ _ (HK.out _ hUD) (fun hHeld => ?_)
      clear hK K
      try simp only [Act.put, List.setIfInBounds_toArray, List.set_cons_zero, List.set_cons_succ]
      refine wpAnyH_ready (rs := [13]) (by kernel_rfl) (by simp) ?_
      refine AllReadyH.cons (o := ?o_13) ?ho_13 ?hk_13 AllReadyH.nil
      case ho_13 => simp only [List.getElem?_toArray, List.getElem?_cons_succ, List.getElem?_cons_zero]; rfl
      intro K hK
      go_simp
      refine (KL2.out _).mono ?_
      rintro e wE ⟨rfl, hbE⟩
      have hUE := hUD.trans (hbE.mono hUD.size)
      go_wp2_with fail
      refine hK.out _ _ (HK.out _ hUE) (fun hHeld => ?_)
      clear hK K
      try simp only [Act.put, List.setIfInBounds_toArray, List.set_cons_zero, List.set_cons_succ]
      refine wpAnyH_take (i := 14) (oi := ?oi_14) (v := ?v_14) ?hi_14 ?hs_14 ?hf_14 ?hr_14 ?hQ_14 ?hy_14 (by assumption) ?h_14
      case hi_14 => simp only [List.getElem?_toArray, List.getElem?_cons_succ, List.getElem?_cons_zero]; rfl
      case hs_14 => kernel_rfl
      case hf_14 => kernel_rfl
      case hr_14 => kernel_rfl
      case hQ_14 => exact fun _ _ _ h => h
      case hy_14 =>
        refine Or.inl ⟨by rfl, fun w hSw => ?_⟩
        (try dsimp only at hSw)
        go_simp
        (try with_reducible rfl)
      try simp only [Act.put, List.setIfInBounds_toArray, List.set_cons_zero, List.set_cons_succ]
      refine wpAnyH_take (i := 15) (oi := ?oi_15) (v := ?v_15) ?hi_15 ?hs_15 ?hf_15 ?hr_15 ?hQ_15 ?hy_15 (by assumption) ?h_15
      case hi_15 => simp only [List.getElem?_toArray, List.getElem?_cons_succ, List.getElem?_cons_zero]; rfl
      case hs_15 => kernel_rfl
      case hf_15 => kernel_rfl
      case hr_15 => kernel_rfl
      case hQ_15 => exact fun _ _ _ h => h
      case hy_15 =>
        refine Or.inl ⟨by rfl, fun w hSw => ?_⟩
        (try dsimp only at hSw)
        go_simp
        (try with_reducible rfl)
      try simp only [Act.put, List.setIfInBounds_toArray, List.set_cons_zero, List.set_cons_succ]
      refine wpAnyH_take (i := 16) (oi := ?oi_16) (v := ?v_16) ?hi_16 ?hs_16 ?hf_16 ?hr_16 ?hQ_16 ?hy_16 (by assumption) ?h_16
      case hi_16 => simp only [List.getElem?_toArray, List.getElem?_cons_succ, List.getElem?_cons_zero]; rfl
      case hs_16 => kernel_rfl
      case hf_16 => kernel_rfl
      case hr_16 => kernel_rfl
      case hQ_16 => exact fun _ _ _ h => h
      case hy_16 =>
        refine Or.inl ⟨by rfl, fun w hSw => ?_⟩
        (try dsimp only at hSw)
        go_simp
        (try with_reducible rfl)
      try simp only [Act.put, List.setIfInBounds_toArray, List.set_cons_zero, List.set_cons_succ]
      refine wpAnyH_take (i := 17) (oi := ?oi_17) (v := ?v_17) ?hi_17 ?hs_17 ?hf_17 ?hr_17 ?hQ_17 ?hy_17 (by assumption) ?h_17
      case hi_17 => simp only [List.getElem?_toArray, List.getElem?_cons_succ, List.getElem?_cons_zero]; rfl
      case hs_17 => kernel_rfl
      case hf_17 => kernel_rfl
      case hr_17 => kernel_rfl
      case hQ_17 => exact fun _ _ _ h => h
      case hy_17 =>
        refine Or.inl ⟨by rfl, fun w hSw => ?_⟩
        (try dsimp only at hSw)
        go_simp
        (try with_reducible rfl)
      try simp only [Act.put, List.setIfInBounds_toArray, List.set_cons_zero, List.set_cons_succ]
      refine wpAnyH_take (i := 18) (oi := ?oi_18) (v := ?v_18) ?hi_18 ?hs_18 ?hf_18 ?hr_18 ?hQ_18 ?hy_18 (by assumption) ?h_18
      case hi_18 => simp only [List.getElem?_toArray, List.getElem?_cons_succ, List.getElem?_cons_zero]; rfl
      case hs_18 => kernel_rfl
      case hf_18 => kernel_rfl
      case hr_18 => kernel_rfl
      case hQ_18 => exact fun _ _ _ h => h
      case hy_18 =>
        refine Or.inl ⟨by rfl, fun w hSw => ?_⟩
        (try dsimp only at hSw)
        go_simp
        (try with_reducible rfl)
      try simp only [Act.put, List.setIfInBounds_toArray, List.set_cons_zero, List.set_cons_succ]
      refine wpAnyH_take (i := 19) (oi := ?oi_19) (v := ?v_19) ?hi_19 ?hs_19 ?hf_19 ?hr_19 ?hQ_19 ?hy_19 (by assumption) ?h_19
      case hi_19 => simp only [List.getElem?_toArray, List.getElem?_cons_succ, List.getElem?_cons_zero]; rfl
      case hs_19 => kernel_rfl
      case hf_19 => kernel_rfl
      case hr_19 => kernel_rfl
      case hQ_19 => exact fun _ _ _ h => h
      case hy_19 =>
        refine Or.inl ⟨by rfl, fun w hSw => ?_⟩
        (try dsimp only at hSw)
        go_simp
        (try with_reducible rfl)
      try simp only [Act.put, List.setIfInBounds_toArray, List.set_cons_zero, List.set_cons_succ]
      refine wpAnyH_take (i := 20) (oi := ?oi_20) (v := ?v_20) ?hi_20 ?hs_20 ?hf_20 ?hr_20 ?hQ_20 ?hy_20 (by assumption) ?h_20
      case hi_20 => simp only [List.getElem?_toArray, List.getElem?_cons_succ, List.getElem?_cons_zero]; rfl
      case hs_20 => kernel_rfl
      case hf_20 => kernel_rfl
      case hr_20 => kernel_rfl
      case hQ_20 => exact fun _ _ _ h => h
      case hy_20 =>
        refine Or.inl ⟨by rfl, fun w hSw => ?_⟩
        (try dsimp only at hSw)
        go_simp
        (try with_reducible rfl)
      try simp only [Act.put, List.setIfInBounds_toArray, List.set_cons_zero, List.set_cons_succ]
      refine wpAnyH_take (i := 21) (oi := ?oi_21) (v := undef) ?hi_21 ?hs_21 ?hf_21 ?hr_21 ?hQ_21 ?hy_21 (by assumption) ?h_21
      case hi_21 => simp only [List.getElem?_toArray, List.getElem?_cons_succ, List.getElem?_cons_zero]; rfl
      case hs_21 => kernel_rfl
      case hf_21 => kernel_rfl
      case hr_21 => kernel_rfl
      case hQ_21 => exact fun _ _ _ h => h
      case hy_21 => exact Or.inr ⟨by rfl, rfl⟩
      try simp only [Act.put, List.setIfInBounds_toArray, List.set_cons_zero, List.set_cons_succ]
      refine wpAnyH_take (i := 22) (oi := ?oi_22) (v := undef) ?hi_22 ?hs_22 ?hf_22 ?hr_22 ?hQ_22 ?hy_22 (by assumption) ?h_22
      case hi_22 => simp only [List.getElem?_toArray, List.getElem?_cons_succ, List.getElem?_cons_zero]; rfl
      case hs_22 => kernel_rfl
      case hf_22 => kernel_rfl
      case hr_22 => kernel_rfl
      case hQ_22 => exact fun _ _ _ h => h
      case hy_22 => exact Or.inr ⟨by rfl, rfl⟩
      try simp only [Act.put, List.setIfInBounds_toArray, List.set_cons_zero, List.set_cons_succ]
      refine wpAnyH_take (i := 23) (oi := ?oi_23) (v := undef) ?hi_23 ?hs_23 ?hf_23 ?hr_23 ?hQ_23 ?hy_23 (by assumption) ?h_23
      case hi_23 => simp only [List.getElem?_toArray, List.getElem?_cons_succ, List.getElem?_cons_zero]; rfl
      case hs_23 => kernel_rfl
      case hf_23 => kernel_rfl
      case hr_23 => kernel_rfl
      case hQ_23 => exact fun _ _ _ h => h
      case hy_23 => exact Or.inr ⟨by rfl, rfl⟩
      try simp only [Act.put, List.setIfInBounds_toArray, List.set_cons_zero, List.set_cons_succ]
      refine wpAnyH_take (i := 24) (oi := ?oi_24) (v := undef) ?hi_24 ?hs_24 ?hf_24 ?hr_24 ?hQ_24 ?hy_24 (by assumption) ?h_24
      case hi_24 => simp only [List.getElem?_toArray, List.getElem?_cons_succ, List.getElem?_cons_zero]; rfl
      case hs_24 => kernel_rfl
      case hf_24 => kernel_rfl
      case hr_24 => kernel_rfl
      case hQ_24 => exact fun _ _ _ h => h
      case hy_24 => exact Or.inr ⟨by rfl, rfl⟩
      try simp only [Act.put, List.setIfInBounds_toArray, List.set_cons_zero, List.set_cons_succ]
      refine wpAnyH_take (i := 25) (oi := ?oi_25) (v := undef) ?hi_25 ?hs_25 ?hf_25 ?hr_25 ?hQ_25 ?hy_25 (by assumption) ?h_25
      case hi_25 => simp only [List.getElem?_toArray, List.getElem?_cons_succ, List.getElem?_cons_zero]; rfl
      case hs_25 => kernel_rfl
      case hf_25 => kernel_rfl
      case hr_25 => kernel_rfl
      case hQ_25 => exact fun _ _ _ h => h
      case hy_25 => exact Or.inr ⟨by rfl, rfl⟩
      try simp only [Act.put, List.setIfInBounds_toArray, List.set_cons_zero, List.set_cons_succ]
      refine wpAnyH_take (i := 26) (oi := ?oi_26) (v := undef) ?hi_26 ?hs_26 ?hf_26 ?hr_26 ?hQ_26 ?hy_26 (by assumption) ?h_26
      case hi_26 => simp only [List.getElem?_toArray, List.getElem?_cons_succ, List.getElem?_cons_zero]; rfl
      case hs_26 => kernel_rfl
      case hf_26 => kernel_rfl
      case hr_26 => kernel_rfl
      case hQ_26 => exact fun _ _ _ h => h
      case hy_26 => exact Or.inr ⟨by rfl, rfl⟩
      try simp only [Act.put, List.setIfInBounds_toArray, List.set_cons_zero, List.set_cons_succ]
      refine wpAnyH_take (i := 27) (oi := ?oi_27) (v := undef) ?hi_27 ?hs_27 ?hf_27 ?hr_27 ?hQ_27 ?hy_27 (by assumption) ?h_27
      case hi_27 => simp only [List.getElem?_toArray, List.getElem?_cons_succ, List.getElem?_cons_zero]; rfl
      case hs_27 => kernel_rfl
      case hf_27 => kernel_rfl
      case hr_27 => kernel_rfl
      case hQ_27 => exact fun _ _ _ h => h
      case hy_27 => exact Or.inr ⟨by rfl, rfl⟩
      try simp only [Act.put, List.setIfInBounds_toArray, List.set_cons_zero, List.set_cons_succ]
      refine wpAnyH_take (i := 28) (oi := ?oi_28) (v := ?v_28) ?hi_28 ?hs_28 ?hf_28 ?hr_28 ?hQ_28 ?hy_28 (by assumption) ?h_28
      case hi_28 => simp only [List.getElem?_toArray, List.getElem?_cons_succ, List.getElem?_cons_zero]; rfl
      case hs_28 => kernel_rfl
      case hf_28 => kernel_rfl
      case hr_28 => kernel_rfl
      case hQ_28 => exact fun _ _ _ h => h
      case hy_28 =>
        refine Or.inl ⟨by rfl, fun w hSw => ?_⟩
        (try dsimp only at hSw)
        go_simp
        (try with_reducible rfl)
      try simp only [Act.put, List.setIfInBounds_toArray, List.set_cons_zero, List.set_cons_succ]
      refine wpAnyH_take (i := 29) (oi := ?oi_29) (v := ?v_29) ?hi_29 ?hs_29 ?hf_29 ?hr_29 ?hQ_29 ?hy_29 (by assumption) ?h_29
      case hi_29 => simp only [List.getElem?_toArray, List.getElem?_cons_succ, List.getElem?_cons_zero]; rfl
      case hs_29 => kernel_rfl
      case hf_29 => kernel_rfl
      case hr_29 => kernel_rfl
      case hQ_29 => exact fun _ _ _ h => h
      case hy_29 =>
        refine Or.inl ⟨by rfl, fun w hSw => ?_⟩
        (try dsimp only at hSw)
        go_simp
        (try with_reducible rfl)
      try simp only [Act.put, List.setIfInBounds_toArray, List.set_cons_zero, List.set_cons_succ]
      refine wpAnyH_take (i := 30) (oi := ?oi_30) (v := ?v_30) ?hi_30 ?hs_30 ?hf_30 ?hr_30 ?hQ_30 ?hy_30 (by assumption) ?h_30
      case hi_30 => simp only [List.getElem?_toArray, List.getElem?_cons_succ, List.getElem?_cons_zero]; rfl
      case hs_30 => kernel_rfl
      case hf_30 => kernel_rfl
      case hr_30 => kernel_rfl
      case hQ_30 => exact fun _ _ _ h => h
      case hy_30 =>
        refine Or.inl ⟨by rfl, fun w hSw => ?_⟩
        (try dsimp only at hSw)
        go_simp
        (try with_reducible rfl)
      try simp only [Act.put, List.setIfInBounds_toArray, List.set_cons_zero, List.set_cons_succ]
      refine wpAnyH_done (by kernel_rfl) ?_ _
      go_wp2_with fail
      go_ret
      exact ⟨rfl, hbw.out.trans (hUE.mono hbw.out.size)⟩
    · obtain rfl : I = J := by omega
      obtain rfl := HONE.out rfl
      have hd : decide ((I : Int) < (I : Int)) = false := decide_eq_false (by omega)
      have hnl : ¬ (I : Int) < (I : Int) := by omega
      clear HONE
      have hsg : Hid (Rd U (.slice (some ⟨gx, ox + I, none⟩) 1 (cx - I)) (seg xs I (I + 1))) := by
        have := hsg.out
        rwa [show I + 1 - I = 1 by omega] at this
      first
        | (
          go_region_held3 (fun wz => wz.cell? ⟨w2.heap.size, 0, none⟩ = some (.int .i64 q.num) ∧ wz.cell? ⟨w2.heap.size, 1, none⟩ = some (.int .i64 (q.den : Int)) ∧ wz.cell? ⟨gx, ox + I, none⟩ = some (.int .i64 x))
            (first | exact HK.out _ hU0 | exact HK.out _ hUA | exact HK.out _ hUB | exact HK.out _ hUC | exact HK.out _ hUD | exact HK.out _ hUE | exact HK.out _ hUF)
            (first
              | (go_at_call 42; with_reducible refine (KG1.out _ _ (hsg.out.below hU0)).mono ?_; rintro e wy ⟨rfl, rfl⟩)
              | (go_at_call 41; with_reducible refine (KF1.out _).mono ?_; rintro e wA ⟨rfl, hbA⟩; have hUA := hU0.trans (hbA.mono hU0.size))
              | (go_at_call 40; with_reducible refine (KL1.out _).mono ?_; rintro e wB ⟨rfl, hbB⟩; have hUB := hUA.trans (hbB.mono hUA.size))
              | (go_at_call 26; with_reducible refine (KN.out _ _ (hsg.out.below hUB)).mono ?_; rintro e wC ⟨vN, rfl, hsN, hbC⟩; have hUC := hUB.trans (hbC.mono hUB.size); have hrN := hsN.rd; clear hsN)
              | (go_at_call 42; with_reducible refine (KG2.out _ _ hrN).mono ?_; rintro e wy ⟨rfl, rfl⟩)
              | (go_at_call 41; with_reducible refine (KF2.out _).mono ?_; rintro e wD ⟨rfl, hbD⟩; have hUD := hUC.trans (hbD.mono hUC.size))
              | (go_at_call 40; with_reducible refine (KL2.out _).mono ?_; rintro e wE ⟨rfl, hbE⟩; have hUE := hUD.trans (hbE.mono hUD.size))
              | (go_at_call 41; with_reducible refine (KF3.out _).mono ?_; rintro e wF ⟨rfl, hbF⟩; have hUF := hUE.trans (hbF.mono hUE.size)))
          )
        | fail
      all_goals go_wp2_with fail
      all_goals go_ret
      all_goals exact ⟨rfl, hbw.out.trans (hUF.mono hbw.out.size)⟩
end Go.Proofs.Ytahogdcmnpidiaa
