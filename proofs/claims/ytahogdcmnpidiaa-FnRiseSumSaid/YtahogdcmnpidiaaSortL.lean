/-
  The contract of the reference's sorted.
-/
import Derived.Test.YtahogdcmnpidiaaSortA
namespace Go.Proofs.Ytahogdcmnpidiaa
open Go.RowKit

set_option maxRecDepth 20000 in
set_option maxHeartbeats 8000000 in
theorem sorted_c (v : Value) (xs : List Int) (w : World) (hr : Rd w v xs) (hl : xs.length ≤ 1000) :
    Calls Try.prog 95 #[v] w fun e w' => ∃ u ys, e = .returned u ∧ IsSorted xs ys ∧ Own w' w.heap.size 3 u ys ∧ Below w.heap.size w w' := by
  obtain ⟨A, c, rfl, hc, hm0, hcell⟩ := hr
  go_enter Try.func95, Try.ntmps95
  go_wp2_with fail
  go_loopw [3, 4] (fun o i wr => ∃ (k g cap : Nat) (ys : List Int), k ≤ xs.length ∧ i = .int .i64 k ∧ o = .slice (some ⟨g, 0, none⟩) ys.length cap ∧ ys.length ≤ cap ∧ cap ≤ 9223372036854775807 ∧ IsSorted (xs.take k) ys ∧ Own wr w.heap.size 3 o ys ∧ Below w.heap.size w wr) (fun _ i _ => xs.length - (intOf i).toNat)
  case atStart =>
    exact ⟨0, w.heap.size, 0, [], by omega, rfl, rfl, by simp, by omega, IsSorted.nil, lit_own [] rfl rfl rfl (by simp) (Nat.le_refl _), by (repeat (first | exact Below.refl _ _ | assumption | refine Below.setCell ?_ (by first | (simp; done) | omega | (simp; omega) | (simp at *; omega)) _ | refine Below.drew ?_ | refine below_drewN ?_ _ | refine below_alloc' ?_ _ | refine below_to' ?_ (by assumption)))⟩
  case round =>
    obtain ⟨k, g, cap, ys, hk, rfl, rfl, hyc, hcm, hsrt, hown, hbel⟩ := hrel
    by_cases hlt : k < xs.length
    · obtain ⟨gx, ox, rfl, hgx, hclx⟩ := hcell (by omega)
      have cI := hclx k hlt
      obtain ⟨x, hx⟩ : ∃ x, xs.getD k 0 = x := ⟨_, rfl⟩
      rw [hx] at cI
      have HSP := hide (show ∀ m, m ≤ ys.length → (∀ j, j < m → atL ys j ≤ x) → (m < ys.length → x < atL ys m) → IsSorted (xs.take (k + 1)) (ys.take m ++ [x] ++ ys.drop m) from fun m h0 h1 h2 => by
        have := hsrt.put h0 h1 h2
        rwa [show xs.take k ++ [x] = xs.take (k + 1) by rw [← hx]; exact take_next hlt] at this)
      have hyl : ys.length = k := by have := hsrt.1; simp at this; omega
      have HYL := hide hyl
      have hlt2 : (k : Int) < (xs.length : Int) := by omega
      have hkb : k < 1000 := by omega
      have hylb : ys.length < 1000 := by omega
      clear hsrt hclx hcell hyl hx
      go_wp2_with fail
      go_loopw [5] (fun mm wr => ∃ m : Nat, m ≤ ys.length ∧ mm = .int .i64 m ∧ (∀ j, j < m → atL ys j ≤ x) ∧ Own wr w.heap.size 3 (.slice (some ⟨g, 0, none⟩) ys.length cap) ys ∧ Below w.heap.size w wr) (fun mm _ => ys.length - (intOf mm).toNat)
      case atStart => exact ⟨0, Nat.zero_le _, rfl, fun j h => absurd h (by omega), hown, hbel⟩
      case round =>
        clear hown hbel
        obtain ⟨m, hm, rfl, hle, hown, hbel⟩ := hrel
        have cX : wr.cell? ⟨gx, ox + k, none⟩ = some (.int .i64 x) := (hbel.cell hgx).trans cI
        have HLE := hide hle
        clear hle
        by_cases hml : m < ys.length
        · have cY : wr.cell? ⟨g, m, none⟩ = some (.int .i64 (atL ys m)) := hown.cell hml
          have hml2 : (m : Int) < (ys.length : Int) := by omega
          by_cases hxm : atL ys m ≤ x
          · go_wp2_with fail
            go_quiet (fail)
            go_wp2_with fail
            go_roundw
            case rel => exact ⟨m + 1, by omega, by go_num, fun j hj => by
              rcases Nat.lt_or_ge j m with h | h
              · exact HLE.out j h
              · rw [show j = m by omega]; exact hxm, hown.drewN _, below_drewN hbel _⟩
            case measure => simp [intOf]; omega
          · have HSQ := hide (HSP.out m hm HLE.out (fun _ => by omega))
            have hxm2 : ¬ (atL ys m ≤ x) := hxm
            go_wp2_with fail
            go_quiet (fail)
            go_wp2_with fail
            have hmi1 : (m : Int) ≤ (cap : Int) := by omega
            have hmi2 : (m : Int) ≤ (ys.length : Int) := by omega
            have hmi3 : (ys.length : Int) ≤ (cap : Int) := by omega
            have hcm2 : ¬ cap = m := by omega
            have hsegw : ∀ wb, Own wb w.heap.size 3 (.slice (some ⟨g, 0, none⟩) ys.length cap) ys → ∀ wz, Below wb.heap.size wb wz → Rd wz (.slice (some ⟨g, m, none⟩) (ys.length - m) (cap - m)) (ys.drop m) := fun wb ho wz h => by
              have h1 := ((ho.sl.rd).cut (i := m) (k := ys.length) hm (Nat.le_refl _)).below h
              rwa [if_neg hcm2, Option.map_some, seg_rest, add_zero_off] at h1
            generalize hwb : World.drewN _ _ = wb
            have ownb : Own wb w.heap.size 3 (.slice (some ⟨g, 0, none⟩) ys.length cap) ys := by rw [← hwb]; exact hown.drewN _
            have hbb : Below w.heap.size w wb := by rw [← hwb]; exact below_drewN hbel _
            have cb : wb.cell? ⟨gx, ox + k, none⟩ = some (.int .i64 x) := by rw [← hwb]; exact cX
            clear hwb hown hbel cX
            have hgb : gx < wb.heap.size := Nat.lt_of_lt_of_le hgx hbb.size
            have HK := hide (fun wz (h : Below wb.heap.size wb wz) => (h.cell (p := ⟨gx, ox + k, none⟩) hgb).trans cb)
            have HT := hide (fun wz (h : Below wb.heap.size wb wz) => ((ownb.sl.rd).front (m := m) hm).below h)
            have HD := hide (fun wz (h : Below wb.heap.size wb wz) => hsegw wb ownb wz h)
            have hq1 := hide (show (ys.take m).length ≤ 1000000000 by simp; omega)
            have hq2 := hide (show (ys.take m ++ [x]).length ≤ 1000000000 by simp; omega)
            have hq3 := hide (show (ys.drop m).length ≤ 1000000000 by simp; omega)
            have hU0 : Below wb.heap.size wb wb.drew := (Below.refl _ _).drew
            have hUA : Below wb.heap.size wb (wb.drew.alloc (.cells #[] 3)) := hU0.alloc (Nat.le_refl _) _
            have hUB : Below wb.heap.size wb ((wb.drew.alloc (.cells #[] 3)).alloc (.cells #[.int .i64 x] 3)) := hUA.alloc hUA.size _
            have hUC : Below wb.heap.size wb (wb.drew.alloc (.cells #[.int .i64 x] 3)) := hU0.alloc (Nat.le_refl _) _
            have hUD : Below wb.heap.size wb ((wb.drew.alloc (.cells #[.int .i64 x] 3)).alloc (.cells #[] 3)) := hUC.alloc hUC.size _
            have hA30 : Own (wb.drew.alloc (.cells #[] 3)) wb.heap.size 3 (.slice (some ⟨wb.heap.size, 0, none⟩) 0 0) [] := lit_own [] rfl rfl rfl (by simp) (Nat.le_refl _)
            have hD30 : Own ((wb.drew.alloc (.cells #[.int .i64 x] 3)).alloc (.cells #[] 3)) wb.heap.size 3 (.slice (some ⟨wb.heap.size + 1, 0, none⟩) 0 0) [] := lit_own [] rfl (by simp) rfl (by simp) (by omega)
            have hBx : ((wb.drew.alloc (.cells #[] 3)).alloc (.cells #[.int .i64 x] 3)).heap[wb.heap.size + 1]? = some (.cells #[.int .i64 x] 3) := by
              have := heap_alloc_new (wb.drew.alloc (.cells #[] 3)) (.cells #[.int .i64 x] 3)
              rwa [size_alloc'] at this
            have hDx : ((wb.drew.alloc (.cells #[.int .i64 x] 3)).alloc (.cells #[] 3)).heap[wb.heap.size]? = some (.cells #[.int .i64 x] 3) := by
              rw [heap_alloc_old _ _ (by rw [size_alloc']; exact Nat.lt_succ_self _)]
              exact heap_alloc_new wb.drew (.cells #[.int .i64 x] 3)
            clear cb hsegw
            refine wp_region_held_drew (S := (fun wz : World => wz.cell? ⟨gx, ox + k, none⟩ = some (.int .i64 x))) (by kernel_rfl) (HK.out _ hU0) (fun hHeld => ?_)
            refine wpAnyH_take (i := 1) (oi := ?oi_1_1_A) (v := ?v_1_1_A) ?hi_1_1_A ?hs_1_1_A ?hf_1_1_A ?hr_1_1_A ?hQ_1_1_A ?hy_1_1_A (by assumption) ?h_1_1_A
            case hi_1_1_A => simp only [List.getElem?_toArray, List.getElem?_cons_succ, List.getElem?_cons_zero]; rfl
            case hs_1_1_A => kernel_rfl
            case hf_1_1_A => kernel_rfl
            case hr_1_1_A => kernel_rfl
            case hQ_1_1_A => exact fun _ _ _ h => h
            case hy_1_1_A =>
              refine Or.inl ⟨by rfl, fun w hSw => ?_⟩
              (try dsimp only at hSw)
              go_simp
              (try with_reducible rfl)
            try simp only [Act.put, List.setIfInBounds_toArray, List.set_cons_zero, List.set_cons_succ]
            refine wpAnyH_take (i := 2) (oi := ?oi_2_2_A) (v := ?v_2_2_A) ?hi_2_2_A ?hs_2_2_A ?hf_2_2_A ?hr_2_2_A ?hQ_2_2_A ?hy_2_2_A (by assumption) ?h_2_2_A
            case hi_2_2_A => simp only [List.getElem?_toArray, List.getElem?_cons_succ, List.getElem?_cons_zero]; rfl
            case hs_2_2_A => kernel_rfl
            case hf_2_2_A => kernel_rfl
            case hr_2_2_A => kernel_rfl
            case hQ_2_2_A => exact fun _ _ _ h => h
            case hy_2_2_A =>
              refine Or.inl ⟨by rfl, fun w hSw => ?_⟩
              (try dsimp only at hSw)
              go_simp
              (try with_reducible rfl)
            try simp only [Act.put, List.setIfInBounds_toArray, List.set_cons_zero, List.set_cons_succ]
            refine wpAnyH_take (i := 3) (oi := ?oi_3_3_A) (v := ?v_3_3_A) ?hi_3_3_A ?hs_3_3_A ?hf_3_3_A ?hr_3_3_A ?hQ_3_3_A ?hy_3_3_A (by assumption) ?h_3_3_A
            case hi_3_3_A => simp only [List.getElem?_toArray, List.getElem?_cons_succ, List.getElem?_cons_zero]; rfl
            case hs_3_3_A => kernel_rfl
            case hf_3_3_A => kernel_rfl
            case hr_3_3_A => kernel_rfl
            case hQ_3_3_A => exact fun _ _ _ h => h
            case hy_3_3_A =>
              refine Or.inl ⟨by rfl, fun w hSw => ?_⟩
              (try dsimp only at hSw)
              go_simp
              (try with_reducible rfl)
            try simp only [Act.put, List.setIfInBounds_toArray, List.set_cons_zero, List.set_cons_succ]
            refine wpAnyH_take (i := 5) (oi := ?oi_5_4_A) (v := ?v_5_4_A) ?hi_5_4_A ?hs_5_4_A ?hf_5_4_A ?hr_5_4_A ?hQ_5_4_A ?hy_5_4_A (by assumption) ?h_5_4_A
            case hi_5_4_A => simp only [List.getElem?_toArray, List.getElem?_cons_succ, List.getElem?_cons_zero]; rfl
            case hs_5_4_A => kernel_rfl
            case hf_5_4_A => kernel_rfl
            case hr_5_4_A => kernel_rfl
            case hQ_5_4_A => exact fun _ _ _ h => h
            case hy_5_4_A =>
              refine Or.inl ⟨by rfl, fun w hSw => ?_⟩
              (try dsimp only at hSw)
              go_simp
              (try with_reducible rfl)
            try simp only [Act.put, List.setIfInBounds_toArray, List.set_cons_zero, List.set_cons_succ]
            refine wpAnyH_take (i := 6) (oi := ?oi_6_5_A) (v := ?v_6_5_A) ?hi_6_5_A ?hs_6_5_A ?hf_6_5_A ?hr_6_5_A ?hQ_6_5_A ?hy_6_5_A (by assumption) ?h_6_5_A
            case hi_6_5_A => simp only [List.getElem?_toArray, List.getElem?_cons_succ, List.getElem?_cons_zero]; rfl
            case hs_6_5_A => kernel_rfl
            case hf_6_5_A => kernel_rfl
            case hr_6_5_A => kernel_rfl
            case hQ_6_5_A => exact fun _ _ _ h => h
            case hy_6_5_A =>
              refine Or.inl ⟨by rfl, fun w hSw => ?_⟩
              (try dsimp only at hSw)
              go_simp
              (try with_reducible rfl)
            try simp only [Act.put, List.setIfInBounds_toArray, List.set_cons_zero, List.set_cons_succ]
            refine wpAnyH_take (i := 7) (oi := ?oi_7_6_A) (v := ?v_7_6_A) ?hi_7_6_A ?hs_7_6_A ?hf_7_6_A ?hr_7_6_A ?hQ_7_6_A ?hy_7_6_A (by assumption) ?h_7_6_A
            case hi_7_6_A => simp only [List.getElem?_toArray, List.getElem?_cons_succ, List.getElem?_cons_zero]; rfl
            case hs_7_6_A => kernel_rfl
            case hf_7_6_A => kernel_rfl
            case hr_7_6_A => kernel_rfl
            case hQ_7_6_A => exact fun _ _ _ h => h
            case hy_7_6_A =>
              refine Or.inl ⟨by rfl, fun w hSw => ?_⟩
              (try dsimp only at hSw)
              go_simp
              (try with_reducible rfl)
            try simp only [Act.put, List.setIfInBounds_toArray, List.set_cons_zero, List.set_cons_succ]
            refine wpAnyH_take (i := 8) (oi := ?oi_8_7_A) (v := ?v_8_7_A) ?hi_8_7_A ?hs_8_7_A ?hf_8_7_A ?hr_8_7_A ?hQ_8_7_A ?hy_8_7_A (by assumption) ?h_8_7_A
            case hi_8_7_A => simp only [List.getElem?_toArray, List.getElem?_cons_succ, List.getElem?_cons_zero]; rfl
            case hs_8_7_A => kernel_rfl
            case hf_8_7_A => kernel_rfl
            case hr_8_7_A => kernel_rfl
            case hQ_8_7_A => exact fun _ _ _ h => h
            case hy_8_7_A =>
              refine Or.inl ⟨by rfl, fun w hSw => ?_⟩
              (try dsimp only at hSw)
              go_simp
              (try with_reducible rfl)
            try simp only [Act.put, List.setIfInBounds_toArray, List.set_cons_zero, List.set_cons_succ]
            refine wpAnyH_take (i := 11) (oi := ?oi_11_8_A) (v := ?v_11_8_A) ?hi_11_8_A ?hs_11_8_A ?hf_11_8_A ?hr_11_8_A ?hQ_11_8_A ?hy_11_8_A (by assumption) ?h_11_8_A
            case hi_11_8_A => simp only [List.getElem?_toArray, List.getElem?_cons_succ, List.getElem?_cons_zero]; rfl
            case hs_11_8_A => kernel_rfl
            case hf_11_8_A => kernel_rfl
            case hr_11_8_A => kernel_rfl
            case hQ_11_8_A => exact fun _ _ _ h => h
            case hy_11_8_A =>
              refine Or.inl ⟨by rfl, fun w hSw => ?_⟩
              (try dsimp only at hSw)
              go_simp
              (try with_reducible rfl)
            try simp only [Act.put, List.setIfInBounds_toArray, List.set_cons_zero, List.set_cons_succ]
            refine wpAnyH_take (i := 12) (oi := ?oi_12_9_A) (v := ?v_12_9_A) ?hi_12_9_A ?hs_12_9_A ?hf_12_9_A ?hr_12_9_A ?hQ_12_9_A ?hy_12_9_A (by assumption) ?h_12_9_A
            case hi_12_9_A => simp only [List.getElem?_toArray, List.getElem?_cons_succ, List.getElem?_cons_zero]; rfl
            case hs_12_9_A => kernel_rfl
            case hf_12_9_A => kernel_rfl
            case hr_12_9_A => kernel_rfl
            case hQ_12_9_A => exact fun _ _ _ h => h
            case hy_12_9_A =>
              refine Or.inl ⟨by rfl, fun w hSw => ?_⟩
              (try dsimp only at hSw)
              go_simp
              (try with_reducible rfl)
            try simp only [Act.put, List.setIfInBounds_toArray, List.set_cons_zero, List.set_cons_succ]
            refine wpAnyH_take (i := 13) (oi := ?oi_13_10_A) (v := ?v_13_10_A) ?hi_13_10_A ?hs_13_10_A ?hf_13_10_A ?hr_13_10_A ?hQ_13_10_A ?hy_13_10_A (by assumption) ?h_13_10_A
            case hi_13_10_A => simp only [List.getElem?_toArray, List.getElem?_cons_succ, List.getElem?_cons_zero]; rfl
            case hs_13_10_A => kernel_rfl
            case hf_13_10_A => kernel_rfl
            case hr_13_10_A => kernel_rfl
            case hQ_13_10_A => exact fun _ _ _ h => h
            case hy_13_10_A =>
              refine Or.inl ⟨by rfl, fun w hSw => ?_⟩
              (try dsimp only at hSw)
              go_simp
              (try with_reducible rfl)
            try simp only [Act.put, List.setIfInBounds_toArray, List.set_cons_zero, List.set_cons_succ]
            refine wpAnyH_ready (rs := [0, 9]) (by kernel_rfl) (by simp) ?_
            refine AllReadyH.cons (o := ?o_26_A) ?ho_26_A ?hk_26_A (AllReadyH.cons (o := ?p_26_A) ?hp_26_A ?hl_26_A AllReadyH.nil)
            case ho_26_A => simp only [List.getElem?_toArray, List.getElem?_cons_succ, List.getElem?_cons_zero]; rfl
            case hp_26_A => simp only [List.getElem?_toArray, List.getElem?_cons_succ, List.getElem?_cons_zero]; rfl
            case hk_26_A =>
              intro K hK
              go_simp
              refine hK.out _ _ (HK.out _ hUA) (fun hHeld => ?_)
              clear hK K
              try simp only [Act.put, List.setIfInBounds_toArray, List.set_cons_zero, List.set_cons_succ]
              refine wpAnyH_ready (rs := [4, 9]) (by kernel_rfl) (by simp) ?_
              refine AllReadyH.cons (o := ?o_20_A) ?ho_20_A ?hk_20_A (AllReadyH.cons (o := ?p_20_A) ?hp_20_A ?hl_20_A AllReadyH.nil)
              case ho_20_A => simp only [List.getElem?_toArray, List.getElem?_cons_succ, List.getElem?_cons_zero]; rfl
              case hp_20_A => simp only [List.getElem?_toArray, List.getElem?_cons_succ, List.getElem?_cons_zero]; rfl
              case hk_20_A =>
                intro K hK
                refine step_append_rd (wb.drew.alloc (.cells #[] 3)) rfl (.tmp 30) (.tmp 33) rfl ints wb.heap.size _ [] (ys.take m) ⟨g, 0, none⟩ m cap rfl rfl (HT.out _ hUA) hA30 (hUA).size (by simp) hq1.out ?_
                intro v4 w4 own4 hb4 hg4 hat4 hs4
                have hU4 := (hUA).trans hb4
                rw [List.nil_append] at own4
                refine hK.out _ _ (HK.out _ hU4) (fun hHeld => ?_)
                clear hK K
                try simp only [Act.put, List.setIfInBounds_toArray, List.set_cons_zero, List.set_cons_succ]
                refine wpAnyH_ready (rs := [9]) (by kernel_rfl) (by simp) ?_
                refine AllReadyH.cons (o := ?o_9_12_A) ?ho_9_12_A ?hk_9_12_A AllReadyH.nil
                case ho_9_12_A => simp only [List.getElem?_toArray, List.getElem?_cons_succ, List.getElem?_cons_zero]; rfl
                intro K hK
                go_simp
                refine hK.out _ _ (HK.out _ (hU4.trans ((Below.refl _ _).alloc hU4.size _))) (fun hHeld => ?_)
                clear hK K
                try simp only [Act.put, List.setIfInBounds_toArray, List.set_cons_zero, List.set_cons_succ]
                have own4 := own4.alloc (.cells #[.int .i64 x] 3)
                have hU4 := hU4.trans ((Below.refl _ _).alloc hU4.size (.cells #[.int .i64 x] 3))
                have hn4 := hU4.size
                have hx1 : Rd (w4.alloc (.cells #[.int .i64 x] 3)) (.slice (some ⟨w4.heap.size, 0, none⟩) 1 1) [x] := one_row (heap_alloc_new w4 _)
                refine wpAnyH_ready (rs := [10]) (by kernel_rfl) (by simp) ?_
                refine AllReadyH.cons (o := ?o_10_13_A) ?ho_10_13_A ?hk_10_13_A AllReadyH.nil
                case ho_10_13_A => simp only [List.getElem?_toArray, List.getElem?_cons_succ, List.getElem?_cons_zero]; rfl
                intro K hK
                refine step_append_rd (w4.alloc (.cells #[.int .i64 x] 3)) rfl (.tmp 34) (.tmp 39) rfl ints wb.heap.size _ (ys.take m) [x] ⟨w4.heap.size, 0, none⟩ 1 1 rfl rfl hx1 own4 hn4 hq1.out (by simp) ?_
                intro v10 w10 own10 hb10 hg10 hat10 hs10
                have hU10 := hU4.trans hb10
                refine hK.out _ _ (HK.out _ hU10) (fun hHeld => ?_)
                clear hK K
                try simp only [Act.put, List.setIfInBounds_toArray, List.set_cons_zero, List.set_cons_succ]
                refine wpAnyH_ready (rs := [14]) (by kernel_rfl) (by simp) ?_
                refine AllReadyH.cons (o := ?o_14_14_A) ?ho_14_14_A ?hk_14_14_A AllReadyH.nil
                case ho_14_14_A => simp only [List.getElem?_toArray, List.getElem?_cons_succ, List.getElem?_cons_zero]; rfl
                intro K hK
                refine step_append_rd w10 rfl (.tmp 40) (.tmp 43) rfl ints wb.heap.size _ (ys.take m ++ [x]) (ys.drop m) _ _ _ rfl rfl (HD.out _ hU10) own10 hU10.size hq2.out hq3.out ?_
                intro v14 w14 own14 hb14 hg14 hat14 hs14
                have hU14 := hU10.trans hb14
                refine hK.out _ _ (HK.out _ hU14) (fun hHeld => ?_)
                clear hK K
                try simp only [Act.put, List.setIfInBounds_toArray, List.set_cons_zero, List.set_cons_succ]
                refine wpAnyH_take (i := 15) (oi := ?oi_15_15_A) (v := ?v_15_15_A) ?hi_15_15_A ?hs_15_15_A ?hf_15_15_A ?hr_15_15_A ?hQ_15_15_A ?hy_15_15_A (by assumption) ?h_15_15_A
                case hi_15_15_A => simp only [List.getElem?_toArray, List.getElem?_cons_succ, List.getElem?_cons_zero]; rfl
                case hs_15_15_A => kernel_rfl
                case hf_15_15_A => kernel_rfl
                case hr_15_15_A => kernel_rfl
                case hQ_15_15_A => exact fun _ _ _ h => h
                case hy_15_15_A =>
                  refine Or.inl ⟨by rfl, fun w hSw => ?_⟩
                  (try dsimp only at hSw)
                  go_simp
                  (try with_reducible rfl)
                try simp only [Act.put, List.setIfInBounds_toArray, List.set_cons_zero, List.set_cons_succ]
                refine wpAnyH_done (by kernel_rfl) ?_ _
                obtain ⟨gz, cz, hvz, hz1, hz2⟩ := own14.form2
                subst hvz
                have HBZ := hide (hbb.trans (hU14.mono hbb.size))
                have HOZ := hide (own14.low hbb.size)
                clear hBx hDx hUA hUB hUC hUD hU0 hA30 hD30 own14 hg14 hat14 hs14 hb14 hU14 HK HT HD hq1 hq2 hq3
                go_wp2_with fail
                go_roundw
                case rel => exact ⟨k + 1, gz, cz, _, by omega, by go_num, rfl, hz1, hz2, HSQ.out, HOZ.out, HBZ.out⟩
                case measure => simp [intOf]; omega
              case hl_20_A =>
                intro K hK
                go_simp
                refine hK.out _ _ (HK.out _ hUB) (fun hHeld => ?_)
                clear hK K
                try simp only [Act.put, List.setIfInBounds_toArray, List.set_cons_zero, List.set_cons_succ]
                refine wpAnyH_ready (rs := [4]) (by kernel_rfl) (by simp) ?_
                refine AllReadyH.cons (o := ?o_4_16_A) ?ho_4_16_A ?hk_4_16_A AllReadyH.nil
                case ho_4_16_A => simp only [List.getElem?_toArray, List.getElem?_cons_succ, List.getElem?_cons_zero]; rfl
                intro K hK
                refine step_append_rd ((wb.drew.alloc (.cells #[] 3)).alloc (.cells #[.int .i64 x] 3)) rfl (.tmp 30) (.tmp 33) rfl ints wb.heap.size _ [] (ys.take m) ⟨g, 0, none⟩ m cap rfl rfl (HT.out _ hUB) (hA30.alloc _) (hUB).size (by simp) hq1.out ?_
                intro v4 w4 own4 hb4 hg4 hat4 hs4
                have hU4 := (hUB).trans hb4
                rw [List.nil_append] at own4
                refine hK.out _ _ (HK.out _ hU4) (fun hHeld => ?_)
                clear hK K
                try simp only [Act.put, List.setIfInBounds_toArray, List.set_cons_zero, List.set_cons_succ]
                have hn4 := hU4.size
                have hx1 : Rd w4 (.slice (some ⟨wb.heap.size + 1, 0, none⟩) 1 1) [x] := one_kept hBx hg4 (by show (some (wb.heap.size + 1) : Option Nat) ≠ some wb.heap.size; simp)
                refine wpAnyH_ready (rs := [10]) (by kernel_rfl) (by simp) ?_
                refine AllReadyH.cons (o := ?o_10_17_A) ?ho_10_17_A ?hk_10_17_A AllReadyH.nil
                case ho_10_17_A => simp only [List.getElem?_toArray, List.getElem?_cons_succ, List.getElem?_cons_zero]; rfl
                intro K hK
                refine step_append_rd w4 rfl (.tmp 34) (.tmp 39) rfl ints wb.heap.size _ (ys.take m) [x] ⟨wb.heap.size + 1, 0, none⟩ 1 1 rfl rfl hx1 own4 hn4 hq1.out (by simp) ?_
                intro v10 w10 own10 hb10 hg10 hat10 hs10
                have hU10 := hU4.trans hb10
                refine hK.out _ _ (HK.out _ hU10) (fun hHeld => ?_)
                clear hK K
                try simp only [Act.put, List.setIfInBounds_toArray, List.set_cons_zero, List.set_cons_succ]
                refine wpAnyH_ready (rs := [14]) (by kernel_rfl) (by simp) ?_
                refine AllReadyH.cons (o := ?o_14_18_A) ?ho_14_18_A ?hk_14_18_A AllReadyH.nil
                case ho_14_18_A => simp only [List.getElem?_toArray, List.getElem?_cons_succ, List.getElem?_cons_zero]; rfl
                intro K hK
                refine step_append_rd w10 rfl (.tmp 40) (.tmp 43) rfl ints wb.heap.size _ (ys.take m ++ [x]) (ys.drop m) _ _ _ rfl rfl (HD.out _ hU10) own10 hU10.size hq2.out hq3.out ?_
                intro v14 w14 own14 hb14 hg14 hat14 hs14
                have hU14 := hU10.trans hb14
                refine hK.out _ _ (HK.out _ hU14) (fun hHeld => ?_)
                clear hK K
                try simp only [Act.put, List.setIfInBounds_toArray, List.set_cons_zero, List.set_cons_succ]
                refine wpAnyH_take (i := 15) (oi := ?oi_15_19_A) (v := ?v_15_19_A) ?hi_15_19_A ?hs_15_19_A ?hf_15_19_A ?hr_15_19_A ?hQ_15_19_A ?hy_15_19_A (by assumption) ?h_15_19_A
                case hi_15_19_A => simp only [List.getElem?_toArray, List.getElem?_cons_succ, List.getElem?_cons_zero]; rfl
                case hs_15_19_A => kernel_rfl
                case hf_15_19_A => kernel_rfl
                case hr_15_19_A => kernel_rfl
                case hQ_15_19_A => exact fun _ _ _ h => h
                case hy_15_19_A =>
                  refine Or.inl ⟨by rfl, fun w hSw => ?_⟩
                  (try dsimp only at hSw)
                  go_simp
                  (try with_reducible rfl)
                try simp only [Act.put, List.setIfInBounds_toArray, List.set_cons_zero, List.set_cons_succ]
                refine wpAnyH_done (by kernel_rfl) ?_ _
                obtain ⟨gz, cz, hvz, hz1, hz2⟩ := own14.form2
                subst hvz
                have HBZ := hide (hbb.trans (hU14.mono hbb.size))
                have HOZ := hide (own14.low hbb.size)
                clear hBx hDx hUA hUB hUC hUD hU0 hA30 hD30 own14 hg14 hat14 hs14 hb14 hU14 HK HT HD hq1 hq2 hq3
                go_wp2_with fail
                go_roundw
                case rel => exact ⟨k + 1, gz, cz, _, by omega, by go_num, rfl, hz1, hz2, HSQ.out, HOZ.out, HBZ.out⟩
                case measure => simp [intOf]; omega
            case hl_26_A =>
              intro K hK
              go_simp
              refine hK.out _ _ (HK.out _ hUC) (fun hHeld => ?_)
              clear hK K
              try simp only [Act.put, List.setIfInBounds_toArray, List.set_cons_zero, List.set_cons_succ]
              refine wpAnyH_ready (rs := [0]) (by kernel_rfl) (by simp) ?_
              refine AllReadyH.cons (o := ?o_0_21_A) ?ho_0_21_A ?hk_0_21_A AllReadyH.nil
              case ho_0_21_A => simp only [List.getElem?_toArray, List.getElem?_cons_succ, List.getElem?_cons_zero]; rfl
              intro K hK
              go_simp
              refine hK.out _ _ (HK.out _ hUD) (fun hHeld => ?_)
              clear hK K
              try simp only [Act.put, List.setIfInBounds_toArray, List.set_cons_zero, List.set_cons_succ]
              refine wpAnyH_ready (rs := [4]) (by kernel_rfl) (by simp) ?_
              refine AllReadyH.cons (o := ?o_4_22_A) ?ho_4_22_A ?hk_4_22_A AllReadyH.nil
              case ho_4_22_A => simp only [List.getElem?_toArray, List.getElem?_cons_succ, List.getElem?_cons_zero]; rfl
              intro K hK
              refine step_append_rd ((wb.drew.alloc (.cells #[.int .i64 x] 3)).alloc (.cells #[] 3)) rfl (.tmp 30) (.tmp 33) rfl ints wb.heap.size _ [] (ys.take m) ⟨g, 0, none⟩ m cap rfl rfl (HT.out _ hUD) hD30 (hUD).size (by simp) hq1.out ?_
              intro v4 w4 own4 hb4 hg4 hat4 hs4
              have hU4 := (hUD).trans hb4
              rw [List.nil_append] at own4
              refine hK.out _ _ (HK.out _ hU4) (fun hHeld => ?_)
              clear hK K
              try simp only [Act.put, List.setIfInBounds_toArray, List.set_cons_zero, List.set_cons_succ]
              have hn4 := hU4.size
              have hx1 : Rd w4 (.slice (some ⟨wb.heap.size, 0, none⟩) 1 1) [x] := one_kept hDx hg4 (by show (some wb.heap.size : Option Nat) ≠ some (wb.heap.size + 1); simp)
              refine wpAnyH_ready (rs := [10]) (by kernel_rfl) (by simp) ?_
              refine AllReadyH.cons (o := ?o_10_23_A) ?ho_10_23_A ?hk_10_23_A AllReadyH.nil
              case ho_10_23_A => simp only [List.getElem?_toArray, List.getElem?_cons_succ, List.getElem?_cons_zero]; rfl
              intro K hK
              refine step_append_rd w4 rfl (.tmp 34) (.tmp 39) rfl ints wb.heap.size _ (ys.take m) [x] ⟨wb.heap.size, 0, none⟩ 1 1 rfl rfl hx1 own4 hn4 hq1.out (by simp) ?_
              intro v10 w10 own10 hb10 hg10 hat10 hs10
              have hU10 := hU4.trans hb10
              refine hK.out _ _ (HK.out _ hU10) (fun hHeld => ?_)
              clear hK K
              try simp only [Act.put, List.setIfInBounds_toArray, List.set_cons_zero, List.set_cons_succ]
              refine wpAnyH_ready (rs := [14]) (by kernel_rfl) (by simp) ?_
              refine AllReadyH.cons (o := ?o_14_24_A) ?ho_14_24_A ?hk_14_24_A AllReadyH.nil
              case ho_14_24_A => simp only [List.getElem?_toArray, List.getElem?_cons_succ, List.getElem?_cons_zero]; rfl
              intro K hK
              refine step_append_rd w10 rfl (.tmp 40) (.tmp 43) rfl ints wb.heap.size _ (ys.take m ++ [x]) (ys.drop m) _ _ _ rfl rfl (HD.out _ hU10) own10 hU10.size hq2.out hq3.out ?_
              intro v14 w14 own14 hb14 hg14 hat14 hs14
              have hU14 := hU10.trans hb14
              refine hK.out _ _ (HK.out _ hU14) (fun hHeld => ?_)
              clear hK K
              try simp only [Act.put, List.setIfInBounds_toArray, List.set_cons_zero, List.set_cons_succ]
              refine wpAnyH_take (i := 15) (oi := ?oi_15_25_A) (v := ?v_15_25_A) ?hi_15_25_A ?hs_15_25_A ?hf_15_25_A ?hr_15_25_A ?hQ_15_25_A ?hy_15_25_A (by assumption) ?h_15_25_A
              case hi_15_25_A => simp only [List.getElem?_toArray, List.getElem?_cons_succ, List.getElem?_cons_zero]; rfl
              case hs_15_25_A => kernel_rfl
              case hf_15_25_A => kernel_rfl
              case hr_15_25_A => kernel_rfl
              case hQ_15_25_A => exact fun _ _ _ h => h
              case hy_15_25_A =>
                refine Or.inl ⟨by rfl, fun w hSw => ?_⟩
                (try dsimp only at hSw)
                go_simp
                (try with_reducible rfl)
              try simp only [Act.put, List.setIfInBounds_toArray, List.set_cons_zero, List.set_cons_succ]
              refine wpAnyH_done (by kernel_rfl) ?_ _
              obtain ⟨gz, cz, hvz, hz1, hz2⟩ := own14.form2
              subst hvz
              have HBZ := hide (hbb.trans (hU14.mono hbb.size))
              have HOZ := hide (own14.low hbb.size)
              clear hBx hDx hUA hUB hUC hUD hU0 hA30 hD30 own14 hg14 hat14 hs14 hb14 hU14 HK HT HD hq1 hq2 hq3
              go_wp2_with fail
              go_roundw
              case rel => exact ⟨k + 1, gz, cz, _, by omega, by go_num, rfl, hz1, hz2, HSQ.out, HOZ.out, HBZ.out⟩
              case measure => simp [intOf]; omega
        · have hmn : ¬ ((m : Int) < (ys.length : Int)) := by omega
          have hml3 : (m : Int) ≤ (ys.length : Int) := by omega
          have HML : Hid (m = ys.length) := by show _ = _; omega
          have HSQ := hide (HSP.out m hm HLE.out (fun h => absurd h hml))
          by_cases hcy : cap = m
          · subst hcy
            have hsegw : ∀ wb, Own wb w.heap.size 3 (.slice (some ⟨g, 0, none⟩) ys.length cap) ys → ∀ wz, Below wb.heap.size wb wz → Rd wz (.slice (some ⟨g, 0, none⟩) 0 0) (ys.drop cap) := fun wb ho wz h => by
              have h1 := ((ho.sl.rd).cut (i := cap) (k := ys.length) hm (Nat.le_refl _)).below h
              rwa [if_pos rfl, seg_rest, Nat.sub_self, show ys.length - cap = 0 by have := HML.out; omega] at h1
            go_wp2_with fail
            go_quiet (fail)
            go_wp2_with fail
            generalize hwb : World.drewN _ _ = wb
            have ownb : Own wb w.heap.size 3 (.slice (some ⟨g, 0, none⟩) ys.length cap) ys := by rw [← hwb]; exact hown.drewN _
            have hbb : Below w.heap.size w wb := by rw [← hwb]; exact below_drewN hbel _
            have cb : wb.cell? ⟨gx, ox + k, none⟩ = some (.int .i64 x) := by rw [← hwb]; exact cX
            clear hwb hown hbel cX
            have hgb : gx < wb.heap.size := Nat.lt_of_lt_of_le hgx hbb.size
            have HK := hide (fun wz (h : Below wb.heap.size wb wz) => (h.cell (p := ⟨gx, ox + k, none⟩) hgb).trans cb)
            have HT := hide (fun wz (h : Below wb.heap.size wb wz) => ((ownb.sl.rd).front (m := cap) hm).below h)
            have HD := hide (fun wz (h : Below wb.heap.size wb wz) => hsegw wb ownb wz h)
            have hq1 := hide (show (ys.take cap).length ≤ 1000000000 by simp; omega)
            have hq2 := hide (show (ys.take cap ++ [x]).length ≤ 1000000000 by simp; omega)
            have hq3 := hide (show (ys.drop cap).length ≤ 1000000000 by simp; omega)
            have hU0 : Below wb.heap.size wb wb.drew := (Below.refl _ _).drew
            have hUA : Below wb.heap.size wb (wb.drew.alloc (.cells #[] 3)) := hU0.alloc (Nat.le_refl _) _
            have hUB : Below wb.heap.size wb ((wb.drew.alloc (.cells #[] 3)).alloc (.cells #[.int .i64 x] 3)) := hUA.alloc hUA.size _
            have hUC : Below wb.heap.size wb (wb.drew.alloc (.cells #[.int .i64 x] 3)) := hU0.alloc (Nat.le_refl _) _
            have hUD : Below wb.heap.size wb ((wb.drew.alloc (.cells #[.int .i64 x] 3)).alloc (.cells #[] 3)) := hUC.alloc hUC.size _
            have hA30 : Own (wb.drew.alloc (.cells #[] 3)) wb.heap.size 3 (.slice (some ⟨wb.heap.size, 0, none⟩) 0 0) [] := lit_own [] rfl rfl rfl (by simp) (Nat.le_refl _)
            have hD30 : Own ((wb.drew.alloc (.cells #[.int .i64 x] 3)).alloc (.cells #[] 3)) wb.heap.size 3 (.slice (some ⟨wb.heap.size + 1, 0, none⟩) 0 0) [] := lit_own [] rfl (by simp) rfl (by simp) (by omega)
            have hBx : ((wb.drew.alloc (.cells #[] 3)).alloc (.cells #[.int .i64 x] 3)).heap[wb.heap.size + 1]? = some (.cells #[.int .i64 x] 3) := by
              have := heap_alloc_new (wb.drew.alloc (.cells #[] 3)) (.cells #[.int .i64 x] 3)
              rwa [size_alloc'] at this
            have hDx : ((wb.drew.alloc (.cells #[.int .i64 x] 3)).alloc (.cells #[] 3)).heap[wb.heap.size]? = some (.cells #[.int .i64 x] 3) := by
              rw [heap_alloc_old _ _ (by rw [size_alloc']; exact Nat.lt_succ_self _)]
              exact heap_alloc_new wb.drew (.cells #[.int .i64 x] 3)
            clear cb hsegw
            refine wp_region_held_drew (S := (fun wz : World => wz.cell? ⟨gx, ox + k, none⟩ = some (.int .i64 x))) (by kernel_rfl) (HK.out _ hU0) (fun hHeld => ?_)
            refine wpAnyH_take (i := 1) (oi := ?oi_1_1_B) (v := ?v_1_1_B) ?hi_1_1_B ?hs_1_1_B ?hf_1_1_B ?hr_1_1_B ?hQ_1_1_B ?hy_1_1_B (by assumption) ?h_1_1_B
            case hi_1_1_B => simp only [List.getElem?_toArray, List.getElem?_cons_succ, List.getElem?_cons_zero]; rfl
            case hs_1_1_B => kernel_rfl
            case hf_1_1_B => kernel_rfl
            case hr_1_1_B => kernel_rfl
            case hQ_1_1_B => exact fun _ _ _ h => h
            case hy_1_1_B =>
              refine Or.inl ⟨by rfl, fun w hSw => ?_⟩
              (try dsimp only at hSw)
              go_simp
              (try with_reducible rfl)
            try simp only [Act.put, List.setIfInBounds_toArray, List.set_cons_zero, List.set_cons_succ]
            refine wpAnyH_take (i := 2) (oi := ?oi_2_2_B) (v := ?v_2_2_B) ?hi_2_2_B ?hs_2_2_B ?hf_2_2_B ?hr_2_2_B ?hQ_2_2_B ?hy_2_2_B (by assumption) ?h_2_2_B
            case hi_2_2_B => simp only [List.getElem?_toArray, List.getElem?_cons_succ, List.getElem?_cons_zero]; rfl
            case hs_2_2_B => kernel_rfl
            case hf_2_2_B => kernel_rfl
            case hr_2_2_B => kernel_rfl
            case hQ_2_2_B => exact fun _ _ _ h => h
            case hy_2_2_B =>
              refine Or.inl ⟨by rfl, fun w hSw => ?_⟩
              (try dsimp only at hSw)
              go_simp
              (try with_reducible rfl)
            try simp only [Act.put, List.setIfInBounds_toArray, List.set_cons_zero, List.set_cons_succ]
            refine wpAnyH_take (i := 3) (oi := ?oi_3_3_B) (v := ?v_3_3_B) ?hi_3_3_B ?hs_3_3_B ?hf_3_3_B ?hr_3_3_B ?hQ_3_3_B ?hy_3_3_B (by assumption) ?h_3_3_B
            case hi_3_3_B => simp only [List.getElem?_toArray, List.getElem?_cons_succ, List.getElem?_cons_zero]; rfl
            case hs_3_3_B => kernel_rfl
            case hf_3_3_B => kernel_rfl
            case hr_3_3_B => kernel_rfl
            case hQ_3_3_B => exact fun _ _ _ h => h
            case hy_3_3_B =>
              refine Or.inl ⟨by rfl, fun w hSw => ?_⟩
              (try dsimp only at hSw)
              go_simp
              (try with_reducible rfl)
            try simp only [Act.put, List.setIfInBounds_toArray, List.set_cons_zero, List.set_cons_succ]
            refine wpAnyH_take (i := 5) (oi := ?oi_5_4_B) (v := ?v_5_4_B) ?hi_5_4_B ?hs_5_4_B ?hf_5_4_B ?hr_5_4_B ?hQ_5_4_B ?hy_5_4_B (by assumption) ?h_5_4_B
            case hi_5_4_B => simp only [List.getElem?_toArray, List.getElem?_cons_succ, List.getElem?_cons_zero]; rfl
            case hs_5_4_B => kernel_rfl
            case hf_5_4_B => kernel_rfl
            case hr_5_4_B => kernel_rfl
            case hQ_5_4_B => exact fun _ _ _ h => h
            case hy_5_4_B =>
              refine Or.inl ⟨by rfl, fun w hSw => ?_⟩
              (try dsimp only at hSw)
              go_simp
              (try with_reducible rfl)
            try simp only [Act.put, List.setIfInBounds_toArray, List.set_cons_zero, List.set_cons_succ]
            refine wpAnyH_take (i := 6) (oi := ?oi_6_5_B) (v := ?v_6_5_B) ?hi_6_5_B ?hs_6_5_B ?hf_6_5_B ?hr_6_5_B ?hQ_6_5_B ?hy_6_5_B (by assumption) ?h_6_5_B
            case hi_6_5_B => simp only [List.getElem?_toArray, List.getElem?_cons_succ, List.getElem?_cons_zero]; rfl
            case hs_6_5_B => kernel_rfl
            case hf_6_5_B => kernel_rfl
            case hr_6_5_B => kernel_rfl
            case hQ_6_5_B => exact fun _ _ _ h => h
            case hy_6_5_B =>
              refine Or.inl ⟨by rfl, fun w hSw => ?_⟩
              (try dsimp only at hSw)
              go_simp
              (try with_reducible rfl)
            try simp only [Act.put, List.setIfInBounds_toArray, List.set_cons_zero, List.set_cons_succ]
            refine wpAnyH_take (i := 7) (oi := ?oi_7_6_B) (v := ?v_7_6_B) ?hi_7_6_B ?hs_7_6_B ?hf_7_6_B ?hr_7_6_B ?hQ_7_6_B ?hy_7_6_B (by assumption) ?h_7_6_B
            case hi_7_6_B => simp only [List.getElem?_toArray, List.getElem?_cons_succ, List.getElem?_cons_zero]; rfl
            case hs_7_6_B => kernel_rfl
            case hf_7_6_B => kernel_rfl
            case hr_7_6_B => kernel_rfl
            case hQ_7_6_B => exact fun _ _ _ h => h
            case hy_7_6_B =>
              refine Or.inl ⟨by rfl, fun w hSw => ?_⟩
              (try dsimp only at hSw)
              go_simp
              (try with_reducible rfl)
            try simp only [Act.put, List.setIfInBounds_toArray, List.set_cons_zero, List.set_cons_succ]
            refine wpAnyH_take (i := 8) (oi := ?oi_8_7_B) (v := ?v_8_7_B) ?hi_8_7_B ?hs_8_7_B ?hf_8_7_B ?hr_8_7_B ?hQ_8_7_B ?hy_8_7_B (by assumption) ?h_8_7_B
            case hi_8_7_B => simp only [List.getElem?_toArray, List.getElem?_cons_succ, List.getElem?_cons_zero]; rfl
            case hs_8_7_B => kernel_rfl
            case hf_8_7_B => kernel_rfl
            case hr_8_7_B => kernel_rfl
            case hQ_8_7_B => exact fun _ _ _ h => h
            case hy_8_7_B =>
              refine Or.inl ⟨by rfl, fun w hSw => ?_⟩
              (try dsimp only at hSw)
              go_simp
              (try with_reducible rfl)
            try simp only [Act.put, List.setIfInBounds_toArray, List.set_cons_zero, List.set_cons_succ]
            refine wpAnyH_take (i := 11) (oi := ?oi_11_8_B) (v := ?v_11_8_B) ?hi_11_8_B ?hs_11_8_B ?hf_11_8_B ?hr_11_8_B ?hQ_11_8_B ?hy_11_8_B (by assumption) ?h_11_8_B
            case hi_11_8_B => simp only [List.getElem?_toArray, List.getElem?_cons_succ, List.getElem?_cons_zero]; rfl
            case hs_11_8_B => kernel_rfl
            case hf_11_8_B => kernel_rfl
            case hr_11_8_B => kernel_rfl
            case hQ_11_8_B => exact fun _ _ _ h => h
            case hy_11_8_B =>
              refine Or.inl ⟨by rfl, fun w hSw => ?_⟩
              (try dsimp only at hSw)
              go_simp
              (try with_reducible rfl)
            try simp only [Act.put, List.setIfInBounds_toArray, List.set_cons_zero, List.set_cons_succ]
            refine wpAnyH_take (i := 12) (oi := ?oi_12_9_B) (v := ?v_12_9_B) ?hi_12_9_B ?hs_12_9_B ?hf_12_9_B ?hr_12_9_B ?hQ_12_9_B ?hy_12_9_B (by assumption) ?h_12_9_B
            case hi_12_9_B => simp only [List.getElem?_toArray, List.getElem?_cons_succ, List.getElem?_cons_zero]; rfl
            case hs_12_9_B => kernel_rfl
            case hf_12_9_B => kernel_rfl
            case hr_12_9_B => kernel_rfl
            case hQ_12_9_B => exact fun _ _ _ h => h
            case hy_12_9_B =>
              refine Or.inl ⟨by rfl, fun w hSw => ?_⟩
              (try dsimp only at hSw)
              go_simp
              (try with_reducible rfl)
            try simp only [Act.put, List.setIfInBounds_toArray, List.set_cons_zero, List.set_cons_succ]
            refine wpAnyH_take (i := 13) (oi := ?oi_13_10_B) (v := ?v_13_10_B) ?hi_13_10_B ?hs_13_10_B ?hf_13_10_B ?hr_13_10_B ?hQ_13_10_B ?hy_13_10_B (by assumption) ?h_13_10_B
            case hi_13_10_B => simp only [List.getElem?_toArray, List.getElem?_cons_succ, List.getElem?_cons_zero]; rfl
            case hs_13_10_B => kernel_rfl
            case hf_13_10_B => kernel_rfl
            case hr_13_10_B => kernel_rfl
            case hQ_13_10_B => exact fun _ _ _ h => h
            case hy_13_10_B =>
              refine Or.inl ⟨by rfl, fun w hSw => ?_⟩
              (try dsimp only at hSw)
              go_simp
              (try with_reducible rfl)
            try simp only [Act.put, List.setIfInBounds_toArray, List.set_cons_zero, List.set_cons_succ]
            refine wpAnyH_ready (rs := [0, 9]) (by kernel_rfl) (by simp) ?_
            refine AllReadyH.cons (o := ?o_26_B) ?ho_26_B ?hk_26_B (AllReadyH.cons (o := ?p_26_B) ?hp_26_B ?hl_26_B AllReadyH.nil)
            case ho_26_B => simp only [List.getElem?_toArray, List.getElem?_cons_succ, List.getElem?_cons_zero]; rfl
            case hp_26_B => simp only [List.getElem?_toArray, List.getElem?_cons_succ, List.getElem?_cons_zero]; rfl
            case hk_26_B =>
              intro K hK
              go_simp
              refine hK.out _ _ (HK.out _ hUA) (fun hHeld => ?_)
              clear hK K
              try simp only [Act.put, List.setIfInBounds_toArray, List.set_cons_zero, List.set_cons_succ]
              refine wpAnyH_ready (rs := [4, 9]) (by kernel_rfl) (by simp) ?_
              refine AllReadyH.cons (o := ?o_20_B) ?ho_20_B ?hk_20_B (AllReadyH.cons (o := ?p_20_B) ?hp_20_B ?hl_20_B AllReadyH.nil)
              case ho_20_B => simp only [List.getElem?_toArray, List.getElem?_cons_succ, List.getElem?_cons_zero]; rfl
              case hp_20_B => simp only [List.getElem?_toArray, List.getElem?_cons_succ, List.getElem?_cons_zero]; rfl
              case hk_20_B =>
                intro K hK
                refine step_append_rd (wb.drew.alloc (.cells #[] 3)) rfl (.tmp 30) (.tmp 33) rfl ints wb.heap.size _ [] (ys.take cap) ⟨g, 0, none⟩ cap cap rfl rfl (HT.out _ hUA) hA30 (hUA).size (by simp) hq1.out ?_
                intro v4 w4 own4 hb4 hg4 hat4 hs4
                have hU4 := (hUA).trans hb4
                rw [List.nil_append] at own4
                refine hK.out _ _ (HK.out _ hU4) (fun hHeld => ?_)
                clear hK K
                try simp only [Act.put, List.setIfInBounds_toArray, List.set_cons_zero, List.set_cons_succ]
                refine wpAnyH_ready (rs := [9]) (by kernel_rfl) (by simp) ?_
                refine AllReadyH.cons (o := ?o_9_12_B) ?ho_9_12_B ?hk_9_12_B AllReadyH.nil
                case ho_9_12_B => simp only [List.getElem?_toArray, List.getElem?_cons_succ, List.getElem?_cons_zero]; rfl
                intro K hK
                go_simp
                refine hK.out _ _ (HK.out _ (hU4.trans ((Below.refl _ _).alloc hU4.size _))) (fun hHeld => ?_)
                clear hK K
                try simp only [Act.put, List.setIfInBounds_toArray, List.set_cons_zero, List.set_cons_succ]
                have own4 := own4.alloc (.cells #[.int .i64 x] 3)
                have hU4 := hU4.trans ((Below.refl _ _).alloc hU4.size (.cells #[.int .i64 x] 3))
                have hn4 := hU4.size
                have hx1 : Rd (w4.alloc (.cells #[.int .i64 x] 3)) (.slice (some ⟨w4.heap.size, 0, none⟩) 1 1) [x] := one_row (heap_alloc_new w4 _)
                refine wpAnyH_ready (rs := [10]) (by kernel_rfl) (by simp) ?_
                refine AllReadyH.cons (o := ?o_10_13_B) ?ho_10_13_B ?hk_10_13_B AllReadyH.nil
                case ho_10_13_B => simp only [List.getElem?_toArray, List.getElem?_cons_succ, List.getElem?_cons_zero]; rfl
                intro K hK
                refine step_append_rd (w4.alloc (.cells #[.int .i64 x] 3)) rfl (.tmp 34) (.tmp 39) rfl ints wb.heap.size _ (ys.take cap) [x] ⟨w4.heap.size, 0, none⟩ 1 1 rfl rfl hx1 own4 hn4 hq1.out (by simp) ?_
                intro v10 w10 own10 hb10 hg10 hat10 hs10
                have hU10 := hU4.trans hb10
                refine hK.out _ _ (HK.out _ hU10) (fun hHeld => ?_)
                clear hK K
                try simp only [Act.put, List.setIfInBounds_toArray, List.set_cons_zero, List.set_cons_succ]
                refine wpAnyH_ready (rs := [14]) (by kernel_rfl) (by simp) ?_
                refine AllReadyH.cons (o := ?o_14_14_B) ?ho_14_14_B ?hk_14_14_B AllReadyH.nil
                case ho_14_14_B => simp only [List.getElem?_toArray, List.getElem?_cons_succ, List.getElem?_cons_zero]; rfl
                intro K hK
                refine step_append_rd w10 rfl (.tmp 40) (.tmp 43) rfl ints wb.heap.size _ (ys.take cap ++ [x]) (ys.drop cap) _ _ _ rfl rfl (HD.out _ hU10) own10 hU10.size hq2.out hq3.out ?_
                intro v14 w14 own14 hb14 hg14 hat14 hs14
                have hU14 := hU10.trans hb14
                refine hK.out _ _ (HK.out _ hU14) (fun hHeld => ?_)
                clear hK K
                try simp only [Act.put, List.setIfInBounds_toArray, List.set_cons_zero, List.set_cons_succ]
                refine wpAnyH_take (i := 15) (oi := ?oi_15_15_B) (v := ?v_15_15_B) ?hi_15_15_B ?hs_15_15_B ?hf_15_15_B ?hr_15_15_B ?hQ_15_15_B ?hy_15_15_B (by assumption) ?h_15_15_B
                case hi_15_15_B => simp only [List.getElem?_toArray, List.getElem?_cons_succ, List.getElem?_cons_zero]; rfl
                case hs_15_15_B => kernel_rfl
                case hf_15_15_B => kernel_rfl
                case hr_15_15_B => kernel_rfl
                case hQ_15_15_B => exact fun _ _ _ h => h
                case hy_15_15_B =>
                  refine Or.inl ⟨by rfl, fun w hSw => ?_⟩
                  (try dsimp only at hSw)
                  go_simp
                  (try with_reducible rfl)
                try simp only [Act.put, List.setIfInBounds_toArray, List.set_cons_zero, List.set_cons_succ]
                refine wpAnyH_done (by kernel_rfl) ?_ _
                obtain ⟨gz, cz, hvz, hz1, hz2⟩ := own14.form2
                subst hvz
                have HBZ := hide (hbb.trans (hU14.mono hbb.size))
                have HOZ := hide (own14.low hbb.size)
                clear hBx hDx hUA hUB hUC hUD hU0 hA30 hD30 own14 hg14 hat14 hs14 hb14 hU14 HK HT HD hq1 hq2 hq3
                go_wp2_with fail
                go_roundw
                case rel => exact ⟨k + 1, gz, cz, _, by omega, by go_num, rfl, hz1, hz2, HSQ.out, HOZ.out, HBZ.out⟩
                case measure => simp [intOf]; omega
              case hl_20_B =>
                intro K hK
                go_simp
                refine hK.out _ _ (HK.out _ hUB) (fun hHeld => ?_)
                clear hK K
                try simp only [Act.put, List.setIfInBounds_toArray, List.set_cons_zero, List.set_cons_succ]
                refine wpAnyH_ready (rs := [4]) (by kernel_rfl) (by simp) ?_
                refine AllReadyH.cons (o := ?o_4_16_B) ?ho_4_16_B ?hk_4_16_B AllReadyH.nil
                case ho_4_16_B => simp only [List.getElem?_toArray, List.getElem?_cons_succ, List.getElem?_cons_zero]; rfl
                intro K hK
                refine step_append_rd ((wb.drew.alloc (.cells #[] 3)).alloc (.cells #[.int .i64 x] 3)) rfl (.tmp 30) (.tmp 33) rfl ints wb.heap.size _ [] (ys.take cap) ⟨g, 0, none⟩ cap cap rfl rfl (HT.out _ hUB) (hA30.alloc _) (hUB).size (by simp) hq1.out ?_
                intro v4 w4 own4 hb4 hg4 hat4 hs4
                have hU4 := (hUB).trans hb4
                rw [List.nil_append] at own4
                refine hK.out _ _ (HK.out _ hU4) (fun hHeld => ?_)
                clear hK K
                try simp only [Act.put, List.setIfInBounds_toArray, List.set_cons_zero, List.set_cons_succ]
                have hn4 := hU4.size
                have hx1 : Rd w4 (.slice (some ⟨wb.heap.size + 1, 0, none⟩) 1 1) [x] := one_kept hBx hg4 (by show (some (wb.heap.size + 1) : Option Nat) ≠ some wb.heap.size; simp)
                refine wpAnyH_ready (rs := [10]) (by kernel_rfl) (by simp) ?_
                refine AllReadyH.cons (o := ?o_10_17_B) ?ho_10_17_B ?hk_10_17_B AllReadyH.nil
                case ho_10_17_B => simp only [List.getElem?_toArray, List.getElem?_cons_succ, List.getElem?_cons_zero]; rfl
                intro K hK
                refine step_append_rd w4 rfl (.tmp 34) (.tmp 39) rfl ints wb.heap.size _ (ys.take cap) [x] ⟨wb.heap.size + 1, 0, none⟩ 1 1 rfl rfl hx1 own4 hn4 hq1.out (by simp) ?_
                intro v10 w10 own10 hb10 hg10 hat10 hs10
                have hU10 := hU4.trans hb10
                refine hK.out _ _ (HK.out _ hU10) (fun hHeld => ?_)
                clear hK K
                try simp only [Act.put, List.setIfInBounds_toArray, List.set_cons_zero, List.set_cons_succ]
                refine wpAnyH_ready (rs := [14]) (by kernel_rfl) (by simp) ?_
                refine AllReadyH.cons (o := ?o_14_18_B) ?ho_14_18_B ?hk_14_18_B AllReadyH.nil
                case ho_14_18_B => simp only [List.getElem?_toArray, List.getElem?_cons_succ, List.getElem?_cons_zero]; rfl
                intro K hK
                refine step_append_rd w10 rfl (.tmp 40) (.tmp 43) rfl ints wb.heap.size _ (ys.take cap ++ [x]) (ys.drop cap) _ _ _ rfl rfl (HD.out _ hU10) own10 hU10.size hq2.out hq3.out ?_
                intro v14 w14 own14 hb14 hg14 hat14 hs14
                have hU14 := hU10.trans hb14
                refine hK.out _ _ (HK.out _ hU14) (fun hHeld => ?_)
                clear hK K
                try simp only [Act.put, List.setIfInBounds_toArray, List.set_cons_zero, List.set_cons_succ]
                refine wpAnyH_take (i := 15) (oi := ?oi_15_19_B) (v := ?v_15_19_B) ?hi_15_19_B ?hs_15_19_B ?hf_15_19_B ?hr_15_19_B ?hQ_15_19_B ?hy_15_19_B (by assumption) ?h_15_19_B
                case hi_15_19_B => simp only [List.getElem?_toArray, List.getElem?_cons_succ, List.getElem?_cons_zero]; rfl
                case hs_15_19_B => kernel_rfl
                case hf_15_19_B => kernel_rfl
                case hr_15_19_B => kernel_rfl
                case hQ_15_19_B => exact fun _ _ _ h => h
                case hy_15_19_B =>
                  refine Or.inl ⟨by rfl, fun w hSw => ?_⟩
                  (try dsimp only at hSw)
                  go_simp
                  (try with_reducible rfl)
                try simp only [Act.put, List.setIfInBounds_toArray, List.set_cons_zero, List.set_cons_succ]
                refine wpAnyH_done (by kernel_rfl) ?_ _
                obtain ⟨gz, cz, hvz, hz1, hz2⟩ := own14.form2
                subst hvz
                have HBZ := hide (hbb.trans (hU14.mono hbb.size))
                have HOZ := hide (own14.low hbb.size)
                clear hBx hDx hUA hUB hUC hUD hU0 hA30 hD30 own14 hg14 hat14 hs14 hb14 hU14 HK HT HD hq1 hq2 hq3
                go_wp2_with fail
                go_roundw
                case rel => exact ⟨k + 1, gz, cz, _, by omega, by go_num, rfl, hz1, hz2, HSQ.out, HOZ.out, HBZ.out⟩
                case measure => simp [intOf]; omega
            case hl_26_B =>
              intro K hK
              go_simp
              refine hK.out _ _ (HK.out _ hUC) (fun hHeld => ?_)
              clear hK K
              try simp only [Act.put, List.setIfInBounds_toArray, List.set_cons_zero, List.set_cons_succ]
              refine wpAnyH_ready (rs := [0]) (by kernel_rfl) (by simp) ?_
              refine AllReadyH.cons (o := ?o_0_21_B) ?ho_0_21_B ?hk_0_21_B AllReadyH.nil
              case ho_0_21_B => simp only [List.getElem?_toArray, List.getElem?_cons_succ, List.getElem?_cons_zero]; rfl
              intro K hK
              go_simp
              refine hK.out _ _ (HK.out _ hUD) (fun hHeld => ?_)
              clear hK K
              try simp only [Act.put, List.setIfInBounds_toArray, List.set_cons_zero, List.set_cons_succ]
              refine wpAnyH_ready (rs := [4]) (by kernel_rfl) (by simp) ?_
              refine AllReadyH.cons (o := ?o_4_22_B) ?ho_4_22_B ?hk_4_22_B AllReadyH.nil
              case ho_4_22_B => simp only [List.getElem?_toArray, List.getElem?_cons_succ, List.getElem?_cons_zero]; rfl
              intro K hK
              refine step_append_rd ((wb.drew.alloc (.cells #[.int .i64 x] 3)).alloc (.cells #[] 3)) rfl (.tmp 30) (.tmp 33) rfl ints wb.heap.size _ [] (ys.take cap) ⟨g, 0, none⟩ cap cap rfl rfl (HT.out _ hUD) hD30 (hUD).size (by simp) hq1.out ?_
              intro v4 w4 own4 hb4 hg4 hat4 hs4
              have hU4 := (hUD).trans hb4
              rw [List.nil_append] at own4
              refine hK.out _ _ (HK.out _ hU4) (fun hHeld => ?_)
              clear hK K
              try simp only [Act.put, List.setIfInBounds_toArray, List.set_cons_zero, List.set_cons_succ]
              have hn4 := hU4.size
              have hx1 : Rd w4 (.slice (some ⟨wb.heap.size, 0, none⟩) 1 1) [x] := one_kept hDx hg4 (by show (some wb.heap.size : Option Nat) ≠ some (wb.heap.size + 1); simp)
              refine wpAnyH_ready (rs := [10]) (by kernel_rfl) (by simp) ?_
              refine AllReadyH.cons (o := ?o_10_23_B) ?ho_10_23_B ?hk_10_23_B AllReadyH.nil
              case ho_10_23_B => simp only [List.getElem?_toArray, List.getElem?_cons_succ, List.getElem?_cons_zero]; rfl
              intro K hK
              refine step_append_rd w4 rfl (.tmp 34) (.tmp 39) rfl ints wb.heap.size _ (ys.take cap) [x] ⟨wb.heap.size, 0, none⟩ 1 1 rfl rfl hx1 own4 hn4 hq1.out (by simp) ?_
              intro v10 w10 own10 hb10 hg10 hat10 hs10
              have hU10 := hU4.trans hb10
              refine hK.out _ _ (HK.out _ hU10) (fun hHeld => ?_)
              clear hK K
              try simp only [Act.put, List.setIfInBounds_toArray, List.set_cons_zero, List.set_cons_succ]
              refine wpAnyH_ready (rs := [14]) (by kernel_rfl) (by simp) ?_
              refine AllReadyH.cons (o := ?o_14_24_B) ?ho_14_24_B ?hk_14_24_B AllReadyH.nil
              case ho_14_24_B => simp only [List.getElem?_toArray, List.getElem?_cons_succ, List.getElem?_cons_zero]; rfl
              intro K hK
              refine step_append_rd w10 rfl (.tmp 40) (.tmp 43) rfl ints wb.heap.size _ (ys.take cap ++ [x]) (ys.drop cap) _ _ _ rfl rfl (HD.out _ hU10) own10 hU10.size hq2.out hq3.out ?_
              intro v14 w14 own14 hb14 hg14 hat14 hs14
              have hU14 := hU10.trans hb14
              refine hK.out _ _ (HK.out _ hU14) (fun hHeld => ?_)
              clear hK K
              try simp only [Act.put, List.setIfInBounds_toArray, List.set_cons_zero, List.set_cons_succ]
              refine wpAnyH_take (i := 15) (oi := ?oi_15_25_B) (v := ?v_15_25_B) ?hi_15_25_B ?hs_15_25_B ?hf_15_25_B ?hr_15_25_B ?hQ_15_25_B ?hy_15_25_B (by assumption) ?h_15_25_B
              case hi_15_25_B => simp only [List.getElem?_toArray, List.getElem?_cons_succ, List.getElem?_cons_zero]; rfl
              case hs_15_25_B => kernel_rfl
              case hf_15_25_B => kernel_rfl
              case hr_15_25_B => kernel_rfl
              case hQ_15_25_B => exact fun _ _ _ h => h
              case hy_15_25_B =>
                refine Or.inl ⟨by rfl, fun w hSw => ?_⟩
                (try dsimp only at hSw)
                go_simp
                (try with_reducible rfl)
              try simp only [Act.put, List.setIfInBounds_toArray, List.set_cons_zero, List.set_cons_succ]
              refine wpAnyH_done (by kernel_rfl) ?_ _
              obtain ⟨gz, cz, hvz, hz1, hz2⟩ := own14.form2
              subst hvz
              have HBZ := hide (hbb.trans (hU14.mono hbb.size))
              have HOZ := hide (own14.low hbb.size)
              clear hBx hDx hUA hUB hUC hUD hU0 hA30 hD30 own14 hg14 hat14 hs14 hb14 hU14 HK HT HD hq1 hq2 hq3
              go_wp2_with fail
              go_roundw
              case rel => exact ⟨k + 1, gz, cz, _, by omega, by go_num, rfl, hz1, hz2, HSQ.out, HOZ.out, HBZ.out⟩
              case measure => simp [intOf]; omega
          · have hmi3 : (ys.length : Int) ≤ (cap : Int) := by omega
            have hmi4 : (m : Int) ≤ (cap : Int) := by omega
            have hsegw : ∀ wb, Own wb w.heap.size 3 (.slice (some ⟨g, 0, none⟩) ys.length cap) ys → ∀ wz, Below wb.heap.size wb wz → Rd wz (.slice (some ⟨g, m, none⟩) (ys.length - m) (cap - m)) (ys.drop m) := fun wb ho wz h => by
              have h1 := ((ho.sl.rd).cut (i := m) (k := ys.length) hm (Nat.le_refl _)).below h
              rwa [if_neg hcy, Option.map_some, seg_rest, add_zero_off] at h1
            go_wp2_with fail
            go_quiet (fail)
            go_wp2_with fail
            generalize hwb : World.drewN _ _ = wb
            have ownb : Own wb w.heap.size 3 (.slice (some ⟨g, 0, none⟩) ys.length cap) ys := by rw [← hwb]; exact hown.drewN _
            have hbb : Below w.heap.size w wb := by rw [← hwb]; exact below_drewN hbel _
            have cb : wb.cell? ⟨gx, ox + k, none⟩ = some (.int .i64 x) := by rw [← hwb]; exact cX
            clear hwb hown hbel cX
            have hgb : gx < wb.heap.size := Nat.lt_of_lt_of_le hgx hbb.size
            have HK := hide (fun wz (h : Below wb.heap.size wb wz) => (h.cell (p := ⟨gx, ox + k, none⟩) hgb).trans cb)
            have HT := hide (fun wz (h : Below wb.heap.size wb wz) => ((ownb.sl.rd).front (m := m) hm).below h)
            have HD := hide (fun wz (h : Below wb.heap.size wb wz) => hsegw wb ownb wz h)
            have hq1 := hide (show (ys.take m).length ≤ 1000000000 by simp; omega)
            have hq2 := hide (show (ys.take m ++ [x]).length ≤ 1000000000 by simp; omega)
            have hq3 := hide (show (ys.drop m).length ≤ 1000000000 by simp; omega)
            have hU0 : Below wb.heap.size wb wb.drew := (Below.refl _ _).drew
            have hUA : Below wb.heap.size wb (wb.drew.alloc (.cells #[] 3)) := hU0.alloc (Nat.le_refl _) _
            have hUB : Below wb.heap.size wb ((wb.drew.alloc (.cells #[] 3)).alloc (.cells #[.int .i64 x] 3)) := hUA.alloc hUA.size _
            have hUC : Below wb.heap.size wb (wb.drew.alloc (.cells #[.int .i64 x] 3)) := hU0.alloc (Nat.le_refl _) _
            have hUD : Below wb.heap.size wb ((wb.drew.alloc (.cells #[.int .i64 x] 3)).alloc (.cells #[] 3)) := hUC.alloc hUC.size _
            have hA30 : Own (wb.drew.alloc (.cells #[] 3)) wb.heap.size 3 (.slice (some ⟨wb.heap.size, 0, none⟩) 0 0) [] := lit_own [] rfl rfl rfl (by simp) (Nat.le_refl _)
            have hD30 : Own ((wb.drew.alloc (.cells #[.int .i64 x] 3)).alloc (.cells #[] 3)) wb.heap.size 3 (.slice (some ⟨wb.heap.size + 1, 0, none⟩) 0 0) [] := lit_own [] rfl (by simp) rfl (by simp) (by omega)
            have hBx : ((wb.drew.alloc (.cells #[] 3)).alloc (.cells #[.int .i64 x] 3)).heap[wb.heap.size + 1]? = some (.cells #[.int .i64 x] 3) := by
              have := heap_alloc_new (wb.drew.alloc (.cells #[] 3)) (.cells #[.int .i64 x] 3)
              rwa [size_alloc'] at this
            have hDx : ((wb.drew.alloc (.cells #[.int .i64 x] 3)).alloc (.cells #[] 3)).heap[wb.heap.size]? = some (.cells #[.int .i64 x] 3) := by
              rw [heap_alloc_old _ _ (by rw [size_alloc']; exact Nat.lt_succ_self _)]
              exact heap_alloc_new wb.drew (.cells #[.int .i64 x] 3)
            clear cb hsegw
            refine wp_region_held_drew (S := (fun wz : World => wz.cell? ⟨gx, ox + k, none⟩ = some (.int .i64 x))) (by kernel_rfl) (HK.out _ hU0) (fun hHeld => ?_)
            refine wpAnyH_take (i := 1) (oi := ?oi_1_1_C) (v := ?v_1_1_C) ?hi_1_1_C ?hs_1_1_C ?hf_1_1_C ?hr_1_1_C ?hQ_1_1_C ?hy_1_1_C (by assumption) ?h_1_1_C
            case hi_1_1_C => simp only [List.getElem?_toArray, List.getElem?_cons_succ, List.getElem?_cons_zero]; rfl
            case hs_1_1_C => kernel_rfl
            case hf_1_1_C => kernel_rfl
            case hr_1_1_C => kernel_rfl
            case hQ_1_1_C => exact fun _ _ _ h => h
            case hy_1_1_C =>
              refine Or.inl ⟨by rfl, fun w hSw => ?_⟩
              (try dsimp only at hSw)
              go_simp
              (try with_reducible rfl)
            try simp only [Act.put, List.setIfInBounds_toArray, List.set_cons_zero, List.set_cons_succ]
            refine wpAnyH_take (i := 2) (oi := ?oi_2_2_C) (v := ?v_2_2_C) ?hi_2_2_C ?hs_2_2_C ?hf_2_2_C ?hr_2_2_C ?hQ_2_2_C ?hy_2_2_C (by assumption) ?h_2_2_C
            case hi_2_2_C => simp only [List.getElem?_toArray, List.getElem?_cons_succ, List.getElem?_cons_zero]; rfl
            case hs_2_2_C => kernel_rfl
            case hf_2_2_C => kernel_rfl
            case hr_2_2_C => kernel_rfl
            case hQ_2_2_C => exact fun _ _ _ h => h
            case hy_2_2_C =>
              refine Or.inl ⟨by rfl, fun w hSw => ?_⟩
              (try dsimp only at hSw)
              go_simp
              (try with_reducible rfl)
            try simp only [Act.put, List.setIfInBounds_toArray, List.set_cons_zero, List.set_cons_succ]
            refine wpAnyH_take (i := 3) (oi := ?oi_3_3_C) (v := ?v_3_3_C) ?hi_3_3_C ?hs_3_3_C ?hf_3_3_C ?hr_3_3_C ?hQ_3_3_C ?hy_3_3_C (by assumption) ?h_3_3_C
            case hi_3_3_C => simp only [List.getElem?_toArray, List.getElem?_cons_succ, List.getElem?_cons_zero]; rfl
            case hs_3_3_C => kernel_rfl
            case hf_3_3_C => kernel_rfl
            case hr_3_3_C => kernel_rfl
            case hQ_3_3_C => exact fun _ _ _ h => h
            case hy_3_3_C =>
              refine Or.inl ⟨by rfl, fun w hSw => ?_⟩
              (try dsimp only at hSw)
              go_simp
              (try with_reducible rfl)
            try simp only [Act.put, List.setIfInBounds_toArray, List.set_cons_zero, List.set_cons_succ]
            refine wpAnyH_take (i := 5) (oi := ?oi_5_4_C) (v := ?v_5_4_C) ?hi_5_4_C ?hs_5_4_C ?hf_5_4_C ?hr_5_4_C ?hQ_5_4_C ?hy_5_4_C (by assumption) ?h_5_4_C
            case hi_5_4_C => simp only [List.getElem?_toArray, List.getElem?_cons_succ, List.getElem?_cons_zero]; rfl
            case hs_5_4_C => kernel_rfl
            case hf_5_4_C => kernel_rfl
            case hr_5_4_C => kernel_rfl
            case hQ_5_4_C => exact fun _ _ _ h => h
            case hy_5_4_C =>
              refine Or.inl ⟨by rfl, fun w hSw => ?_⟩
              (try dsimp only at hSw)
              go_simp
              (try with_reducible rfl)
            try simp only [Act.put, List.setIfInBounds_toArray, List.set_cons_zero, List.set_cons_succ]
            refine wpAnyH_take (i := 6) (oi := ?oi_6_5_C) (v := ?v_6_5_C) ?hi_6_5_C ?hs_6_5_C ?hf_6_5_C ?hr_6_5_C ?hQ_6_5_C ?hy_6_5_C (by assumption) ?h_6_5_C
            case hi_6_5_C => simp only [List.getElem?_toArray, List.getElem?_cons_succ, List.getElem?_cons_zero]; rfl
            case hs_6_5_C => kernel_rfl
            case hf_6_5_C => kernel_rfl
            case hr_6_5_C => kernel_rfl
            case hQ_6_5_C => exact fun _ _ _ h => h
            case hy_6_5_C =>
              refine Or.inl ⟨by rfl, fun w hSw => ?_⟩
              (try dsimp only at hSw)
              go_simp
              (try with_reducible rfl)
            try simp only [Act.put, List.setIfInBounds_toArray, List.set_cons_zero, List.set_cons_succ]
            refine wpAnyH_take (i := 7) (oi := ?oi_7_6_C) (v := ?v_7_6_C) ?hi_7_6_C ?hs_7_6_C ?hf_7_6_C ?hr_7_6_C ?hQ_7_6_C ?hy_7_6_C (by assumption) ?h_7_6_C
            case hi_7_6_C => simp only [List.getElem?_toArray, List.getElem?_cons_succ, List.getElem?_cons_zero]; rfl
            case hs_7_6_C => kernel_rfl
            case hf_7_6_C => kernel_rfl
            case hr_7_6_C => kernel_rfl
            case hQ_7_6_C => exact fun _ _ _ h => h
            case hy_7_6_C =>
              refine Or.inl ⟨by rfl, fun w hSw => ?_⟩
              (try dsimp only at hSw)
              go_simp
              (try with_reducible rfl)
            try simp only [Act.put, List.setIfInBounds_toArray, List.set_cons_zero, List.set_cons_succ]
            refine wpAnyH_take (i := 8) (oi := ?oi_8_7_C) (v := ?v_8_7_C) ?hi_8_7_C ?hs_8_7_C ?hf_8_7_C ?hr_8_7_C ?hQ_8_7_C ?hy_8_7_C (by assumption) ?h_8_7_C
            case hi_8_7_C => simp only [List.getElem?_toArray, List.getElem?_cons_succ, List.getElem?_cons_zero]; rfl
            case hs_8_7_C => kernel_rfl
            case hf_8_7_C => kernel_rfl
            case hr_8_7_C => kernel_rfl
            case hQ_8_7_C => exact fun _ _ _ h => h
            case hy_8_7_C =>
              refine Or.inl ⟨by rfl, fun w hSw => ?_⟩
              (try dsimp only at hSw)
              go_simp
              (try with_reducible rfl)
            try simp only [Act.put, List.setIfInBounds_toArray, List.set_cons_zero, List.set_cons_succ]
            refine wpAnyH_take (i := 11) (oi := ?oi_11_8_C) (v := ?v_11_8_C) ?hi_11_8_C ?hs_11_8_C ?hf_11_8_C ?hr_11_8_C ?hQ_11_8_C ?hy_11_8_C (by assumption) ?h_11_8_C
            case hi_11_8_C => simp only [List.getElem?_toArray, List.getElem?_cons_succ, List.getElem?_cons_zero]; rfl
            case hs_11_8_C => kernel_rfl
            case hf_11_8_C => kernel_rfl
            case hr_11_8_C => kernel_rfl
            case hQ_11_8_C => exact fun _ _ _ h => h
            case hy_11_8_C =>
              refine Or.inl ⟨by rfl, fun w hSw => ?_⟩
              (try dsimp only at hSw)
              go_simp
              (try with_reducible rfl)
            try simp only [Act.put, List.setIfInBounds_toArray, List.set_cons_zero, List.set_cons_succ]
            refine wpAnyH_take (i := 12) (oi := ?oi_12_9_C) (v := ?v_12_9_C) ?hi_12_9_C ?hs_12_9_C ?hf_12_9_C ?hr_12_9_C ?hQ_12_9_C ?hy_12_9_C (by assumption) ?h_12_9_C
            case hi_12_9_C => simp only [List.getElem?_toArray, List.getElem?_cons_succ, List.getElem?_cons_zero]; rfl
            case hs_12_9_C => kernel_rfl
            case hf_12_9_C => kernel_rfl
            case hr_12_9_C => kernel_rfl
            case hQ_12_9_C => exact fun _ _ _ h => h
            case hy_12_9_C =>
              refine Or.inl ⟨by rfl, fun w hSw => ?_⟩
              (try dsimp only at hSw)
              go_simp
              (try with_reducible rfl)
            try simp only [Act.put, List.setIfInBounds_toArray, List.set_cons_zero, List.set_cons_succ]
            refine wpAnyH_take (i := 13) (oi := ?oi_13_10_C) (v := ?v_13_10_C) ?hi_13_10_C ?hs_13_10_C ?hf_13_10_C ?hr_13_10_C ?hQ_13_10_C ?hy_13_10_C (by assumption) ?h_13_10_C
            case hi_13_10_C => simp only [List.getElem?_toArray, List.getElem?_cons_succ, List.getElem?_cons_zero]; rfl
            case hs_13_10_C => kernel_rfl
            case hf_13_10_C => kernel_rfl
            case hr_13_10_C => kernel_rfl
            case hQ_13_10_C => exact fun _ _ _ h => h
            case hy_13_10_C =>
              refine Or.inl ⟨by rfl, fun w hSw => ?_⟩
              (try dsimp only at hSw)
              go_simp
              (try with_reducible rfl)
            try simp only [Act.put, List.setIfInBounds_toArray, List.set_cons_zero, List.set_cons_succ]
            refine wpAnyH_ready (rs := [0, 9]) (by kernel_rfl) (by simp) ?_
            refine AllReadyH.cons (o := ?o_26_C) ?ho_26_C ?hk_26_C (AllReadyH.cons (o := ?p_26_C) ?hp_26_C ?hl_26_C AllReadyH.nil)
            case ho_26_C => simp only [List.getElem?_toArray, List.getElem?_cons_succ, List.getElem?_cons_zero]; rfl
            case hp_26_C => simp only [List.getElem?_toArray, List.getElem?_cons_succ, List.getElem?_cons_zero]; rfl
            case hk_26_C =>
              intro K hK
              go_simp
              refine hK.out _ _ (HK.out _ hUA) (fun hHeld => ?_)
              clear hK K
              try simp only [Act.put, List.setIfInBounds_toArray, List.set_cons_zero, List.set_cons_succ]
              refine wpAnyH_ready (rs := [4, 9]) (by kernel_rfl) (by simp) ?_
              refine AllReadyH.cons (o := ?o_20_C) ?ho_20_C ?hk_20_C (AllReadyH.cons (o := ?p_20_C) ?hp_20_C ?hl_20_C AllReadyH.nil)
              case ho_20_C => simp only [List.getElem?_toArray, List.getElem?_cons_succ, List.getElem?_cons_zero]; rfl
              case hp_20_C => simp only [List.getElem?_toArray, List.getElem?_cons_succ, List.getElem?_cons_zero]; rfl
              case hk_20_C =>
                intro K hK
                refine step_append_rd (wb.drew.alloc (.cells #[] 3)) rfl (.tmp 30) (.tmp 33) rfl ints wb.heap.size _ [] (ys.take m) ⟨g, 0, none⟩ m cap rfl rfl (HT.out _ hUA) hA30 (hUA).size (by simp) hq1.out ?_
                intro v4 w4 own4 hb4 hg4 hat4 hs4
                have hU4 := (hUA).trans hb4
                rw [List.nil_append] at own4
                refine hK.out _ _ (HK.out _ hU4) (fun hHeld => ?_)
                clear hK K
                try simp only [Act.put, List.setIfInBounds_toArray, List.set_cons_zero, List.set_cons_succ]
                refine wpAnyH_ready (rs := [9]) (by kernel_rfl) (by simp) ?_
                refine AllReadyH.cons (o := ?o_9_12_C) ?ho_9_12_C ?hk_9_12_C AllReadyH.nil
                case ho_9_12_C => simp only [List.getElem?_toArray, List.getElem?_cons_succ, List.getElem?_cons_zero]; rfl
                intro K hK
                go_simp
                refine hK.out _ _ (HK.out _ (hU4.trans ((Below.refl _ _).alloc hU4.size _))) (fun hHeld => ?_)
                clear hK K
                try simp only [Act.put, List.setIfInBounds_toArray, List.set_cons_zero, List.set_cons_succ]
                have own4 := own4.alloc (.cells #[.int .i64 x] 3)
                have hU4 := hU4.trans ((Below.refl _ _).alloc hU4.size (.cells #[.int .i64 x] 3))
                have hn4 := hU4.size
                have hx1 : Rd (w4.alloc (.cells #[.int .i64 x] 3)) (.slice (some ⟨w4.heap.size, 0, none⟩) 1 1) [x] := one_row (heap_alloc_new w4 _)
                refine wpAnyH_ready (rs := [10]) (by kernel_rfl) (by simp) ?_
                refine AllReadyH.cons (o := ?o_10_13_C) ?ho_10_13_C ?hk_10_13_C AllReadyH.nil
                case ho_10_13_C => simp only [List.getElem?_toArray, List.getElem?_cons_succ, List.getElem?_cons_zero]; rfl
                intro K hK
                refine step_append_rd (w4.alloc (.cells #[.int .i64 x] 3)) rfl (.tmp 34) (.tmp 39) rfl ints wb.heap.size _ (ys.take m) [x] ⟨w4.heap.size, 0, none⟩ 1 1 rfl rfl hx1 own4 hn4 hq1.out (by simp) ?_
                intro v10 w10 own10 hb10 hg10 hat10 hs10
                have hU10 := hU4.trans hb10
                refine hK.out _ _ (HK.out _ hU10) (fun hHeld => ?_)
                clear hK K
                try simp only [Act.put, List.setIfInBounds_toArray, List.set_cons_zero, List.set_cons_succ]
                refine wpAnyH_ready (rs := [14]) (by kernel_rfl) (by simp) ?_
                refine AllReadyH.cons (o := ?o_14_14_C) ?ho_14_14_C ?hk_14_14_C AllReadyH.nil
                case ho_14_14_C => simp only [List.getElem?_toArray, List.getElem?_cons_succ, List.getElem?_cons_zero]; rfl
                intro K hK
                refine step_append_rd w10 rfl (.tmp 40) (.tmp 43) rfl ints wb.heap.size _ (ys.take m ++ [x]) (ys.drop m) _ _ _ rfl rfl (HD.out _ hU10) own10 hU10.size hq2.out hq3.out ?_
                intro v14 w14 own14 hb14 hg14 hat14 hs14
                have hU14 := hU10.trans hb14
                refine hK.out _ _ (HK.out _ hU14) (fun hHeld => ?_)
                clear hK K
                try simp only [Act.put, List.setIfInBounds_toArray, List.set_cons_zero, List.set_cons_succ]
                refine wpAnyH_take (i := 15) (oi := ?oi_15_15_C) (v := ?v_15_15_C) ?hi_15_15_C ?hs_15_15_C ?hf_15_15_C ?hr_15_15_C ?hQ_15_15_C ?hy_15_15_C (by assumption) ?h_15_15_C
                case hi_15_15_C => simp only [List.getElem?_toArray, List.getElem?_cons_succ, List.getElem?_cons_zero]; rfl
                case hs_15_15_C => kernel_rfl
                case hf_15_15_C => kernel_rfl
                case hr_15_15_C => kernel_rfl
                case hQ_15_15_C => exact fun _ _ _ h => h
                case hy_15_15_C =>
                  refine Or.inl ⟨by rfl, fun w hSw => ?_⟩
                  (try dsimp only at hSw)
                  go_simp
                  (try with_reducible rfl)
                try simp only [Act.put, List.setIfInBounds_toArray, List.set_cons_zero, List.set_cons_succ]
                refine wpAnyH_done (by kernel_rfl) ?_ _
                obtain ⟨gz, cz, hvz, hz1, hz2⟩ := own14.form2
                subst hvz
                have HBZ := hide (hbb.trans (hU14.mono hbb.size))
                have HOZ := hide (own14.low hbb.size)
                clear hBx hDx hUA hUB hUC hUD hU0 hA30 hD30 own14 hg14 hat14 hs14 hb14 hU14 HK HT HD hq1 hq2 hq3
                go_wp2_with fail
                go_roundw
                case rel => exact ⟨k + 1, gz, cz, _, by omega, by go_num, rfl, hz1, hz2, HSQ.out, HOZ.out, HBZ.out⟩
                case measure => simp [intOf]; omega
              case hl_20_C =>
                intro K hK
                go_simp
                refine hK.out _ _ (HK.out _ hUB) (fun hHeld => ?_)
                clear hK K
                try simp only [Act.put, List.setIfInBounds_toArray, List.set_cons_zero, List.set_cons_succ]
                refine wpAnyH_ready (rs := [4]) (by kernel_rfl) (by simp) ?_
                refine AllReadyH.cons (o := ?o_4_16_C) ?ho_4_16_C ?hk_4_16_C AllReadyH.nil
                case ho_4_16_C => simp only [List.getElem?_toArray, List.getElem?_cons_succ, List.getElem?_cons_zero]; rfl
                intro K hK
                refine step_append_rd ((wb.drew.alloc (.cells #[] 3)).alloc (.cells #[.int .i64 x] 3)) rfl (.tmp 30) (.tmp 33) rfl ints wb.heap.size _ [] (ys.take m) ⟨g, 0, none⟩ m cap rfl rfl (HT.out _ hUB) (hA30.alloc _) (hUB).size (by simp) hq1.out ?_
                intro v4 w4 own4 hb4 hg4 hat4 hs4
                have hU4 := (hUB).trans hb4
                rw [List.nil_append] at own4
                refine hK.out _ _ (HK.out _ hU4) (fun hHeld => ?_)
                clear hK K
                try simp only [Act.put, List.setIfInBounds_toArray, List.set_cons_zero, List.set_cons_succ]
                have hn4 := hU4.size
                have hx1 : Rd w4 (.slice (some ⟨wb.heap.size + 1, 0, none⟩) 1 1) [x] := one_kept hBx hg4 (by show (some (wb.heap.size + 1) : Option Nat) ≠ some wb.heap.size; simp)
                refine wpAnyH_ready (rs := [10]) (by kernel_rfl) (by simp) ?_
                refine AllReadyH.cons (o := ?o_10_17_C) ?ho_10_17_C ?hk_10_17_C AllReadyH.nil
                case ho_10_17_C => simp only [List.getElem?_toArray, List.getElem?_cons_succ, List.getElem?_cons_zero]; rfl
                intro K hK
                refine step_append_rd w4 rfl (.tmp 34) (.tmp 39) rfl ints wb.heap.size _ (ys.take m) [x] ⟨wb.heap.size + 1, 0, none⟩ 1 1 rfl rfl hx1 own4 hn4 hq1.out (by simp) ?_
                intro v10 w10 own10 hb10 hg10 hat10 hs10
                have hU10 := hU4.trans hb10
                refine hK.out _ _ (HK.out _ hU10) (fun hHeld => ?_)
                clear hK K
                try simp only [Act.put, List.setIfInBounds_toArray, List.set_cons_zero, List.set_cons_succ]
                refine wpAnyH_ready (rs := [14]) (by kernel_rfl) (by simp) ?_
                refine AllReadyH.cons (o := ?o_14_18_C) ?ho_14_18_C ?hk_14_18_C AllReadyH.nil
                case ho_14_18_C => simp only [List.getElem?_toArray, List.getElem?_cons_succ, List.getElem?_cons_zero]; rfl
                intro K hK
                refine step_append_rd w10 rfl (.tmp 40) (.tmp 43) rfl ints wb.heap.size _ (ys.take m ++ [x]) (ys.drop m) _ _ _ rfl rfl (HD.out _ hU10) own10 hU10.size hq2.out hq3.out ?_
                intro v14 w14 own14 hb14 hg14 hat14 hs14
                have hU14 := hU10.trans hb14
                refine hK.out _ _ (HK.out _ hU14) (fun hHeld => ?_)
                clear hK K
                try simp only [Act.put, List.setIfInBounds_toArray, List.set_cons_zero, List.set_cons_succ]
                refine wpAnyH_take (i := 15) (oi := ?oi_15_19_C) (v := ?v_15_19_C) ?hi_15_19_C ?hs_15_19_C ?hf_15_19_C ?hr_15_19_C ?hQ_15_19_C ?hy_15_19_C (by assumption) ?h_15_19_C
                case hi_15_19_C => simp only [List.getElem?_toArray, List.getElem?_cons_succ, List.getElem?_cons_zero]; rfl
                case hs_15_19_C => kernel_rfl
                case hf_15_19_C => kernel_rfl
                case hr_15_19_C => kernel_rfl
                case hQ_15_19_C => exact fun _ _ _ h => h
                case hy_15_19_C =>
                  refine Or.inl ⟨by rfl, fun w hSw => ?_⟩
                  (try dsimp only at hSw)
                  go_simp
                  (try with_reducible rfl)
                try simp only [Act.put, List.setIfInBounds_toArray, List.set_cons_zero, List.set_cons_succ]
                refine wpAnyH_done (by kernel_rfl) ?_ _
                obtain ⟨gz, cz, hvz, hz1, hz2⟩ := own14.form2
                subst hvz
                have HBZ := hide (hbb.trans (hU14.mono hbb.size))
                have HOZ := hide (own14.low hbb.size)
                clear hBx hDx hUA hUB hUC hUD hU0 hA30 hD30 own14 hg14 hat14 hs14 hb14 hU14 HK HT HD hq1 hq2 hq3
                go_wp2_with fail
                go_roundw
                case rel => exact ⟨k + 1, gz, cz, _, by omega, by go_num, rfl, hz1, hz2, HSQ.out, HOZ.out, HBZ.out⟩
                case measure => simp [intOf]; omega
            case hl_26_C =>
              intro K hK
              go_simp
              refine hK.out _ _ (HK.out _ hUC) (fun hHeld => ?_)
              clear hK K
              try simp only [Act.put, List.setIfInBounds_toArray, List.set_cons_zero, List.set_cons_succ]
              refine wpAnyH_ready (rs := [0]) (by kernel_rfl) (by simp) ?_
              refine AllReadyH.cons (o := ?o_0_21_C) ?ho_0_21_C ?hk_0_21_C AllReadyH.nil
              case ho_0_21_C => simp only [List.getElem?_toArray, List.getElem?_cons_succ, List.getElem?_cons_zero]; rfl
              intro K hK
              go_simp
              refine hK.out _ _ (HK.out _ hUD) (fun hHeld => ?_)
              clear hK K
              try simp only [Act.put, List.setIfInBounds_toArray, List.set_cons_zero, List.set_cons_succ]
              refine wpAnyH_ready (rs := [4]) (by kernel_rfl) (by simp) ?_
              refine AllReadyH.cons (o := ?o_4_22_C) ?ho_4_22_C ?hk_4_22_C AllReadyH.nil
              case ho_4_22_C => simp only [List.getElem?_toArray, List.getElem?_cons_succ, List.getElem?_cons_zero]; rfl
              intro K hK
              refine step_append_rd ((wb.drew.alloc (.cells #[.int .i64 x] 3)).alloc (.cells #[] 3)) rfl (.tmp 30) (.tmp 33) rfl ints wb.heap.size _ [] (ys.take m) ⟨g, 0, none⟩ m cap rfl rfl (HT.out _ hUD) hD30 (hUD).size (by simp) hq1.out ?_
              intro v4 w4 own4 hb4 hg4 hat4 hs4
              have hU4 := (hUD).trans hb4
              rw [List.nil_append] at own4
              refine hK.out _ _ (HK.out _ hU4) (fun hHeld => ?_)
              clear hK K
              try simp only [Act.put, List.setIfInBounds_toArray, List.set_cons_zero, List.set_cons_succ]
              have hn4 := hU4.size
              have hx1 : Rd w4 (.slice (some ⟨wb.heap.size, 0, none⟩) 1 1) [x] := one_kept hDx hg4 (by show (some wb.heap.size : Option Nat) ≠ some (wb.heap.size + 1); simp)
              refine wpAnyH_ready (rs := [10]) (by kernel_rfl) (by simp) ?_
              refine AllReadyH.cons (o := ?o_10_23_C) ?ho_10_23_C ?hk_10_23_C AllReadyH.nil
              case ho_10_23_C => simp only [List.getElem?_toArray, List.getElem?_cons_succ, List.getElem?_cons_zero]; rfl
              intro K hK
              refine step_append_rd w4 rfl (.tmp 34) (.tmp 39) rfl ints wb.heap.size _ (ys.take m) [x] ⟨wb.heap.size, 0, none⟩ 1 1 rfl rfl hx1 own4 hn4 hq1.out (by simp) ?_
              intro v10 w10 own10 hb10 hg10 hat10 hs10
              have hU10 := hU4.trans hb10
              refine hK.out _ _ (HK.out _ hU10) (fun hHeld => ?_)
              clear hK K
              try simp only [Act.put, List.setIfInBounds_toArray, List.set_cons_zero, List.set_cons_succ]
              refine wpAnyH_ready (rs := [14]) (by kernel_rfl) (by simp) ?_
              refine AllReadyH.cons (o := ?o_14_24_C) ?ho_14_24_C ?hk_14_24_C AllReadyH.nil
              case ho_14_24_C => simp only [List.getElem?_toArray, List.getElem?_cons_succ, List.getElem?_cons_zero]; rfl
              intro K hK
              refine step_append_rd w10 rfl (.tmp 40) (.tmp 43) rfl ints wb.heap.size _ (ys.take m ++ [x]) (ys.drop m) _ _ _ rfl rfl (HD.out _ hU10) own10 hU10.size hq2.out hq3.out ?_
              intro v14 w14 own14 hb14 hg14 hat14 hs14
              have hU14 := hU10.trans hb14
              refine hK.out _ _ (HK.out _ hU14) (fun hHeld => ?_)
              clear hK K
              try simp only [Act.put, List.setIfInBounds_toArray, List.set_cons_zero, List.set_cons_succ]
              refine wpAnyH_take (i := 15) (oi := ?oi_15_25_C) (v := ?v_15_25_C) ?hi_15_25_C ?hs_15_25_C ?hf_15_25_C ?hr_15_25_C ?hQ_15_25_C ?hy_15_25_C (by assumption) ?h_15_25_C
              case hi_15_25_C => simp only [List.getElem?_toArray, List.getElem?_cons_succ, List.getElem?_cons_zero]; rfl
              case hs_15_25_C => kernel_rfl
              case hf_15_25_C => kernel_rfl
              case hr_15_25_C => kernel_rfl
              case hQ_15_25_C => exact fun _ _ _ h => h
              case hy_15_25_C =>
                refine Or.inl ⟨by rfl, fun w hSw => ?_⟩
                (try dsimp only at hSw)
                go_simp
                (try with_reducible rfl)
              try simp only [Act.put, List.setIfInBounds_toArray, List.set_cons_zero, List.set_cons_succ]
              refine wpAnyH_done (by kernel_rfl) ?_ _
              obtain ⟨gz, cz, hvz, hz1, hz2⟩ := own14.form2
              subst hvz
              have HBZ := hide (hbb.trans (hU14.mono hbb.size))
              have HOZ := hide (own14.low hbb.size)
              clear hBx hDx hUA hUB hUC hUD hU0 hA30 hD30 own14 hg14 hat14 hs14 hb14 hU14 HK HT HD hq1 hq2 hq3
              go_wp2_with fail
              go_roundw
              case rel => exact ⟨k + 1, gz, cz, _, by omega, by go_num, rfl, hz1, hz2, HSQ.out, HOZ.out, HBZ.out⟩
              case measure => simp [intOf]; omega
    · obtain rfl : k = xs.length := by omega
      rw [List.take_length] at hsrt
      go_wp2_with fail
      go_ret
      exact ⟨_, _, rfl, hsrt, hown, hbel⟩
end Go.Proofs.Ytahogdcmnpidiaa
