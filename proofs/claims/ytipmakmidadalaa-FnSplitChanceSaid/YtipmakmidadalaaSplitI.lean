/-
  Contract: SplitChance of the program.
-/
import Derived.Test.YtipmakmidadalaaSplitB
import Derived.Test.YtipmakmidadalaaSplitC
import Derived.Test.YtipmakmidadalaaConcat
import Derived.Deep.RegionHeld3
namespace Go.Proofs.Ytipmakmidadalaa
open Go.RowKit

theorem blk_lt'' {w : World} {g : Nat} {o : Obj} (h : w.heap[g]? = some o) : g < w.heap.size := (Array.getElem?_eq_some_iff.1 h).1
theorem Rd.kept {w w' : World} {v : Value} {xs : List Int} (h : Rd w v xs) (hz : w.heap.size ≤ w'.heap.size) (hk : 0 < xs.length → ∀ g, v.ownBlock = some g → w'.heap[g]? = w.heap[g]?) : Rd w' v xs := by
  obtain ⟨A, c, rfl, h2, h3, h4⟩ := h
  refine ⟨A, c, rfl, h2, h3, fun hn => ?_⟩
  obtain ⟨g, off, rfl, h6, h7⟩ := h4 hn
  exact ⟨g, off, rfl, by omega, fun j hj => (World.cell?_of_block (hk hn g rfl)).trans (h7 j hj)⟩
theorem Rd.blk {w : World} {v : Value} {xs : List Int} (h : Rd w v xs) (hn : 0 < xs.length) : ∀ g, v.ownBlock = some g → g < w.heap.size := by
  obtain ⟨A, c, rfl, h2, h3, h4⟩ := h
  obtain ⟨g, off, rfl, h6, h7⟩ := h4 hn
  intro g' hg'
  simp [Value.ownBlock] at hg'
  omega
theorem Sl.blk {w : World} {B : Nat} {v : Value} {xs : List Int} (h : Sl w B v xs) (hn : 0 < xs.length) : ∀ g, v.ownBlock = some g → B ≤ g := by
  obtain ⟨A, c, rfl, h2, h3, h4⟩ := h
  obtain ⟨g, off, rfl, h6, h7⟩ := h4 hn
  intro g' hg'
  simp [Value.ownBlock] at hg'
  omega

/-- What holds between two sets. -/
structure Splitting (w w3 : World) (t : Int) (n : Nat) (zs : List Int) (Ba Bm : Nat) (s : Nat) (w' : World) : Prop where
  ha : w'.heap[Ba]? = some (.cells #[.int .i64 (cntP zs n (fun _ => true) s)] 3 (0, 0))
  hm : w'.heap[Bm]? = some (.cells #[.int .i64 (cntP zs n (fun x => decide (t ≤ x)) s)] 3 (0, 0))
  size : w3.heap.size ≤ w'.heap.size
  keep : ∀ g, g < w3.heap.size → g ≠ Ba → g ≠ Bm → w'.heap[g]? = w3.heap[g]?
  below : Below w.heap.size w w'
theorem Splitting.later {w w3 : World} {t : Int} {n : Nat} {zs : List Int} {Ba Bm s : Nat} {w' w'' : World} (h : Splitting w w3 t n zs Ba Bm s w') (hb : Below w'.heap.size w' w'') : Splitting w w3 t n zs Ba Bm s w'' :=
  ⟨(hb.block _ (blk_lt'' h.ha)).trans h.ha, (hb.block _ (blk_lt'' h.hm)).trans h.hm, Nat.le_trans h.size hb.size, fun g hg h1 h2 => (hb.block g (Nat.lt_of_lt_of_le hg h.size)).trans (h.keep g hg h1 h2), below_to' h.below hb⟩
theorem Splitting.skip {w w3 : World} {t : Int} {n : Nat} {zs : List Int} {Ba Bm s : Nat} {w' : World} (h : Splitting w w3 t n zs Ba Bm s w') (hn : (pickL true zs s zs.length).length ≠ n) : Splitting w w3 t n zs Ba Bm (s + 1) w' := by
  refine ⟨?_, ?_, h.size, h.keep, h.below⟩
  · rw [h.ha, cntP_succ, decide_eq_false hn]
    simp [b2i]
  · rw [h.hm, cntP_succ, decide_eq_false hn]
    simp [b2i]
theorem Splitting.next {w w3 : World} {t : Int} {n : Nat} {zs : List Int} {Ba Bm s m : Nat} {w' : World} (h : Splitting w w3 t n zs Ba Bm s w') (hn : (pickL true zs s zs.length).length = n) (hab : Ba ≠ Bm) (hBa : w.heap.size ≤ Ba) (hBm : w.heap.size ≤ Bm) :
    Splitting w w3 t n zs Ba Bm (s + 1) (splitW w' Ba Bm (cntP zs n (fun _ => true) s) (cntP zs n (fun x => decide (t ≤ x)) s) (decide (t ≤ sumL (pickL true zs s zs.length))) m) := by
  have e1 : cntP zs n (fun _ => true) (s + 1) = cntP zs n (fun _ => true) s + 1 := by rw [cntP_succ, decide_eq_true hn]; rfl
  have e2 : cntP zs n (fun x => decide (t ≤ x)) (s + 1) = cntP zs n (fun x => decide (t ≤ x)) s + b2i (decide (t ≤ sumL (pickL true zs s zs.length))) := by rw [cntP_succ, decide_eq_true hn, Bool.true_and]
  have a1 := blkW_set h.ha 0 (.int .i64 (cntP zs n (fun _ => true) s + 1))
  have a2 : (w'.setCell ⟨Ba, 0, none⟩ (.int .i64 (cntP zs n (fun _ => true) s + 1))).heap[Bm]? = _ := (Below.heap_setCell _ _ _ _ (fun e => hab e.symm)).trans h.hm
  have hs : (w'.setCell ⟨Ba, 0, none⟩ (.int .i64 (cntP zs n (fun _ => true) s + 1))).heap.size = w'.heap.size := by simp [World.setCell]
  cases hb : decide (t ≤ sumL (pickL true zs s zs.length))
  · rw [hb] at e2
    rw [splitW]
    refine ⟨by rw [e1]; exact a1, by rw [e2]; simpa [b2i] using a2, by have := h.size; show _ ≤ (World.setCell _ _ _).heap.size; omega, fun g hg h1 h2 => ?_, below_drewN (h.below.setCell hBa _) _⟩
    exact (Below.heap_setCell _ _ _ _ h1).trans (h.keep g hg h1 h2)
  · rw [hb] at e2
    rw [splitW]
    refine ⟨?_, ?_, ?_, fun g hg h1 h2 => ?_, (below_drewN (h.below.setCell hBa _) _).setCell hBm _⟩
    · rw [e1]; exact (Below.heap_setCell _ _ _ _ hab).trans a1
    · rw [e2]; exact blkW_set (w := (w'.setCell ⟨Ba, 0, none⟩ (.int .i64 (cntP zs n (fun _ => true) s + 1))).drewN m) a2 0 _
    · have := h.size
      show _ ≤ (World.setCell _ _ _).heap.size
      simp [World.setCell]
      omega
    · exact (Below.heap_setCell _ _ _ _ h2).trans ((Below.heap_setCell _ _ _ _ h1).trans (h.keep g hg h1 h2))

theorem callFuncSplit (args : Array Value) (w : World) : (callFunc 65 args).run Try.prog w = .ok (.enter 65 args) w := by kernel_rfl

set_option maxHeartbeats 4000000 in
theorem SplitI_c (u v : Value) (xs ys : List Int) (w : World) (hx : Rd w u xs) (hy : Rd w v ys) (hn1 : xs.length ≤ 2000000) (hn2 : ys.length ≤ 2000000) :
    Calls Try.prog 33 #[u, v] w fun e w' => e = .returned (.tuple #[.int .i64 (splitX xs ys), .int .i64 (splitY xs ys)]) ∧ Below w.heap.size w w' := by
  have hmf : ∀ (fn : Fn) (first cap : Array Value) (w : World), (Instr.makeFunc fn first cap).run Try.prog w = .ok (.func fn first cap) w := fun _ _ _ _ => rfl
  have hx' := hx
  have hy' := hy
  obtain ⟨A1, c1, rfl, hc1, hm1, _⟩ := hx
  obtain ⟨A2, c2, rfl, hc2, hm2, _⟩ := hy
  cases hok : okTwo xs ys
  · have HR := hide (split_bad hok)
    go_enter Try.func33, Try.ntmps33
    go_wp2_with fail
    refine (samplesI_c _ _ xs ys false _ (hx'.alloc _) (hy'.alloc _) hn1 hn2 hok).mono ?_
    rintro e w1 ⟨rfl, hb1⟩
    go_wp2_with fail
    go_ret2
    rw [HR.out.1, HR.out.2]
    exact ⟨rfl, by (repeat (first | exact Below.refl _ _ | assumption | refine Below.setCell ?_ (by first | (simp; done) | omega | (simp; omega) | (simp at *; omega)) _ | refine Below.drew ?_ | refine below_drewN ?_ _ | refine below_alloc' ?_ _ | refine below_to' ?_ (by assumption)))⟩
  · have hata := okTwo_all hok
    obtain ⟨hd1, hd2, hsum, hpx, hpy⟩ := hata
    have hzl : (xs ++ ys).length = xs.length + ys.length := List.length_append
    have HZL := hide hzl
    have HALL := hide (And.intro (okData_all hd1).1 (okData_all (okTwo_append hok)).1)
    have HR := hide (split_ok hok)
    obtain ⟨zs, hzs⟩ : ∃ zs, xs ++ ys = zs := ⟨_, rfl⟩
    have HZS := hide hzs
    rw [hzs] at HZL HALL HR
    clear hd1 hd2 hzl hzs
    go_enter Try.func33, Try.ntmps33
    go_wp2_with fail
    refine (samplesI_c _ _ xs ys true _ (hx'.alloc _) (hy'.alloc _) hn1 hn2 hok).mono ?_
    rintro e w1 ⟨rfl, hb1⟩
    go_wp2_with fail
    have hz1 := hb1.size
    have hz1' : w.heap.size < w1.heap.size := by simp at hz1; omega
    obtain ⟨V, hV⟩ : ∃ V, (w1.alloc (.cells #[.int .i64 0] 3)).alloc (.cells #[.int .i64 0] 3) = V := ⟨_, rfl⟩
    rw [hV]
    have hbV : Below w.heap.size w V := by rw [← hV]; (repeat (first | exact Below.refl _ _ | assumption | refine Below.setCell ?_ (by first | (simp; done) | omega | (simp; omega) | (simp at *; omega)) _ | refine Below.drew ?_ | refine below_drewN ?_ _ | refine below_alloc' ?_ _ | refine below_to' ?_ (by assumption)))
    have vm : V.heap[w1.heap.size]? = some (.cells #[.int .i64 0] 3) := by
      rw [← hV, heap_alloc_old _ _ (by rw [size_alloc']; exact Nat.lt_succ_self _)]
      exact heap_alloc_new w1 _
    have va : V.heap[w1.heap.size + 1]? = some (.cells #[.int .i64 0] 3) := by
      have := heap_alloc_new (w1.alloc (.cells #[.int .i64 0] 3)) (.cells #[.int .i64 0] 3)
      rw [size_alloc'] at this
      rw [← hV]; exact this
    have vx : V.heap[w.heap.size]? = some (.cells #[.slice A1 xs.length c1] 22) := by
      rw [← hV, heap_alloc_old _ _ (by rw [size_alloc']; omega), heap_alloc_old _ _ hz1', hb1.block _ (by simp)]
      exact heap_alloc_new w _
    clear hV
    have hzV := hbV.size
    have hgV : w.heap.size < V.heap.size := blk_lt'' vx
    have HK : Hid (∀ wz, Below V.heap.size V wz → wz.cell? ⟨w.heap.size, 0, none⟩ = some (.slice A1 xs.length c1)) := fun wz h => (h.cell (p := ⟨w.heap.size, 0, none⟩) hgV).trans (blkW_cell vx 0)
    have hU0 : Below V.heap.size V V.drew := (Below.refl _ _).drew
    refine wp_region_held_drew (S := (fun wz : World => wz.cell? ⟨w.heap.size, 0, none⟩ = some (.slice A1 xs.length c1))) (by kernel_rfl) (HK.out _ hU0) (fun hHeld => ?_)
    refine wpAnyH_take (i := 0) (oi := ?oi_0_s) (v := ?v_0_s) ?hi_0_s ?hs_0_s ?hf_0_s ?hr_0_s ?hQ_0_s ?hy_0_s (by assumption) ?h_0_s
    case hi_0_s => simp only [List.getElem?_toArray, List.getElem?_cons_succ, List.getElem?_cons_zero]; rfl
    case hs_0_s => kernel_rfl
    case hf_0_s => kernel_rfl
    case hr_0_s => kernel_rfl
    case hQ_0_s => exact fun _ _ _ h => h
    case hy_0_s =>
      refine Or.inl ⟨by rfl, fun w hSw => ?_⟩
      (try dsimp only at hSw)
      go_simp
      (try with_reducible rfl)
    try simp only [Act.put, List.setIfInBounds_toArray, List.set_cons_zero, List.set_cons_succ]
    refine wpAnyH_take (i := 1) (oi := ?oi_1_s) (v := ?v_1_s) ?hi_1_s ?hs_1_s ?hf_1_s ?hr_1_s ?hQ_1_s ?hy_1_s (by assumption) ?h_1_s
    case hi_1_s => simp only [List.getElem?_toArray, List.getElem?_cons_succ, List.getElem?_cons_zero]; rfl
    case hs_1_s => kernel_rfl
    case hf_1_s => kernel_rfl
    case hr_1_s => kernel_rfl
    case hQ_1_s => exact fun _ _ _ h => h
    case hy_1_s =>
      refine Or.inl ⟨by rfl, fun w hSw => ?_⟩
      (try dsimp only at hSw)
      go_simp
      (try with_reducible rfl)
    try simp only [Act.put, List.setIfInBounds_toArray, List.set_cons_zero, List.set_cons_succ]
    refine wpAnyH_take (i := 4) (oi := ?oi_4_s) (v := ?v_4_s) ?hi_4_s ?hs_4_s ?hf_4_s ?hr_4_s ?hQ_4_s ?hy_4_s (by assumption) ?h_4_s
    case hi_4_s => simp only [List.getElem?_toArray, List.getElem?_cons_succ, List.getElem?_cons_zero]; rfl
    case hs_4_s => kernel_rfl
    case hf_4_s => kernel_rfl
    case hr_4_s => kernel_rfl
    case hQ_4_s => exact fun _ _ _ h => h
    case hy_4_s =>
      refine Or.inl ⟨by rfl, fun w hSw => ?_⟩
      (try dsimp only at hSw)
      go_simp
      (try with_reducible rfl)
    try simp only [Act.put, List.setIfInBounds_toArray, List.set_cons_zero, List.set_cons_succ]
    refine wpAnyH_take (i := 5) (oi := ?oi_5_s) (v := ?v_5_s) ?hi_5_s ?hs_5_s ?hf_5_s ?hr_5_s ?hQ_5_s ?hy_5_s (by assumption) ?h_5_s
    case hi_5_s => simp only [List.getElem?_toArray, List.getElem?_cons_succ, List.getElem?_cons_zero]; rfl
    case hs_5_s => kernel_rfl
    case hf_5_s => kernel_rfl
    case hr_5_s => kernel_rfl
    case hQ_5_s => exact fun _ _ _ h => h
    case hy_5_s =>
      refine Or.inl ⟨by rfl, fun w hSw => ?_⟩
      (try dsimp only at hSw)
      go_simp
      (try with_reducible rfl)
    try simp only [Act.put, List.setIfInBounds_toArray, List.set_cons_zero, List.set_cons_succ]
    refine wpAnyH_take (i := 6) (oi := ?oi_6_s) (v := ?v_6_s) ?hi_6_s ?hs_6_s ?hf_6_s ?hr_6_s ?hQ_6_s ?hy_6_s (by assumption) ?h_6_s
    case hi_6_s => simp only [List.getElem?_toArray, List.getElem?_cons_succ, List.getElem?_cons_zero]; rfl
    case hs_6_s => kernel_rfl
    case hf_6_s => kernel_rfl
    case hr_6_s => kernel_rfl
    case hQ_6_s => exact fun _ _ _ h => h
    case hy_6_s =>
      refine Or.inl ⟨by rfl, fun w hSw => ?_⟩
      (try dsimp only at hSw)
      go_simp
      (try with_reducible rfl)
    try simp only [Act.put, List.setIfInBounds_toArray, List.set_cons_zero, List.set_cons_succ]
    refine wpAnyH_ready (rs := [2]) (by kernel_rfl) (by simp) ?_
    refine AllReadyH.cons (o := ?o_2_s) ?ho_2_s ?hk_2_s AllReadyH.nil
    case ho_2_s => simp only [List.getElem?_toArray, List.getElem?_cons_succ, List.getElem?_cons_zero]; rfl
    intro K hK
    go_simp
    obtain ⟨V1, hV1⟩ : ∃ V1, (V.alloc (.cells #[.slice A1 xs.length c1, .slice A2 ys.length c2] 22)).drew = V1 := ⟨_, rfl⟩
    rw [hV1]
    have hU1 : Below V.heap.size V V1 := by rw [← hV1]; exact ((Below.refl _ _).alloc (Nat.le_refl _) _).drew
    have hg1 : V.heap.size < V1.heap.size := by rw [← hV1]; simp
    have hu1 : V1.cell? ⟨V.heap.size, 0, none⟩ = some (.slice A1 xs.length c1) := by rw [← hV1]; simp
    have hv1 : V1.cell? ⟨V.heap.size, 1, none⟩ = some (.slice A2 ys.length c2) := by rw [← hV1]; simp
    clear hV1
    refine hK.out _ _ (HK.out _ hU1) (fun hHeld => ?_)
    clear hK K
    try simp only [Act.put, List.setIfInBounds_toArray, List.set_cons_zero, List.set_cons_succ]
    refine wpAnyH_ready (rs := [3]) (by kernel_rfl) (by simp) ?_
    refine AllReadyH.cons (o := ?o_3_s) ?ho_3_s ?hk_3_s AllReadyH.nil
    case ho_3_s => simp only [List.getElem?_toArray, List.getElem?_cons_succ, List.getElem?_cons_zero]; rfl
    intro K hK
    go_simp
    refine (concat_c V.heap.size _ _ xs ys _ hu1 hv1 hg1 (hx'.below (below_to' hbV hU1)) (hy'.below (below_to' hbV hU1)) (by omega) (by omega) (by omega) (by omega)).mono ?_
    rintro e w3 ⟨v3, rfl, hown3, hb3⟩
    have hU3 : Below V.heap.size V w3 := below_to' hU1 hb3
    go_wp2_with fail
    refine hK.out _ _ (HK.out _ hU3) (fun hHeld => ?_)
    clear hK K
    try simp only [Act.put, List.setIfInBounds_toArray, List.set_cons_zero, List.set_cons_succ]
    refine wpAnyH_ready (rs := [7]) (by kernel_rfl) (by simp) ?_
    refine AllReadyH.cons (o := ?o_7_s) ?ho_7_s ?hk_7_s AllReadyH.nil
    case ho_7_s => simp only [List.getElem?_toArray, List.getElem?_cons_succ, List.getElem?_cons_zero]; rfl
    intro K hK
    go_simp
    rw [HZS.out] at hown3
    have hr3 := hown3.sl
    have vm3 := (hU3.block _ (blk_lt'' vm)).trans vm
    have va3 := (hU3.block _ (blk_lt'' va)).trans va
    have vx3 := (hU3.block _ (blk_lt'' vx)).trans vx
    have hz3 := hU3.size
    have hb03 : Below w.heap.size w w3 := below_to' hbV hU3
    have hBz := blk_lt'' va
    have htwo := two_pow_le (n := zs.length) (by have := HZL.out; omega)
    refine (picks_c 65 _ (Splitting w w3 (sumL xs) xs.length zs (w1.heap.size + 1) w1.heap.size) v3 zs xs.length w3 (by have := HZL.out; omega) callFuncSplit (fun s w w' h hb => h.later hb) ?hR ?hcall (fun s w' _ h hn => h.skip hn) ?hw).mono ?_
    case hw =>
      exact ⟨va3, vm3, Nat.le_refl _, fun _ _ _ _ => rfl, hb03⟩
    case hR =>
      intro s wr hI
      refine hr3.rd.kept hI.size fun hn g hg => hI.keep g (hr3.rd.blk hn g hg) ?_ ?_
      · have := hr3.blk hn g hg; omega
      · have := hr3.blk hn g hg; omega
    case hcall =>
      intro s W w' u1 u2 hs hI hb hlen hsl
      have hI' := hI.later hb
      have hzw := hb.size
      have hWz := hI.size
      have hkx : Rd w' (.slice A1 xs.length c1) xs := hx'.below hI'.below
      have c1b := cntP_bd zs xs.length (fun _ => true) s
      have c2b := cntP_bd zs xs.length (fun x => decide (sumL xs ≤ x)) s
      refine (split1_c u1 u2 (.slice A1 xs.length c1) (pickL true zs s zs.length) xs (w1.heap.size + 1) w.heap.size w1.heap.size _ _ w' ?_ ?_ (pickL_allB HALL.out.2 s _ (Nat.le_refl _)) HALL.out.1 (by omega) (by omega) (fun p hp => ⟨?_, ?_⟩) hI'.ha ((hI'.keep _ (by omega) (by omega) (by omega)).trans vx3) hI'.hm (by omega) (by omega)).mono ?_
      · omega
      · omega
      · refine hsl.rd.kept (by simp [World.setCell]) fun hn g hg => Below.heap_setCell _ _ _ _ ?_
        have := hsl.blk hn g hg
        omega
      · refine hkx.kept (by simp [World.setCell]) fun hn g hg => Below.heap_setCell _ _ _ _ ?_
        have := hx'.blk hn g hg
        omega
      · rintro e w'' ⟨rfl, m, rfl⟩
        exact ⟨rfl, hI'.next hlen (by omega) (by omega) (by omega)⟩
    rintro e w4 ⟨rfl, hI⟩
    go_wp2_with fail
    refine hK.out _ _ (blkW_cell ((hI.keep _ (by omega) (by omega) (by omega)).trans vx3) 0) (fun hHeld => ?_)
    clear hK K
    try simp only [Act.put, List.setIfInBounds_toArray, List.set_cons_zero, List.set_cons_succ]
    refine wpAnyH_done (by kernel_rfl) ?_ _
    have ca4 := blkW_cell hI.ha 0
    have cm4 := blkW_cell hI.hm 0
    have hb4 := hI.below
    rw [cntP_all] at ca4 cm4
    have HF : Hid (waysN zs xs.length (fun _ => true) = splitY xs ys ∧ waysN zs xs.length (fun x => decide (sumL xs ≤ x)) = splitX xs ys) := by
      refine ⟨?_, ?_⟩
      · rw [HR.out.2, waysN_all, HZL.out]
      · rw [HR.out.1, ← HZS.out, atN]
    rw [HF.out.1] at ca4
    rw [HF.out.2] at cm4
    have ca4 : w4.cell? ⟨w1.heap.size + 1, 0, none⟩ = some (.int .i64 (splitY xs ys)) := ca4
    have cm4 : w4.cell? ⟨w1.heap.size, 0, none⟩ = some (.int .i64 (splitX xs ys)) := cm4
    clear hI
    go_wp2_with fail
    go_quiet (fail)
    go_wp2_with fail
    go_ret2
    exact ⟨rfl, below_drewN hb4 _⟩
end Go.Proofs.Ytipmakmidadalaa
