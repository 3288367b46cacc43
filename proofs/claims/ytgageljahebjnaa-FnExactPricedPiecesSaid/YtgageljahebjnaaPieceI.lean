
/-
  Contracts: PiecesTried of the program.
-/
import Derived.Test.YtgageljahebjnaaPieceS
import Derived.Test.YtgageljahebjnaaCuts
namespace Go.Proofs.Ytgageljahebjnaa
open Go.RowKit

theorem blkP_cell {w : World} {g : Nat} {t : TypeId} {cs : Array Value} (h : w.heap[g]? = some (.cells cs t (0, 0))) (i : Nat) : w.cell? ⟨g, i, none⟩ = cs[i]? := cell_of_row w g i cs t (0, 0) h
theorem blkP_frozen {w : World} {g : Nat} {t : TypeId} {cs : Array Value} (h : w.heap[g]? = some (.cells cs t (0, 0))) (i : Nat) : w.frozen? ⟨g, i, none⟩ = false := by simp [World.frozen?, h]
theorem blkP_set {w : World} {g : Nat} {t : TypeId} {cs : Array Value} (h : w.heap[g]? = some (.cells cs t (0, 0))) (i : Nat) (u : Value) : (w.setCell ⟨g, i, none⟩ u).heap[g]? = some (.cells (cs.setIfInBounds i u) t (0, 0)) := by
  simp [World.setCell, Array.getElem?_modify, h]
theorem blkP_lt {w : World} {g : Nat} {o : Obj} (h : w.heap[g]? = some o) : g < w.heap.size := (Array.getElem?_eq_some_iff.1 h).1

set_option maxHeartbeats 400000 in
theorem cutValidP_c (v : Value) (xs : List Int) (p : Int) (b : Bool) (w : World) (hr : Rd w v xs) (hb : (okSteps xs && (decide (1 ≤ p) && decide (p ≤ 8))) = b) :
    Calls Try.prog 36 #[v, .int .i64 p] w fun e w' => e = .returned (.bool b) ∧ Below w.heap.size w w' := by
  cases hok : okSteps xs
  · rw [hok] at hb
    have HB := hide hb
    have HO := hide hok
    clear hok hb
    go_enter Try.func36, Try.ntmps36
    go_wp2_with fail
    refine (rowValid_c _ xs false _ hr HO.out).mono ?_
    rintro e w1 ⟨rfl, hb1⟩
    go_wp2_with fail
    go_ret
    exact ⟨ret_bool HB.out, hb1⟩
  · rw [hok, Bool.true_and] at hb
    have HB := hide hb
    have HO := hide hok
    clear hok hb
    go_enter Try.func36, Try.ntmps36
    go_wp2_with fail
    refine (rowValid_c _ xs true _ hr HO.out).mono ?_
    rintro e w1 ⟨rfl, hb1⟩
    go_wp2_with fail
    refine (in_c b _ _ _ _ HB.out).mono ?_
    rintro e w' ⟨rfl, rfl⟩
    go_wp2_with fail
    go_ret
    exact ⟨rfl, hb1⟩

/-- The world behind one trial. -/
def triedM (w : World) (Bb : Nat) (c : Bool) (m : Rat) : World := if c then (w.setCell ⟨Bb, 0, none⟩ (.int .i64 m.num)).setCell ⟨Bb, 1, none⟩ (.int .i64 (m.den : Int)) else w

set_option maxHeartbeats 2000000 in
theorem piecesTried1_c (u : Value) (xss : List (List Int)) (p : Int) (b : Rat) (Bp Bb : Nat) (w : World) (hr : RdSS w u xss) (hp : w.heap[Bp]? = some (.cells #[.int .i64 p] 3 (0, 0)))
    (hb : w.heap[Bb]? = some (.cells #[.int .i64 b.num, .int .i64 (b.den : Int)] 24 (0, 0)))
    (hne : ∀ l ∈ xss, l ≠ [] ∧ allB (-30) 30 l = true) (hfl : xss.flatten.length ≤ 8) (hsb : Sm b) :
    Calls Try.prog 39 #[u, .pointer (some ⟨Bp, 0, none⟩), .pointer (some ⟨Bb, 0, none⟩)] w fun e w' => e = .returned (.tuple #[]) ∧
      ∃ w2, Below w.heap.size w w2 ∧ w' = triedM w2 Bb (decide ((xss.length : Int) ≤ p) && decide (mss xss < b)) (mss xss) := by
  have hrr := hr
  obtain ⟨A, c, rfl, hc, hm, hcell⟩ := hr
  have hpl := blkP_lt hp
  have hbl := blkP_lt hb
  have HCP : Hid (w.cell? ⟨Bp, 0, none⟩ = some (.int .i64 p)) := blkP_cell hp 0
  have HCB : Hid (Pr w Bb b.num (b.den : Int)) := ⟨⟨blkP_cell hb 0, blkP_cell hb 1⟩, blkP_frozen hb 0, blkP_frozen hb 1⟩
  have HN := hide hne
  have HSM : Hid (∀ k, k ≤ xss.length → Sm (mss (xss.take k))) := fun k hk => by
    have h1 : (xss.take k).flatten.length ≤ 8 := by
      have : xss.flatten = (xss.take k).flatten ++ (xss.drop k).flatten := by rw [← List.flatten_append, List.take_append_drop]
      have := congrArg List.length this
      rw [List.length_append] at this
      omega
    exact sm_840 (mss_fb (fun l hl => hne l (List.mem_of_mem_take hl)) h1) (by omega)
  have HFL : Hid (∀ k (hk : k < xss.length), 0 < xss[k].length ∧ xss[k].length ≤ 8) := fun k hk => by
    have h1 := (hne xss[k] (List.getElem_mem hk)).1
    have h2 : xss[k].length ≤ xss.flatten.length := (List.sublist_flatten_of_mem (List.getElem_mem hk)).length_le
    have h3 : 0 < xss[k].length := List.length_pos_iff.2 h1
    omega
  have W0 := hide fun w => whole_c 0 w
  obtain ⟨M, hM⟩ : ∃ M, mss xss = M := ⟨_, rfl⟩
  have sM := HSM.out xss.length (Nat.le_refl _)
  rw [List.take_length, hM] at sM
  have KL := hide fun v => lessI_c M b v sM hsb
  rw [hM]
  have HM := hide hM
  have hd1 : ∀ h : (xss.length : Int) ≤ p, decide ((xss.length : Int) ≤ p) = true := fun h => decide_eq_true h
  have hd2 : ∀ h : ¬ (xss.length : Int) ≤ p, decide ((xss.length : Int) ≤ p) = false := fun h => decide_eq_false h
  have HD1 := hide hd1
  have HD2 := hide hd2
  obtain ⟨dp, hdp⟩ : ∃ d, decide ((xss.length : Int) ≤ p) = d := ⟨_, rfl⟩
  obtain ⟨dm, hdm⟩ : ∃ d, decide (M < b) = d := ⟨_, rfl⟩
  rw [hdp] at HD1 HD2 ⊢
  rw [hdm] at KL ⊢
  clear hne hp hb hfl hM sM hd1 hd2 hdp hdm
  go_enter Try.func39, Try.ntmps39
  go_wp2_with fail
  refine (W0.out _).mono ?_
  rintro e w1 ⟨rfl, hb1⟩
  have hs1 := hb1.size
  have HZ : Hid (mss (xss.take 0) = ((0 : Int) : Rat)) := by show _ = _; rw [List.take_zero, mss_nil]; rfl
  obtain ⟨z0, hz0⟩ : ∃ z : Rat, ((0 : Int) : Rat) = z := ⟨_, rfl⟩
  rw [hz0] at HZ ⊢
  clear hz0
  obtain ⟨V, hV, hbV, hVs, hPV⟩ := new1 w1 24 z0.num z0.den
  have HPV := hide hPV
  have hbwV : Below w.heap.size w V := hb1.trans (hbV.mono hs1)
  clear hPV
  go_wp2_with fail
  clear hV
  go_loopw [10] (fun i wr => ∃ k : Nat, k ≤ xss.length ∧ i = .int .i64 k ∧ Hid (Below w1.heap.size V wr ∧ Pr wr w1.heap.size (mss (xss.take k)).num ((mss (xss.take k)).den : Int))) (fun i _ => xss.length - (intOf i).toNat)
  case atStart => exact ⟨0, by omega, rfl, Below.refl _ _, by rw [HZ.out]; exact HPV.out⟩
  case round =>
    obtain ⟨k, hk, rfl, hwr⟩ := hrel
    have hbel := hwr.out.1
    have hzr := hbel.size
    have hbw : Below w.heap.size w wr := hbwV.trans (hbel.mono (by omega))
    by_cases hlt : k < xss.length
    · obtain ⟨g, off, rfl, hg, hcl⟩ := hcell (by omega)
      obtain ⟨x, hx, hrx⟩ := hcl k hlt
      have hgd : xss.getD k [] = xss[k] := by simp [List.getD, hlt]
      rw [hgd] at hrx
      have hxr := (hbw.cell (p := ⟨g, off + k, none⟩) hg).trans hx
      have hrr2 := hrx.below hbw
      obtain ⟨hl0, hl8⟩ := HFL.out k hlt
      obtain ⟨hl, hal⟩ := HN.out xss[k] (List.getElem_mem hlt)
      have s1 := HSM.out k (by omega)
      have s2 := missR_sm hal hl0 hl8
      have HT := hide (mss_take hlt)
      have K1 := hide fun v (hv : Below wr.heap.size wr v) => pieceMiss_c x xss[k] v (hrr2.below hv) hal hl8 hl0
      have K2 := hide fun v => plusI_c (mss (xss.take k)) (missR xss[k]) v s1 s2
      obtain ⟨M, hM⟩ : ∃ M, mss (xss.take k) = M := ⟨_, rfl⟩
      obtain ⟨R, hR⟩ : ∃ M, missR xss[k] = M := ⟨_, rfl⟩
      obtain ⟨M1, hM1⟩ : ∃ M, mss (xss.take (k + 1)) = M := ⟨_, rfl⟩
      rw [hM, hR, hM1] at HT
      rw [hR] at K1
      rw [hM, hR, ← HT.out] at K2
      have hpm := hwr.out.2
      rw [hM] at hpm
      have HPM := hide hpm
      have HM1 := hide hM1
      obtain ⟨⟨a1, a2⟩, a3, a4⟩ := hpm
      have k1 := cell_grn (Below.refl wr.heap.size wr) (by omega) a1
      have k2 := cell_grn (Below.refl wr.heap.size wr) (by omega) a2
      clear hM hR hM1 hcl hx hrx hgd hcell hl hal s1 s2 a1 a2 a3 a4 hrr2 hrr
      go_wp2_with fail
      refine wp_region_below_tail 4 (by kernel_rfl) (by kernel_rfl) ?_
      simp only [List.take_succ_cons, List.take_zero, List.drop_succ_cons, List.drop_zero]
      repeat (go_big_quiet_step ((first | (go_at_call 37; with_reducible exact calls_grn' K1.out) | (go_at_call 33; with_reducible exact calls_grn K2.out))))
      refine wpQuiet_nil ?_
      intro w6 hb6
      have hpr6 := HPM.out.below hb6 (by omega)
      obtain ⟨Z, hZ, hbZ, hPZ, hZs, _⟩ := hpr6.put M1.num M1.den
      obtain ⟨⟨a1, a2⟩, a3, a4⟩ := hpr6
      have HPZ := hide hPZ
      clear k1 k2 hPZ
      go_wp2_with fail
      clear hZ
      go_roundw
      case rel => exact ⟨k + 1, by omega, by go_num, hbel.trans ((hb6.mono (by omega)).trans hbZ), by rw [HM1.out]; exact HPZ.out⟩
      case measure => simp [intOf]; omega
    · obtain rfl : k = xss.length := by omega
      have hpm := hwr.out.2
      rw [List.take_length, HM.out] at hpm
      have cp := (hbw.cell (p := ⟨Bp, 0, none⟩) hpl).trans HCP.out
      have hpb := HCB.out.below hbw hbl
      have HPM := hide hpm
      have HPB := hide hpb
      obtain ⟨⟨a1, a2⟩, a3, a4⟩ := hpm
      obtain ⟨⟨b1, b2⟩, b3, b4⟩ := hpb
      clear hcell hwr
      by_cases hle : (xss.length : Int) ≤ p
      · obtain rfl := HD1.out (by omega)
        go_wp2_with fail
        refine (KL.out _).mono ?_
        rintro e w3 ⟨rfl, hb3⟩
        have hs3 := hb3.size
        have hpm3 := HPM.out.below hb3 (by omega)
        have hpb3 := HPB.out.below hb3 (by omega)
        clear a1 a2 a3 a4 b1 b2 b3 b4
        cases dm
        · go_wp2_with fail
          go_end0
          exact ⟨rfl, w3, hbw.trans (hb3.mono (by omega)), rfl⟩
        · obtain ⟨⟨a1, a2⟩, a3, a4⟩ := hpm3
          obtain ⟨⟨b1, b2⟩, b3, b4⟩ := hpb3
          go_wp2_with fail
          go_end0
          exact ⟨rfl, w3, hbw.trans (hb3.mono (by omega)), rfl⟩
      · obtain rfl := HD2.out (by omega)
        go_wp2_with fail
        go_end0
        exact ⟨rfl, wr, hbw, rfl⟩

/-- What holds between two trials. -/
structure TryingM (W : World) (xs : List Int) (p : Int) (Bb : Nat) (s : Nat) (w : World) : Prop where
  hb : w.heap[Bb]? = some (.cells #[.int .i64 (bstM xs p s).num, .int .i64 ((bstM xs p s).den : Int)] 24 (0, 0))
  below : Below Bb W w
theorem TryingM.later {W : World} {xs : List Int} {p : Int} {Bb s : Nat} {w w' : World} (h : TryingM W xs p Bb s w) (hb : Below w.heap.size w w') : TryingM W xs p Bb s w' :=
  ⟨(hb.block _ (blkP_lt h.hb)).trans h.hb, h.below.trans (hb.mono (Nat.le_of_lt (blkP_lt h.hb)))⟩

theorem callFuncPT (args : Array Value) (w : World) : (callFunc 39 args).run Try.prog w = .ok (.enter 39 args) w := by kernel_rfl

set_option maxHeartbeats 400000 in
theorem PiecesTriedI_no (v : Value) (xs : List Int) (p : Int) (w : World) (hr : Rd w v xs) (h : ¬ okPT xs p) :
    Calls Try.prog 14 #[v, .int .i64 p] w fun e w' => e = .returned (.tuple #[.agg #[.int .i64 0, .int .i64 0], .bool false]) ∧ Below w.heap.size w w' := by
  have HC : Hid ((okSteps xs && (decide (1 ≤ p) && decide (p ≤ 8))) = false) := by
    show _ = _
    cases hk : okSteps xs
    · rfl
    · simp; intro h1; rcases Int.lt_or_le 8 p with h2 | h2
      · exact h2
      · exact absurd ⟨hk, h1, h2⟩ h
  have hr' := hr
  obtain ⟨A, c, rfl, hc, hm, _⟩ := hr
  clear h
  go_enter Try.func14, Try.ntmps14
  go_wp2_with fail
  refine (cutValidP_c _ xs p false _ ((hr'.alloc _).alloc _) HC.out).mono ?_
  rintro e w1 ⟨rfl, hb1⟩
  obtain ⟨hc1, hf1⟩ := bcell hb1
  have hz1 := hb1.size
  go_wp2_with fail
  refine bodyPost_ret (v := .tuple #[.agg #[.int .i64 0, .int .i64 0], .bool false]) (by simp [results, Try.results14, go_sem, hc1]) rfl ⟨rfl, ?_⟩
  (repeat (first | exact Below.refl _ _ | assumption | refine Below.setCell ?_ (by first | (simp; done) | omega | (simp; omega) | (simp at *; omega)) _ | refine Below.drew ?_ | refine below_drewN ?_ _ | refine below_alloc' ?_ _ | refine below_to' ?_ (by assumption)))

set_option maxHeartbeats 1000000 in
theorem PiecesTriedI_yes (v : Value) (xs : List Int) (p : Int) (w : World) (hr : Rd w v xs) (h : okPT xs p) :
    Calls Try.prog 14 #[v, .int .i64 p] w fun e w' => ∃ r : Rat, e = .returned (.tuple #[.agg #[.int .i64 (r).num, .int .i64 ((r).den : Int)], .bool true]) ∧ IsPT xs p r ∧ Below w.heap.size w w' := by
  have hmf : ∀ (fn : Fn) (first cap : Array Value) (w : World), (Instr.makeFunc fn first cap).run Try.prog w = .ok (.func fn first cap) w := fun _ _ _ _ => rfl
  obtain ⟨hok, hp1, hp2⟩ := h
  obtain ⟨hall, hl1, hl2⟩ := okSteps_parts hok
  have HC : Hid ((okSteps xs && (decide (1 ≤ p) && decide (p ≤ 8))) = true) := by show _ = _; rw [hok]; simp; omega
  have HA := hide hall
  have HR := hide (bstM_IsPT (xs := xs) (p := p) hl1 hp1)
  have HSM : Hid (∀ s, Sm (bstM xs p s)) := fun s => (bstM_spec hl1 hp1 s).1.sm hall hl2
  have HS : Hid (missR xs = bstM xs p 0) := rfl
  have HPA : Hid (∀ s, ∀ l ∈ partsOf xs s, l ≠ [] ∧ allB (-30) 30 l = true) := fun s l hl => ⟨partsM_ne xs s l hl, allB_sub hall fun y hy => by
    rw [← partsOf_flat xs s]; exact List.mem_flatten.2 ⟨l, hl, hy⟩⟩
  have hr' := hr
  obtain ⟨A, c, rfl, hc, hm, _⟩ := hr
  clear hok hall
  obtain ⟨W, hW, hbW, hWs, hbox, hres⟩ : ∃ W, (w.alloc (.cells #[.int .i64 p] 3)).alloc (.cells #[.int .i64 0, .int .i64 0] 24) = W ∧ Below w.heap.size w W ∧ W.heap.size = w.heap.size + 1 + 1 ∧
      W.heap[w.heap.size]? = some (.cells #[.int .i64 p] 3 (0, 0)) ∧ W.heap[w.heap.size + 1]? = some (.cells #[.int .i64 0, .int .i64 0] 24 (0, 0)) := by
    refine ⟨_, rfl, by (repeat (first | exact Below.refl _ _ | assumption | refine Below.setCell ?_ (by first | (simp; done) | omega | (simp; omega) | (simp at *; omega)) _ | refine Below.drew ?_ | refine below_drewN ?_ _ | refine below_alloc' ?_ _ | refine below_to' ?_ (by assumption))), by simp, ?_, ?_⟩
    · rw [Below.heap_alloc _ _ _ (by simp)]; exact heap_alloc_new w _
    · have := heap_alloc_new (w.alloc (.cells #[.int .i64 p] 3)) (.cells #[.int .i64 0, .int .i64 0] 24)
      rw [size_alloc'] at this
      exact this
  have cbox : W.cell? ⟨w.heap.size, 0, none⟩ = some (.int .i64 p) := blkP_cell hbox 0
  have HBOX := hide (And.intro hbox hres)
  have hrW := hr'.below hbW
  clear hbox hres
  go_enter Try.func14, Try.ntmps14
  go_wp2_with fail
  clear hW
  refine (cutValidP_c _ xs p true _ hrW HC.out).mono ?_
  rintro e w1 ⟨rfl, hb1⟩
  have hz1 := hb1.size
  have hr1 := hrW.below hb1
  clear cbox
  go_wp2_with fail
  refine (pieceMiss_c _ xs _ hr1 HA.out hl2 hl1).mono ?_
  rintro e w2 ⟨rfl, hb2⟩
  have hz2 := hb2.size
  rw [HS.out]
  obtain ⟨b0, hb0⟩ : ∃ b, bstM xs p 0 = b := ⟨_, rfl⟩
  have HB0 := hide hb0
  rw [hb0]
  clear hb0
  obtain ⟨V, hV, hbV, hVs, hbst⟩ : ∃ V, w2.alloc (.cells #[.int .i64 b0.num, .int .i64 (b0.den : Int)] 24) = V ∧ Below w2.heap.size w2 V ∧ V.heap.size = w2.heap.size + 1 ∧ V.heap[w2.heap.size]? = some (.cells #[.int .i64 b0.num, .int .i64 (b0.den : Int)] 24 (0, 0)) :=
    ⟨_, rfl, by (repeat (first | exact Below.refl _ _ | assumption | refine Below.setCell ?_ (by first | (simp; done) | omega | (simp; omega) | (simp at *; omega)) _ | refine Below.drew ?_ | refine below_drewN ?_ _ | refine below_alloc' ?_ _ | refine below_to' ?_ (by assumption))), by simp, heap_alloc_new w2 _⟩
  have HBST := hide hbst
  have hbWV : Below W.heap.size W V := hb1.trans ((hb2.mono hz1).trans (hbV.mono (by omega)))
  have hbox := (hbWV.block _ (show w.heap.size < W.heap.size by omega)).trans HBOX.out.1
  have hres := (hbWV.block _ (show w.heap.size + 1 < W.heap.size by omega)).trans HBOX.out.2
  have HBOXV := hide (And.intro hbox hres)
  have hbwV : Below w.heap.size w V := hbW.trans (hbWV.mono (by omega))
  clear hbst hbox hres
  go_wp2_with fail
  clear hV
  refine (cuts_c 39 _ (TryingM V xs p w2.heap.size) _ xs _ hl1 hl2 callFuncPT (fun s w w' h hb => h.later hb) (fun s w' h => ?hR) ?hcall ?hw).mono ?_
  case hw =>
    refine ⟨?_, Below.refl _ _⟩
    rw [HB0.out]
    exact HBST.out
  case hR => exact hr'.below (hbwV.trans (h.below.mono (by omega)))
  case hcall =>
    intro s w' u hs hI hrs
    refine (piecesTried1_c u _ p _ w.heap.size w2.heap.size w' hrs ((hI.below.block _ (by omega)).trans HBOXV.out.1) hI.hb (HPA.out s) (by rw [partsOf_flat]; omega) (HSM.out s)).mono ?_
    rintro e w3 ⟨rfl, w4, hb4, rfl⟩
    refine ⟨rfl, ?_⟩
    have hI4 := hI.later hb4
    cases hcond : (decide (((partsOf xs s).length : Int) ≤ p) && decide (mss (partsOf xs s) < bstM xs p s))
    · have hne : ¬ (((partsOf xs s).length : Int) ≤ p ∧ mss (partsOf xs s) < bstM xs p s) := by
        intro ⟨q1, q2⟩
        rw [decide_eq_true q1, decide_eq_true q2] at hcond
        exact absurd hcond (by decide)
      refine ⟨?_, hI4.below⟩
      rw [bstM_succ, if_neg hne]
      exact hI4.hb
    · have hyes : ((partsOf xs s).length : Int) ≤ p ∧ mss (partsOf xs s) < bstM xs p s := by
        rw [Bool.and_eq_true] at hcond
        exact ⟨of_decide_eq_true hcond.1, of_decide_eq_true hcond.2⟩
      refine ⟨?_, (hI4.below.setCell (Nat.le_refl _) _).setCell (Nat.le_refl _) _⟩
      rw [bstM_succ, if_pos hyes]
      have q1 := blkP_set hI4.hb 0 (.int .i64 (mss (partsOf xs s)).num)
      exact blkP_set q1 1 (.int .i64 ((mss (partsOf xs s)).den : Int))
  rintro e w3 ⟨rfl, hI⟩
  obtain ⟨R, hR⟩ : ∃ R, bstM xs p (2 ^ (xs.length - 1)) = R := ⟨_, rfl⟩
  have hb := hI.hb
  have hbel := hI.below
  rw [hR] at hb
  rw [hR] at HR
  have r0 := (hbel.block _ (show w.heap.size + 1 < w2.heap.size by omega)).trans HBOXV.out.2
  have c0 := blkP_cell hb 0
  have c1 := blkP_cell hb 1
  have hPR : Pr w3 (w.heap.size + 1) 0 0 := ⟨⟨blkP_cell r0 0, blkP_cell r0 1⟩, blkP_frozen r0 0, blkP_frozen r0 1⟩
  obtain ⟨Z, hZ, hbZ, hPZ, hZs, _⟩ := hPR.put R.num R.den
  obtain ⟨⟨a1, a2⟩, a3, a4⟩ := hPR
  obtain ⟨⟨z1, z2⟩, _, _⟩ := hPZ
  have hbw3 : Below w.heap.size w w3 := hbwV.trans (hbel.mono (by omega))
  have c0 : w3.cell? ⟨w2.heap.size, 0, none⟩ = some (.int .i64 R.num) := c0
  have c1 : w3.cell? ⟨w2.heap.size, 1, none⟩ = some (.int .i64 (R.den : Int)) := c1
  clear hI hb r0 hR
  go_wp2_with fail
  refine bodyPost_ret (v := .tuple #[.agg #[.int .i64 (R).num, .int .i64 ((R).den : Int)], .bool true]) (by simp [results, Try.results14, go_sem, z1, z2]) rfl ⟨R, rfl, HR.out, hbw3.trans (hbZ.mono (by omega))⟩
end Go.Proofs.Ytgageljahebjnaa
