
/-
  Contracts: PiecesMiss of the program.
-/
import Derived.Test.YtgageljahebjnaaCutM
import Derived.Test.YtgageljahebjnaaPieceI
namespace Go.Proofs.Ytgageljahebjnaa
open Go.RowKit

theorem rdP_front {w : World} {A : Option Addr} {n c k : Nat} {ps : List (Int × Int)} (h : RdP w (.slice A n c) ps) (hk : k ≤ n) : RdP w (.slice A k c) (ps.take k) ∧ (ps.take k).length = k ∧ n = ps.length ∧ n ≤ c := by
  obtain ⟨A', c', hv, hc, hm, hcell⟩ := h
  simp only [Value.slice.injEq] at hv
  obtain ⟨rfl, rfl, rfl⟩ := hv
  have hl : (ps.take k).length = k := by rw [List.length_take]; omega
  refine ⟨⟨A, c, by rw [hl], by omega, hm, fun hp => ?_⟩, hl, rfl, hc⟩
  rw [hl] at hp ⊢
  obtain ⟨g, off, rfl, hg, hcl⟩ := hcell (by omega)
  refine ⟨g, off, rfl, hg, fun j hj => ?_⟩
  have e : pAt (ps.take k) j = pAt ps j := by simp [pAt, List.getD, List.getElem?_take, hj]
  rw [e]
  exact hcl j (by omega)

set_option maxHeartbeats 1000000 in
theorem atMost_c (v : Value) (xs : List Int) (p : Int) (w : World) (hr : Rd w v xs) (hall : allB (-30) 30 xs = true) (h0 : 1 ≤ xs.length) (hn : xs.length ≤ 8) (hp1 : 1 ≤ p) (hp2 : p ≤ 8) :
    Calls Try.prog 51 #[v, .int .i64 p, .func (.func 37) #[] #[]] w fun e w' => e = .returned (.agg #[.int .i64 (aR (mR xs) (p.toNat - 1) xs.length).num, .int .i64 ((aR (mR xs) (p.toNat - 1) xs.length).den : Int)]) ∧ Below w.heap.size w w' := by
  obtain ⟨P, rfl⟩ := Int.eq_ofNat_of_zero_le (show 0 ≤ p by omega)
  have K := hide fun w hr => leastCut_c v xs w hr hall h0 hn
  obtain ⟨k, hk1, hk2, hkP, hmin, hval⟩ : ∃ k : Nat, 1 ≤ k ∧ k ≤ xs.length ∧ k ≤ P ∧ ((P : Int) ≤ (xs.length : Int) ∧ k = P ∨ (xs.length : Int) < (P : Int) ∧ k = xs.length) ∧ Hid (mnF (fun q => eR (mR xs) q xs.length) (k - 1) = aR (mR xs) ((P : Int).toNat - 1) xs.length) := by
    by_cases h : P ≤ xs.length
    · refine ⟨P, by omega, h, Nat.le_refl _, .inl ⟨by omega, rfl⟩, ?_⟩
      show _ = _
      rw [mnF_mnE, mnE_aR h0 _ (by omega)]
      rfl
    · refine ⟨xs.length, h0, Nat.le_refl _, by omega, .inr ⟨by omega, rfl⟩, ?_⟩
      show _ = _
      rw [mnF_mnE, aR_past h0 _ (by simp; omega)]
  have HE : Hid (∀ q, q < xs.length → Sm (eR (mR xs) q xs.length)) := fun q hq => eR_sm hall hn hq (Nat.le_refl _)
  rw [← hval.out]
  obtain ⟨W, hW, hbW, hWs, hRW⟩ := new1 w 24 0 0
  have HRW := hide hRW
  have hrW := hr.below hbW
  clear hRW hall
  go_enter Try.func51, Try.ntmps51
  go_wp2_with fail
  clear hW
  refine (K.out _ hrW).mono ?_
  rintro e w1 ⟨v1, rfl, hs1, hb1⟩
  have hr1 := hs1.rd
  have hln := outL_len (mR xs) xs.length (xs.length - 1)
  obtain ⟨A1, c1, rfl, hc1, hm1, -⟩ := id hr1
  have hlq : (outL (mR xs) xs.length (xs.length - 1)).length = xs.length := by omega
  rw [hlq] at hc1 hr1
  rw [hlq]
  obtain ⟨hrf, hlf, -, -⟩ := rdP_front hr1 hk2
  have HF := hide (And.intro hrf hlf)
  have HAT : Hid (∀ j, j < k → pAt ((outL (mR xs) xs.length (xs.length - 1)).take k) j = frp (eR (mR xs) j xs.length)) := fun j hj => by
    have e : pAt ((outL (mR xs) xs.length (xs.length - 1)).take k) j = pAt (outL (mR xs) xs.length (xs.length - 1)) j := by simp [pAt, List.getD, List.getElem?_take, hj]
    rw [e]
    exact outL_at (mR xs) (by omega)
  have hz1 := hb1.size
  have hbw1 : Below w.heap.size w w1 := hbW.trans (hb1.mono (by omega))
  clear hln hlq hrf hlf hs1 hr1
  have KM := hide fun u (hu : RdP u (.slice A1 k c1) ((outL (mR xs) xs.length (xs.length - 1)).take k)) => minFunc_c (.slice A1 k c1) _ (fun q => eR (mR xs) q xs.length) u hu (by rw [HF.out.2]; exact hk1) (fun j hj => by rw [HF.out.2] at hj; exact ⟨HAT.out j hj, HE.out j (by omega)⟩)
  rw [HF.out.2] at KM
  obtain ⟨M, hM⟩ : ∃ M, mnF (fun q => eR (mR xs) q xs.length) (k - 1) = M := ⟨_, rfl⟩
  rw [hM] at KM
  have HM := hide hM
  clear hM
  rcases hmin with ⟨hle, rfl⟩ | ⟨hlt, rfl⟩
  all_goals
    go_wp2_with fail
    refine (KM.out _ HF.out.1).mono ?_
    rintro e w2 ⟨rfl, hb2⟩
    have hRr := (HRW.out.below hb1 (by omega)).below hb2 (by omega)
    obtain ⟨Z, hZ, hbZ, hPZ, hZs, _⟩ := hRr.put M.num M.den
    obtain ⟨⟨r1, r2⟩, r3, r4⟩ := hRr
    obtain ⟨⟨z1, z2⟩, -, -⟩ := hPZ
    have hz2 := hb2.size
    go_wp2_with fail
    refine bodyPost_ret (v := .agg #[.int .i64 (M).num, .int .i64 ((M).den : Int)]) (by simp [results, Try.results51, go_sem, z1, z2]) rfl ⟨by rw [HM.out], hbw1.trans ((hb2.mono (by omega)).trans hbZ)⟩

theorem cutNo {xs : List Int} {p : Int} (h : ¬ okPT xs p) : (okSteps xs && (decide (1 ≤ p) && decide (p ≤ 8))) = false := by
  cases hk : okSteps xs
  · rfl
  · simp; intro h1; rcases Int.lt_or_le 8 p with h2 | h2
    · exact h2
    · exact absurd ⟨hk, h1, h2⟩ h
set_option maxHeartbeats 400000 in
theorem PiecesMissI_no (v : Value) (xs : List Int) (p : Int) (w : World) (hr : Rd w v xs) (h : ¬ okPT xs p) :
    Calls Try.prog 20 #[v, .int .i64 p] w fun e w' => e = .returned (.tuple #[.agg #[.int .i64 0, .int .i64 0], .bool false]) ∧ Below w.heap.size w w' := by
  have HC := hide (cutNo h)
  have hr' := hr
  obtain ⟨A, c, rfl, hc, hm, _⟩ := hr
  clear h
  go_enter Try.func20, Try.ntmps20
  go_wp2_with fail
  refine (cutValidP_c _ xs p false _ (hr'.alloc _) HC.out).mono ?_
  rintro e w1 ⟨rfl, hb1⟩
  obtain ⟨hc1, hf1⟩ := bcell hb1
  have hz1 := hb1.size
  go_wp2_with fail
  refine bodyPost_ret (v := .tuple #[.agg #[.int .i64 0, .int .i64 0], .bool false]) (by simp [results, Try.results20, go_sem, hc1]) rfl ⟨rfl, ?_⟩
  (repeat (first | exact Below.refl _ _ | assumption | refine Below.setCell ?_ (by first | (simp; done) | omega | (simp; omega) | (simp at *; omega)) _ | refine Below.drew ?_ | refine below_drewN ?_ _ | refine below_alloc' ?_ _ | refine below_to' ?_ (by assumption)))
set_option maxHeartbeats 400000 in
theorem PiecesMissI_yes (v : Value) (xs : List Int) (p : Int) (w : World) (hr : Rd w v xs) (h : okPT xs p) :
    Calls Try.prog 20 #[v, .int .i64 p] w fun e w' => e = .returned (.tuple #[.agg #[.int .i64 (aR (mR xs) (p.toNat - 1) xs.length).num, .int .i64 ((aR (mR xs) (p.toNat - 1) xs.length).den : Int)], .bool true]) ∧ Below w.heap.size w w' := by
  obtain ⟨hok, hp1, hp2⟩ := h
  obtain ⟨hall, hl1, hl2⟩ := okSteps_parts hok
  have HC : Hid ((okSteps xs && (decide (1 ≤ p) && decide (p ≤ 8))) = true) := by show _ = _; rw [hok]; simp; omega
  have K := hide fun w hr => atMost_c v xs p w hr hall hl1 hl2 hp1 hp2
  obtain ⟨M, hM⟩ : ∃ M, aR (mR xs) (p.toNat - 1) xs.length = M := ⟨_, rfl⟩
  rw [hM] at K ⊢
  obtain ⟨W, hW, hbW, hWs, hRW⟩ := new1 w 24 0 0
  have HRW := hide hRW
  have hrW := hr.below hbW
  clear hok hall hM hRW
  go_enter Try.func20, Try.ntmps20
  go_wp2_with fail
  clear hW
  refine (cutValidP_c _ xs p true _ hrW HC.out).mono ?_
  rintro e w1 ⟨rfl, hb1⟩
  have hz1 := hb1.size
  go_wp2_with fail
  refine (K.out _ (hrW.below hb1)).mono ?_
  rintro e w2 ⟨rfl, hb2⟩
  have hz2 := hb2.size
  have hRr := (HRW.out.below hb1 (by omega)).below hb2 (by omega)
  obtain ⟨Z, hZ, hbZ, hPZ, hZs, _⟩ := hRr.put M.num M.den
  obtain ⟨⟨r1, r2⟩, r3, r4⟩ := hRr
  obtain ⟨⟨z1, z2⟩, -, -⟩ := hPZ
  have hbw : Below w.heap.size w w2 := hbW.trans ((hb1.trans (hb2.mono hz1)).mono (by omega))
  go_wp2_with fail
  refine bodyPost_ret (v := .tuple #[.agg #[.int .i64 (M).num, .int .i64 ((M).den : Int)], .bool true]) (by simp [results, Try.results20, go_sem, z1, z2]) rfl ⟨rfl, hbw.trans hbZ⟩
end Go.Proofs.Ytgageljahebjnaa
