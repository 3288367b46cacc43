
/-
  Contracts: PiecesMiss of the reference.
-/
import Derived.Test.YtgageljahebjnaaCutT
import Derived.Test.YtgageljahebjnaaPieceS
namespace Go.Proofs.Ytgageljahebjnaa
open Go.RowKit

/-- The last fraction of row j. -/
theorem RowsP.last {w : World} {B : Nat} {us : List Value} {m : Nat → Nat → Rat} {n p : Nat} (h : RowsP w B us m n p) {j : Nat} (hj : j < p) :
    ∃ g c, us[j]? = some (.slice (some ⟨g, 0, none⟩) (n + 1) c) ∧ g < w.heap.size ∧ w.cell? ⟨g, n * 2, none⟩ = some (.int .i64 (aR m j n).num) ∧ w.cell? ⟨g, n * 2 + 1, none⟩ = some (.int .i64 ((aR m j n).den : Int)) := by
  obtain ⟨g, c, h1, h2⟩ := h.2 j hj
  have := (h2.pr (j := n) (by rw [aRow_len]; omega)).1
  rw [aRow_at m (Nat.le_refl _)] at this
  exact ⟨g, c, h1, (h2.len).2.2, this.1, this.2⟩

set_option maxHeartbeats 400000 in
theorem PiecesMissS_no (v : Value) (xs : List Int) (p : Int) (w : World) (hr : Rd w v xs) (h : ¬ okPT xs p) :
    Calls Try.prog 19 #[v, .int .i64 p] w fun e w' => e = .returned (.tuple #[.agg #[.int .i64 0, .int .i64 0], .bool false]) ∧ Below w.heap.size w w' := by
  have hr' := hr
  obtain ⟨A, c, rfl, hc, hm, _⟩ := hr
  cases hok : okSteps xs
  · have HO := hide hok
    clear hok h
    go_enter Try.func19, Try.ntmps19
    go_wp2_with fail
    refine (validSteps_c _ xs false _ (hr'.alloc _) HO.out).mono ?_
    rintro e w1 ⟨rfl, rfl⟩
    go_wp2_with fail
    refine bodyPost_ret (v := .tuple #[.agg #[.int .i64 0, .int .i64 0], .bool false]) (by simp [results, Try.results19, go_sem]) rfl ⟨rfl, ?_⟩
    (repeat (first | exact Below.refl _ _ | assumption | refine Below.setCell ?_ (by first | (simp; done) | omega | (simp; omega) | (simp at *; omega)) _ | refine Below.drew ?_ | refine below_drewN ?_ _ | refine below_alloc' ?_ _ | refine below_to' ?_ (by assumption)))
  · have HO := hide hok
    have hp : ¬ (1 ≤ p ∧ p ≤ 8) := fun hp => h ⟨hok, hp⟩
    clear hok h
    go_enter Try.func19, Try.ntmps19
    go_wp2_with fail
    refine (validSteps_c _ xs true _ (hr'.alloc _) HO.out).mono ?_
    rintro e w1 ⟨rfl, rfl⟩
    go_wp2_with fail
    refine (inRange_c false _ _ _ _ (by simp; omega)).mono ?_
    rintro e w' ⟨rfl, rfl⟩
    go_wp2_with fail
    refine bodyPost_ret (v := .tuple #[.agg #[.int .i64 0, .int .i64 0], .bool false]) (by simp [results, Try.results19, go_sem]) rfl ⟨rfl, ?_⟩
    (repeat (first | exact Below.refl _ _ | assumption | refine Below.setCell ?_ (by first | (simp; done) | omega | (simp; omega) | (simp at *; omega)) _ | refine Below.drew ?_ | refine below_drewN ?_ _ | refine below_alloc' ?_ _ | refine below_to' ?_ (by assumption)))

set_option maxHeartbeats 1000000 in
theorem PiecesMissS_yes (v : Value) (xs : List Int) (p : Int) (w : World) (hr : Rd w v xs) (h : okPT xs p) :
    Calls Try.prog 19 #[v, .int .i64 p] w fun e w' => e = .returned (.tuple #[.agg #[.int .i64 (aR (mR xs) (p.toNat - 1) xs.length).num, .int .i64 ((aR (mR xs) (p.toNat - 1) xs.length).den : Int)], .bool true]) ∧ Below w.heap.size w w' := by
  obtain ⟨hok, hp1, hp2⟩ := h
  obtain ⟨hall, hl1, hl2⟩ := okSteps_parts hok
  obtain ⟨P, rfl⟩ := Int.eq_ofNat_of_zero_le (show 0 ≤ p by omega)
  have HO := hide hok
  have K := hide fun w hr => leastMisses_c v xs P w hr hall hl1 hl2 (by omega) (by omega)
  have hjt : ((P : Int) - 1).toNat = P - 1 := by omega
  have hw1 : IntKind.i64.wrap ((P : Int) - 1) = (P : Int) - 1 := IntWalk.i64_in _ (by omega)
  have hpos : 1 ≤ P := by omega
  rw [show ((P : Int).toNat - 1) = P - 1 by omega]
  obtain ⟨M, hM⟩ : ∃ M, aR (mR xs) (P - 1) xs.length = M := ⟨_, rfl⟩
  rw [hM]
  have HM := hide hM
  obtain ⟨W, hW, hbW, hWs, hRW⟩ := new1 w 24 0 0
  have HRW := hide hRW
  have hrW := hr.below hbW
  have hrW' := hrW
  obtain ⟨A, c, rfl, hc, hm, _⟩ := hrW
  clear hok hall hM hRW hr
  go_enter Try.func19, Try.ntmps19
  go_wp2_with fail
  clear hW
  refine (validSteps_c _ xs true _ hrW' HO.out).mono ?_
  rintro e w1 ⟨rfl, rfl⟩
  go_wp2_with fail
  refine (inRange_c true _ _ _ _ (by simp; omega)).mono ?_
  rintro e w' ⟨rfl, rfl⟩
  go_wp2_with fail
  refine (K.out _ hrW').mono ?_
  rintro e w2 ⟨g, cg, us, rfl, hg1, hg2, hgl, hcells, hrows, hb2⟩
  obtain ⟨g1, c1, hu, hg1l, t1, t2⟩ := hrows.last (j := P - 1) (by omega)
  have cu := hcells _ _ hu
  rw [HM.out] at t1 t2
  have hz2 := hb2.size
  have hRr := HRW.out.below hb2 (by omega)
  obtain ⟨Z, hZ, hbZ, hPZ, hZs, _⟩ := hRr.put M.num M.den
  obtain ⟨⟨r1, r2⟩, r3, r4⟩ := hRr
  obtain ⟨⟨z1, z2⟩, -, -⟩ := hPZ
  have hbw : Below w.heap.size w w2 := hbW.trans (hb2.mono (by omega))
  have i1 : (xs.length : Int) < (xs.length : Int) + 1 := by omega
  clear hcells hrows hu
  go_wp2_with fail
  refine bodyPost_ret (v := .tuple #[.agg #[.int .i64 (M).num, .int .i64 ((M).den : Int)], .bool true]) (by simp [results, Try.results19, go_sem, z1, z2]) rfl ⟨rfl, hbw.trans hbZ⟩
end Go.Proofs.Ytgageljahebjnaa
