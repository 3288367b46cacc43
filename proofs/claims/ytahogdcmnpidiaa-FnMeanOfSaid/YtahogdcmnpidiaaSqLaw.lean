/-
  The statement FnExactSquareLine: for every input it returns true and writes nothing that was there.
-/
import Derived.Test.YtahogdcmnpidiaaSqI
namespace Go.Proofs.Ytahogdcmnpidiaa
open Go.RowKit

set_option maxHeartbeats 400000 in
theorem eqFrac_same (a b : Int) (w : World) : Calls Try.prog 21 #[.agg #[.int .i64 a, .int .i64 b], .agg #[.int .i64 a, .int .i64 b]] w fun e w' => e = .returned (.bool true) ∧ Below w.heap.size w w' := by
  go_enter Try.func21, Try.ntmps21
  go_wp2
  go_ret
  refine ⟨rfl, ?_⟩
  (repeat (first | exact Below.refl _ _ | assumption | refine Below.setCell ?_ (by first | (simp; done) | omega | (simp; omega) | (simp at *; omega)) _ | refine Below.drew ?_ | refine below_drewN ?_ _ | refine below_alloc' ?_ _ | refine below_to' ?_ (by assumption)))

set_option maxHeartbeats 2000000 in
theorem FnExactSquareLine_c (u z : Value) (xs ms : List Int) (w : World) (hx : Rd w u xs) (hz : Rd w z ms) :
    Calls Try.prog 10 #[u, z] w fun e w' => e = .returned (.bool true) ∧ Below w.heap.size w w' := by
  have hcx := hx
  have hcz := hz
  obtain ⟨A, c, rfl, hc, hm, hd1⟩ := hx
  obtain ⟨A3, c3, rfl, hc3, hm3, hd3⟩ := hz
  clear hd1 hd3
  by_cases hl1 : 1048576 < xs.length
  · go_enter Try.func10, Try.ntmps10
    go_wp2
    go_ret
    exact ⟨rfl, Below.refl _ _⟩
  by_cases hl2 : 1048576 < ms.length
  · go_enter Try.func10, Try.ntmps10
    go_wp2
    go_ret
    exact ⟨rfl, Below.refl _ _⟩
  · obtain ⟨R, hR⟩ : ∃ R, sqQ xs ms = R := ⟨_, rfl⟩
    have PS := hide fun u z w (h1 : Rd w u xs) (h2 : Rd w z ms) => SquareS_c u z xs ms w h1 h2 R hR
    have PI := hide fun u z w (h1 : Rd w u xs) (h2 : Rd w z ms) => SquareI_c u z xs ms w h1 h2 R hR
    clear hR
    obtain ⟨a, b, a2, b2, t⟩ := R
    go_enter Try.func10, Try.ntmps10
    go_wp2_with fail
    refine (toIntS_c _ xs _ hcx (by omega)).mono ?_
    rintro e w1 ⟨v1, rfl, hs1, hb1⟩
    go_wp2_with fail
    refine (toIntS_c _ ms _ (Rd.below hcz (by (repeat (first | exact Below.refl _ _ | assumption | refine Below.setCell ?_ (by first | (simp; done) | omega | (simp; omega) | (simp at *; omega)) _ | refine Below.drew ?_ | refine below_drewN ?_ _ | refine below_alloc' ?_ _ | refine below_to' ?_ (by assumption))))) (by omega)).mono ?_
    rintro e w2 ⟨v2, rfl, hs2, hb2⟩
    go_wp2_with fail
    refine (PS.out _ _ _ (Rd.below hs1.rd (by (repeat (first | exact Below.refl _ _ | assumption | refine Below.setCell ?_ (by first | (simp; done) | omega | (simp; omega) | (simp at *; omega)) _ | refine Below.drew ?_ | refine below_drewN ?_ _ | refine below_alloc' ?_ _ | refine below_to' ?_ (by assumption))))) (Rd.below hs2.rd (by (repeat (first | exact Below.refl _ _ | assumption | refine Below.setCell ?_ (by first | (simp; done) | omega | (simp; omega) | (simp at *; omega)) _ | refine Below.drew ?_ | refine below_drewN ?_ _ | refine below_alloc' ?_ _ | refine below_to' ?_ (by assumption)))))).mono ?_
    rintro e w3 ⟨rfl, hb3⟩
    obtain ⟨V, hV, hbV, hVs, hVc⟩ : ∃ V, (w3.alloc (.cells #[.int .i64 a, .int .i64 b] 31)).alloc (.cells #[.int .i64 a2, .int .i64 b2] 31) = V ∧ Below w3.heap.size w3 V ∧ w3.heap.size + 1 < V.heap.size ∧
        ∀ wz, Below V.heap.size V wz → wz.cell? ⟨w3.heap.size, 0, none⟩ = some (.int .i64 a) ∧ wz.cell? ⟨w3.heap.size, 1, none⟩ = some (.int .i64 b) ∧ wz.cell? ⟨w3.heap.size + 1, 0, none⟩ = some (.int .i64 a2) ∧ wz.cell? ⟨w3.heap.size + 1, 1, none⟩ = some (.int .i64 b2) := by
      refine ⟨_, rfl, by (repeat (first | exact Below.refl _ _ | assumption | refine Below.setCell ?_ (by first | (simp; done) | omega | (simp; omega) | (simp at *; omega)) _ | refine Below.drew ?_ | refine below_drewN ?_ _ | refine below_alloc' ?_ _ | refine below_to' ?_ (by assumption))), by simp, fun wz hz => ⟨?_, ?_, ?_, ?_⟩⟩
      all_goals (rw [hz.cell (by simp; try omega)]; simp [go_sem]; done)
    have hVc := hide hVc
    go_wp2_with fail
    clear hV
    refine (toIntS_c _ xs _ (Rd.below hcx (by (repeat (first | exact Below.refl _ _ | assumption | refine Below.setCell ?_ (by first | (simp; done) | omega | (simp; omega) | (simp at *; omega)) _ | refine Below.drew ?_ | refine below_drewN ?_ _ | refine below_alloc' ?_ _ | refine below_to' ?_ (by assumption))))) (by omega)).mono ?_
    rintro e w4 ⟨v4, rfl, hs4, hb4⟩
    go_wp2_with fail
    refine (toIntS_c _ ms _ (Rd.below hcz (by (repeat (first | exact Below.refl _ _ | assumption | refine Below.setCell ?_ (by first | (simp; done) | omega | (simp; omega) | (simp at *; omega)) _ | refine Below.drew ?_ | refine below_drewN ?_ _ | refine below_alloc' ?_ _ | refine below_to' ?_ (by assumption))))) (by omega)).mono ?_
    rintro e w5 ⟨v5, rfl, hs5, hb5⟩
    go_wp2_with fail
    refine (PI.out _ _ _ (Rd.below hs4.rd (by (repeat (first | exact Below.refl _ _ | assumption | refine Below.setCell ?_ (by first | (simp; done) | omega | (simp; omega) | (simp at *; omega)) _ | refine Below.drew ?_ | refine below_drewN ?_ _ | refine below_alloc' ?_ _ | refine below_to' ?_ (by assumption))))) (Rd.below hs5.rd (by (repeat (first | exact Below.refl _ _ | assumption | refine Below.setCell ?_ (by first | (simp; done) | omega | (simp; omega) | (simp at *; omega)) _ | refine Below.drew ?_ | refine below_drewN ?_ _ | refine below_alloc' ?_ _ | refine below_to' ?_ (by assumption)))))).mono ?_
    rintro e w6 ⟨rfl, hb6⟩
    obtain ⟨U, hU, hbU, hUs, hUc⟩ : ∃ U, (w6.alloc (.cells #[.int .i64 a, .int .i64 b] 31)).alloc (.cells #[.int .i64 a2, .int .i64 b2] 31) = U ∧ Below w6.heap.size w6 U ∧ w6.heap.size + 1 < U.heap.size ∧
        ∀ wz, Below U.heap.size U wz → wz.cell? ⟨w6.heap.size, 0, none⟩ = some (.int .i64 a) ∧ wz.cell? ⟨w6.heap.size, 1, none⟩ = some (.int .i64 b) ∧ wz.cell? ⟨w6.heap.size + 1, 0, none⟩ = some (.int .i64 a2) ∧ wz.cell? ⟨w6.heap.size + 1, 1, none⟩ = some (.int .i64 b2) := by
      refine ⟨_, rfl, by (repeat (first | exact Below.refl _ _ | assumption | refine Below.setCell ?_ (by first | (simp; done) | omega | (simp; omega) | (simp at *; omega)) _ | refine Below.drew ?_ | refine below_drewN ?_ _ | refine below_alloc' ?_ _ | refine below_to' ?_ (by assumption))), by simp, fun wz hz => ⟨?_, ?_, ?_, ?_⟩⟩
      all_goals (rw [hz.cell (by simp; try omega)]; simp [go_sem]; done)
    have hbVU : Below V.heap.size V U := by (repeat (first | exact Below.refl _ _ | assumption | refine Below.setCell ?_ (by first | (simp; done) | omega | (simp; omega) | (simp at *; omega)) _ | refine Below.drew ?_ | refine below_drewN ?_ _ | refine below_alloc' ?_ _ | refine below_to' ?_ (by assumption)))
    obtain ⟨g1, g2, g3, g4⟩ := hVc.out _ hbVU
    obtain ⟨g5, g6, g7, g8⟩ := hUc _ (Below.refl _ _)
    have hUc := hide hUc
    go_wp2_with fail
    clear hU
    refine (eqFrac_same _ _ _).mono ?_
    rintro e w7 ⟨rfl, hb7⟩
    have hbV7 : Below V.heap.size V w7 := by (repeat (first | exact Below.refl _ _ | assumption | refine Below.setCell ?_ (by first | (simp; done) | omega | (simp; omega) | (simp at *; omega)) _ | refine Below.drew ?_ | refine below_drewN ?_ _ | refine below_alloc' ?_ _ | refine below_to' ?_ (by assumption)))
    obtain ⟨g1, g2, g3, g4⟩ := hVc.out _ hbV7
    obtain ⟨g5, g6, g7, g8⟩ := hUc.out _ hb7
    go_wp2_with fail
    refine (eqFrac_same _ _ _).mono ?_
    rintro e w7' ⟨rfl, hb7'⟩
    go_wp2_with fail
    refine (toIntS_c _ xs _ (Rd.below hcx (by (repeat (first | exact Below.refl _ _ | assumption | refine Below.setCell ?_ (by first | (simp; done) | omega | (simp; omega) | (simp at *; omega)) _ | refine Below.drew ?_ | refine below_drewN ?_ _ | refine below_alloc' ?_ _ | refine below_to' ?_ (by assumption))))) (by omega)).mono ?_
    rintro e w8 ⟨v8, rfl, hs8, hb8⟩
    have hb58 : Below w5.heap.size w5 w8 := by clear hbV7 hbVU; (repeat (first | exact Below.refl _ _ | assumption | refine Below.setCell ?_ (by first | (simp; done) | omega | (simp; omega) | (simp at *; omega)) _ | refine Below.drew ?_ | refine below_drewN ?_ _ | refine below_alloc' ?_ _ | refine below_to' ?_ (by assumption)))
    have hb48 : Below w4.heap.size w4 w8 := by clear hbV7 hbVU; (repeat (first | exact Below.refl _ _ | assumption | refine Below.setCell ?_ (by first | (simp; done) | omega | (simp; omega) | (simp at *; omega)) _ | refine Below.drew ?_ | refine below_drewN ?_ _ | refine below_alloc' ?_ _ | refine below_to' ?_ (by assumption)))
    go_wp2_with fail
    refine (eqIntS_c _ _ xs xs true _ (hs4.rd.below hb48) hs8.rd (by simp)).mono ?_
    rintro e w9 ⟨rfl, hb9⟩
    go_wp2_with fail
    refine (toIntS_c _ ms _ (Rd.below hcz (by (repeat (first | exact Below.refl _ _ | assumption | refine Below.setCell ?_ (by first | (simp; done) | omega | (simp; omega) | (simp at *; omega)) _ | refine Below.drew ?_ | refine below_drewN ?_ _ | refine below_alloc' ?_ _ | refine below_to' ?_ (by assumption))))) (by omega)).mono ?_
    rintro e w10 ⟨v10, rfl, hs10, hb10⟩
    go_wp2_with fail
    refine (eqIntS_c _ _ ms ms true _ ((hs5.rd.below hb58).below (by clear hb48 hb58; (repeat (first | exact Below.refl _ _ | assumption | refine Below.setCell ?_ (by first | (simp; done) | omega | (simp; omega) | (simp at *; omega)) _ | refine Below.drew ?_ | refine below_drewN ?_ _ | refine below_alloc' ?_ _ | refine below_to' ?_ (by assumption))))) hs10.rd (by simp)).mono ?_
    rintro e w11 ⟨rfl, hb11⟩
    go_wp2_with fail
    go_ret
    refine ⟨rfl, ?_⟩
    (repeat (first | exact Below.refl _ _ | assumption | refine Below.setCell ?_ (by first | (simp; done) | omega | (simp; omega) | (simp at *; omega)) _ | refine Below.drew ?_ | refine below_drewN ?_ _ | refine below_alloc' ?_ _ | refine below_to' ?_ (by assumption)))
end Go.Proofs.Ytahogdcmnpidiaa
