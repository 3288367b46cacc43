/-
  The statement FnExactAreaByPairs: for every input it returns true and writes nothing that was there.
-/
import Derived.Test.YtcmjmnlccempfaaArea3
namespace Go.Proofs.Ytcmjmnlccempfaa
open Go.RowKit

set_option maxHeartbeats 400000 in
theorem eqFrac_same (a b : Int) (w : World) : Calls Try.prog 20 #[.agg #[.int .i64 a, .int .i64 b], .agg #[.int .i64 a, .int .i64 b]] w fun e w' => e = .returned (.bool true) ∧ Below w.heap.size w w' := by
  go_enter Try.func20, Try.ntmps20
  go_wp2
  go_ret
  refine ⟨rfl, ?_⟩
  (repeat (first | exact Below.refl _ _ | assumption | refine Below.setCell ?_ (by first | (simp; done) | omega | (simp; omega) | (simp at *; omega)) _ | refine Below.drew ?_ | refine below_drewN ?_ _ | refine below_alloc' ?_ _ | refine below_to' ?_ (by assumption)))

set_option maxHeartbeats 1000000 in
theorem FnExactAreaByPairs_c (u z : Value) (xs ms : List Int) (w : World) (hx : Rd w u xs) (hz : Rd w z ms) :
    Calls Try.prog 6 #[u, z] w fun e w' => e = .returned (.bool true) ∧ Below w.heap.size w w' := by
  have hcx := hx
  have hcz := hz
  obtain ⟨A, c, rfl, hc, hm, hd1⟩ := hx
  obtain ⟨A3, c3, rfl, hc3, hm3, hd3⟩ := hz
  clear hd1 hd3
  by_cases hl1 : 1048576 < xs.length
  · go_enter Try.func6, Try.ntmps6
    go_wp2
    go_ret
    exact ⟨rfl, Below.refl _ _⟩
  by_cases hl2 : 1048576 < ms.length
  · go_enter Try.func6, Try.ntmps6
    go_wp2
    go_ret
    exact ⟨rfl, Below.refl _ _⟩
  · have PS := hide fun u z w (h1 : Rd w u xs) (h2 : Rd w z ms) => AreaS_c u z xs ms w h1 h2
    have PI := hide fun u z w (h1 : Rd w u xs) (h2 : Rd w z ms) => AreaI_c u z xs ms w h1 h2
    obtain ⟨R, hR⟩ : ∃ R, areaX xs ms = R := ⟨_, rfl⟩
    rw [hR] at PS PI
    clear hR
    obtain ⟨a, b, t⟩ := R
    go_enter Try.func6, Try.ntmps6
    go_wp2_with fail
    refine (toIntS_c _ xs _ hcx (by omega)).mono ?_
    rintro e w1 ⟨v1, rfl, hs1, hb1⟩
    go_wp2_with fail
    refine (toIntS_c _ ms _ (Rd.below hcz (by (repeat (first | exact Below.refl _ _ | assumption | refine Below.setCell ?_ (by first | (simp; done) | omega | (simp; omega) | (simp at *; omega)) _ | refine Below.drew ?_ | refine below_drewN ?_ _ | refine below_alloc' ?_ _ | refine below_to' ?_ (by assumption))))) (by omega)).mono ?_
    rintro e w2 ⟨v2, rfl, hs2, hb2⟩
    go_wp2_with fail
    refine (PS.out _ _ _ (Rd.below hs1.rd (by (repeat (first | exact Below.refl _ _ | assumption | refine Below.setCell ?_ (by first | (simp; done) | omega | (simp; omega) | (simp at *; omega)) _ | refine Below.drew ?_ | refine below_drewN ?_ _ | refine below_alloc' ?_ _ | refine below_to' ?_ (by assumption))))) (Rd.below hs2.rd (by (repeat (first | exact Below.refl _ _ | assumption | refine Below.setCell ?_ (by first | (simp; done) | omega | (simp; omega) | (simp at *; omega)) _ | refine Below.drew ?_ | refine below_drewN ?_ _ | refine below_alloc' ?_ _ | refine below_to' ?_ (by assumption)))))).mono ?_
    rintro e w3 ⟨rfl, hb3⟩
    go_wp2_with fail
    refine (toIntS_c _ xs _ (Rd.below hcx (by (repeat (first | exact Below.refl _ _ | assumption | refine Below.setCell ?_ (by first | (simp; done) | omega | (simp; omega) | (simp at *; omega)) _ | refine Below.drew ?_ | refine below_drewN ?_ _ | refine below_alloc' ?_ _ | refine below_to' ?_ (by assumption))))) (by omega)).mono ?_
    rintro e w4 ⟨v4, rfl, hs4, hb4⟩
    obtain ⟨hc4, hf4⟩ := bcell hb4
    have hz4 := hb4.size
    go_wp2_with fail
    refine (toIntS_c _ ms _ (Rd.below hcz (by (repeat (first | exact Below.refl _ _ | assumption | refine Below.setCell ?_ (by first | (simp; done) | omega | (simp; omega) | (simp at *; omega)) _ | refine Below.drew ?_ | refine below_drewN ?_ _ | refine below_alloc' ?_ _ | refine below_to' ?_ (by assumption))))) (by omega)).mono ?_
    rintro e w5 ⟨v5, rfl, hs5, hb5⟩
    obtain ⟨hc5, hf5⟩ := bcell hb5
    have hz5 := hb5.size
    go_wp2_with fail
    refine (PI.out _ _ _ (Rd.below hs4.rd (by (repeat (first | exact Below.refl _ _ | assumption | refine Below.setCell ?_ (by first | (simp; done) | omega | (simp; omega) | (simp at *; omega)) _ | refine Below.drew ?_ | refine below_drewN ?_ _ | refine below_alloc' ?_ _ | refine below_to' ?_ (by assumption))))) (Rd.below hs5.rd (by (repeat (first | exact Below.refl _ _ | assumption | refine Below.setCell ?_ (by first | (simp; done) | omega | (simp; omega) | (simp at *; omega)) _ | refine Below.drew ?_ | refine below_drewN ?_ _ | refine below_alloc' ?_ _ | refine below_to' ?_ (by assumption)))))).mono ?_
    rintro e w6 ⟨rfl, hb6⟩
    obtain ⟨hc6, hf6⟩ := bcell hb6
    have hz6 := hb6.size
    have y4 : w3.heap.size < w4.heap.size := by simp at hz4; omega
    have y5 : w3.heap.size < w5.heap.size := by omega
    have y6 : w3.heap.size < w6.heap.size := by omega
    go_wp2_with fail
    refine (eqFrac_same _ _ _).mono ?_
    rintro e w7 ⟨rfl, hb7⟩
    go_wp2_with fail
    refine (toIntS_c _ xs _ (Rd.below hcx (by (repeat (first | exact Below.refl _ _ | assumption | refine Below.setCell ?_ (by first | (simp; done) | omega | (simp; omega) | (simp at *; omega)) _ | refine Below.drew ?_ | refine below_drewN ?_ _ | refine below_alloc' ?_ _ | refine below_to' ?_ (by assumption))))) (by omega)).mono ?_
    rintro e w8 ⟨v8, rfl, hs8, hb8⟩
    go_wp2_with fail
    refine (eqIntS_c _ _ xs xs true _ (Rd.below hs4.rd (by (repeat (first | exact Below.refl _ _ | assumption | refine Below.setCell ?_ (by first | (simp; done) | omega | (simp; omega) | (simp at *; omega)) _ | refine Below.drew ?_ | refine below_drewN ?_ _ | refine below_alloc' ?_ _ | refine below_to' ?_ (by assumption))))) hs8.rd (by simp)).mono ?_
    rintro e w9 ⟨rfl, hb9⟩
    go_wp2_with fail
    refine (toIntS_c _ ms _ (Rd.below hcz (by (repeat (first | exact Below.refl _ _ | assumption | refine Below.setCell ?_ (by first | (simp; done) | omega | (simp; omega) | (simp at *; omega)) _ | refine Below.drew ?_ | refine below_drewN ?_ _ | refine below_alloc' ?_ _ | refine below_to' ?_ (by assumption))))) (by omega)).mono ?_
    rintro e w10 ⟨v10, rfl, hs10, hb10⟩
    go_wp2_with fail
    refine (eqIntS_c _ _ ms ms true _ (Rd.below hs5.rd (by (repeat (first | exact Below.refl _ _ | assumption | refine Below.setCell ?_ (by first | (simp; done) | omega | (simp; omega) | (simp at *; omega)) _ | refine Below.drew ?_ | refine below_drewN ?_ _ | refine below_alloc' ?_ _ | refine below_to' ?_ (by assumption))))) hs10.rd (by simp)).mono ?_
    rintro e w11 ⟨rfl, hb11⟩
    go_wp2_with fail
    go_ret
    refine ⟨rfl, ?_⟩
    (repeat (first | exact Below.refl _ _ | assumption | refine Below.setCell ?_ (by first | (simp; done) | omega | (simp; omega) | (simp at *; omega)) _ | refine Below.drew ?_ | refine below_drewN ?_ _ | refine below_alloc' ?_ _ | refine below_to' ?_ (by assumption)))
end Go.Proofs.Ytcmjmnlccempfaa
