/-
  The statement FnExactTwoSides: for every input it returns true and writes nothing that was there.
-/
import Derived.Test.YtgclgcfhcomplaaTwoJ
namespace Go.Proofs.Ytgclgcfhcomplaa
open Go.RowKit

theorem twoL_len (n k u v : Int) : (twoL n k u v).length ≤ 3 := by
  rw [twoL]
  split <;> simp

set_option maxHeartbeats 1000000 in
theorem FnExactTwoSides_c (n k u v : Int) (w : World) :
    Calls Try.prog 6 #[.int .i64 n, .int .i64 k, .int .i64 u, .int .i64 v] w fun e w' => e = .returned (.bool true) ∧ Below w.heap.size w w' := by
  have hlz := twoL_len n k u v
  obtain ⟨ys, hys⟩ : ∃ ys, ys = twoL n k u v := ⟨_, rfl⟩
  rw [← hys] at hlz
  have HY := hide hys
  clear hys
  go_enter Try.func6, Try.ntmps6
  go_wp2_with fail
  refine (TwoS_c n k u v _).mono ?_
  rintro e w2 ⟨w0v, rfl, hs2, hb2⟩
  rw [← HY.out] at hs2
  go_wp2_with fail
  refine (TwoI_c n k u v _).mono ?_
  rintro e w4 ⟨g0, rfl, hs4, hb4⟩
  rw [← HY.out] at hs4
  go_wp2_with fail
  refine (eqIntS_c _ _ ys ys true _ hs4.rd (Rd.below hs2.rd (by (repeat (first | exact Below.refl _ _ | assumption | refine Below.setCell ?_ (by first | (simp; done) | omega | (simp; omega) | (simp at *; omega)) _ | refine Below.drew ?_ | refine below_drewN ?_ _ | refine below_alloc' ?_ _ | refine below_to' ?_ (by assumption))))) (by simp)).mono ?_
  rintro e w5 ⟨rfl, hb5⟩
  go_wp2_with fail
  refine (markIntS_c _ ys 1 _ _ w5.heap.size (Sl.below hs4 (by (repeat (first | exact Below.refl _ _ | assumption | refine Below.setCell ?_ (by first | (simp; done) | omega | (simp; omega) | (simp at *; omega)) _ | refine Below.drew ?_ | refine below_drewN ?_ _ | refine below_alloc' ?_ _ | refine below_to' ?_ (by assumption))))) (Sl.lt (Sl.below hs4 (by (repeat (first | exact Below.refl _ _ | assumption | refine Below.setCell ?_ (by first | (simp; done) | omega | (simp; omega) | (simp at *; omega)) _ | refine Below.drew ?_ | refine below_drewN ?_ _ | refine below_alloc' ?_ _ | refine below_to' ?_ (by assumption)))))) (by omega) (by omega)).mono ?_
  rintro e w10 ⟨rfl, hs10, hb10, ha10⟩
  have hbC : Below w2.heap.size w2 w10 := Below.trans (b := w5) (by (repeat (first | exact Below.refl _ _ | assumption | refine Below.setCell ?_ (by first | (simp; done) | omega | (simp; omega) | (simp at *; omega)) _ | refine Below.drew ?_ | refine below_drewN ?_ _ | refine below_alloc' ?_ _ | refine below_to' ?_ (by assumption)))) hb10
  have hbD : Below w.heap.size w w10 := Below.trans (b := w2) (by (repeat (first | exact Below.refl _ _ | assumption | refine Below.setCell ?_ (by first | (simp; done) | omega | (simp; omega) | (simp at *; omega)) _ | refine Below.drew ?_ | refine below_drewN ?_ _ | refine below_alloc' ?_ _ | refine below_to' ?_ (by assumption)))) (hbC.mono (Below.size (B := w.heap.size) (by (repeat (first | exact Below.refl _ _ | assumption | refine Below.setCell ?_ (by first | (simp; done) | omega | (simp; omega) | (simp at *; omega)) _ | refine Below.drew ?_ | refine below_drewN ?_ _ | refine below_alloc' ?_ _ | refine below_to' ?_ (by assumption))))))
  go_wp2_with fail
  refine (heldIntS_c _ ys.length 1 _ hs10.rd (by omega) (by omega)).mono ?_
  rintro e w11 ⟨rfl, hb11⟩
  go_wp2_with fail
  refine (TwoI_c n k u v _).mono ?_
  rintro e w13 ⟨h0, rfl, hs13, hb13⟩
  rw [← HY.out] at hs13
  go_wp2_with fail
  refine (eqIntS_c _ _ ys ys true _ hs13.rd (Rd.below hs2.rd (by (repeat (first | exact Below.refl _ _ | assumption | refine Below.setCell ?_ (by first | (simp; done) | omega | (simp; omega) | (simp at *; omega)) _ | refine Below.drew ?_ | refine below_drewN ?_ _ | refine below_alloc' ?_ _ | refine below_to' ?_ (by assumption))))) (by simp)).mono ?_
  rintro e w14 ⟨rfl, hb14⟩
  go_wp2_with fail
  refine (heldIntS_c _ ys.length 1 _ (Rd.below hs10.rd (by (repeat (first | exact Below.refl _ _ | assumption | refine Below.setCell ?_ (by first | (simp; done) | omega | (simp; omega) | (simp at *; omega)) _ | refine Below.drew ?_ | refine below_drewN ?_ _ | refine below_alloc' ?_ _ | refine below_to' ?_ (by assumption))))) (by omega) (by omega)).mono ?_
  rintro e w15 ⟨rfl, hb15⟩
  go_wp2_with fail
  go_ret
  refine ⟨rfl, ?_⟩
  (repeat (first | exact Below.refl _ _ | assumption | refine Below.setCell ?_ (by first | (simp; done) | omega | (simp; omega) | (simp at *; omega)) _ | refine Below.drew ?_ | refine below_drewN ?_ _ | refine below_alloc' ?_ _ | refine below_to' ?_ (by assumption)))
end Go.Proofs.Ytgclgcfhcomplaa
