
/-
  The statement FnExactPricedPieces: for every input it returns true and writes nothing that was there.
-/
import Derived.Test.YtgageljahebjnaaPriceS
import Derived.Test.YtgageljahebjnaaEqF
namespace Go.Proofs.Ytgageljahebjnaa
open Go.RowKit

set_option maxHeartbeats 800000 in
theorem FnExactPricedPieces_c (v : Value) (xs : List Int) (p : Int) (w : World) (hr : Rd w v xs) :
    Calls Try.prog 6 #[v, .int .i64 p] w fun e w' => e = .returned (.bool true) ∧ Below w.heap.size w w' := by
  have hr' := hr
  obtain ⟨A, c, rfl, hc, hm, _⟩ := hr
  by_cases hl : 1048576 < xs.length
  · go_enter Try.func6, Try.ntmps6
    go_wp2
    go_ret
    exact ⟨rfl, Below.refl _ _⟩
  · by_cases hok : okPP xs p
    · have HO := hide hok
      clear hok
      go_enter Try.func6, Try.ntmps6
      go_wp2_with fail
      refine (toIntS_c _ xs _ hr' (by omega)).mono ?_
      rintro e w1 ⟨v1, rfl, hs1, hb1⟩
      go_wp2_with fail
      refine (PricedS_yes _ xs p _ hs1.rd HO.out).mono ?_
      rintro e w2 ⟨rfl, hb2⟩
      have hps : bst (gE (mR xs) xs.length (p : Rat)) (xs.length - 1) = bst (gA (mR xs) xs.length (p : Rat)) (xs.length - 1) := price_same (Rat.intCast_nonneg.2 HO.out.2.1) (by have := (okSteps_parts HO.out.1).2.1; omega)
      obtain ⟨b, hbe⟩ : ∃ b, bst (gA (mR xs) xs.length (p : Rat)) (xs.length - 1) = b := ⟨_, rfl⟩
      rw [hbe] at hps ⊢
      obtain ⟨r, k⟩ := b
      have HRE := hide hps
      clear hps hbe
      go_wp2_with fail
      refine (toIntS_c _ xs _ (Rd.below hr' (by (repeat (first | exact Below.refl _ _ | assumption | refine Below.setCell ?_ (by first | (simp; done) | omega | (simp; omega) | (simp at *; omega)) _ | refine Below.drew ?_ | refine below_drewN ?_ _ | refine below_alloc' ?_ _ | refine below_to' ?_ (by assumption))))) (by omega)).mono ?_
      rintro e w3 ⟨v3, rfl, hs3, hb3⟩
      obtain ⟨hc3, hf3⟩ := bcell hb3
      go_wp2_with fail
      refine (PricedI_yes _ xs p _ hs3.rd HO.out).mono ?_
      rw [HRE.out]
      rintro e w4 ⟨rfl, hb4⟩
      obtain ⟨hc4, hf4⟩ := bcell hb4
      have hz3 := hb3.size
      have hz3' : w2.heap.size < w3.heap.size := by simp at hz3; omega
      have hz4 : w2.heap.size < w4.heap.size := by have := hb4.size; omega
      go_wp2_with fail
      refine (eqFracP_same _ _ _).mono ?_
      rintro e w5 ⟨rfl, hb5⟩
      go_wp2_with fail
      refine (toIntS_c _ xs _ (Rd.below hr' (by (repeat (first | exact Below.refl _ _ | assumption | refine Below.setCell ?_ (by first | (simp; done) | omega | (simp; omega) | (simp at *; omega)) _ | refine Below.drew ?_ | refine below_drewN ?_ _ | refine below_alloc' ?_ _ | refine below_to' ?_ (by assumption))))) (by omega)).mono ?_
      rintro e w6 ⟨v6, rfl, hs6, hb6⟩
      go_wp2_with fail
      refine (eqIntS_c _ _ xs xs true _ (Rd.below hs3.rd (by (repeat (first | exact Below.refl _ _ | assumption | refine Below.setCell ?_ (by first | (simp; done) | omega | (simp; omega) | (simp at *; omega)) _ | refine Below.drew ?_ | refine below_drewN ?_ _ | refine below_alloc' ?_ _ | refine below_to' ?_ (by assumption))))) hs6.rd (by simp)).mono ?_
      rintro e w7 ⟨rfl, hb7⟩
      go_wp2_with fail
      go_ret
      refine ⟨rfl, ?_⟩
      (repeat (first | exact Below.refl _ _ | assumption | refine Below.setCell ?_ (by first | (simp; done) | omega | (simp; omega) | (simp at *; omega)) _ | refine Below.drew ?_ | refine below_drewN ?_ _ | refine below_alloc' ?_ _ | refine below_to' ?_ (by assumption)))
    · have HO := hide hok
      clear hok
      go_enter Try.func6, Try.ntmps6
      go_wp2_with fail
      refine (toIntS_c _ xs _ hr' (by omega)).mono ?_
      rintro e w1 ⟨v1, rfl, hs1, hb1⟩
      go_wp2_with fail
      refine (PricedS_no _ xs p _ hs1.rd HO.out).mono ?_
      rintro e w2 ⟨rfl, hb2⟩
      go_wp2_with fail
      refine (toIntS_c _ xs _ (Rd.below hr' (by (repeat (first | exact Below.refl _ _ | assumption | refine Below.setCell ?_ (by first | (simp; done) | omega | (simp; omega) | (simp at *; omega)) _ | refine Below.drew ?_ | refine below_drewN ?_ _ | refine below_alloc' ?_ _ | refine below_to' ?_ (by assumption))))) (by omega)).mono ?_
      rintro e w3 ⟨v3, rfl, hs3, hb3⟩
      obtain ⟨hc3, hf3⟩ := bcell hb3
      go_wp2_with fail
      refine (PricedI_no _ xs p _ hs3.rd HO.out).mono ?_
      rintro e w4 ⟨rfl, hb4⟩
      obtain ⟨hc4, hf4⟩ := bcell hb4
      have hz3 := hb3.size
      have hz3' : w2.heap.size < w3.heap.size := by simp at hz3; omega
      have hz4 : w2.heap.size < w4.heap.size := by have := hb4.size; omega
      go_wp2_with fail
      refine (eqFracP_same _ _ _).mono ?_
      rintro e w5 ⟨rfl, hb5⟩
      go_wp2_with fail
      refine (toIntS_c _ xs _ (Rd.below hr' (by (repeat (first | exact Below.refl _ _ | assumption | refine Below.setCell ?_ (by first | (simp; done) | omega | (simp; omega) | (simp at *; omega)) _ | refine Below.drew ?_ | refine below_drewN ?_ _ | refine below_alloc' ?_ _ | refine below_to' ?_ (by assumption))))) (by omega)).mono ?_
      rintro e w6 ⟨v6, rfl, hs6, hb6⟩
      go_wp2_with fail
      refine (eqIntS_c _ _ xs xs true _ (Rd.below hs3.rd (by (repeat (first | exact Below.refl _ _ | assumption | refine Below.setCell ?_ (by first | (simp; done) | omega | (simp; omega) | (simp at *; omega)) _ | refine Below.drew ?_ | refine below_drewN ?_ _ | refine below_alloc' ?_ _ | refine below_to' ?_ (by assumption))))) hs6.rd (by simp)).mono ?_
      rintro e w7 ⟨rfl, hb7⟩
      go_wp2_with fail
      go_ret
      refine ⟨rfl, ?_⟩
      (repeat (first | exact Below.refl _ _ | assumption | refine Below.setCell ?_ (by first | (simp; done) | omega | (simp; omega) | (simp at *; omega)) _ | refine Below.drew ?_ | refine below_drewN ?_ _ | refine below_alloc' ?_ _ | refine below_to' ?_ (by assumption)))
end Go.Proofs.Ytgageljahebjnaa
