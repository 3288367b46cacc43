/-
  The statement FnWinsOf: for every code it returns true and writes nothing that was there.
-/
import Derived.Test.YtipmakmidadalaaWins
import Derived.Test.YtipmakmidadalaaRanksLaw
namespace Go.Proofs.Ytipmakmidadalaa
open Go.RowKit

theorem okTwo_swap (xs ys : List Int) : okTwo ys xs = okTwo xs ys := by
  cases h : okTwo xs ys
  · apply okTwo_no
    rintro ⟨h1, h2, h3, h4, h5⟩
    rw [okTwo_yes h2 h1 (by omega) h5 h4] at h
    cases h
  · obtain ⟨h1, h2, h3, h4, h5⟩ := okTwo_all h
    exact okTwo_yes h2 h1 (by omega) h5 h4
theorem okTwo_append {xs ys : List Int} (h : okTwo xs ys = true) : okData (xs ++ ys) = true := by
  obtain ⟨h1, h2, h3, h4, h5⟩ := okTwo_all h
  have a1 := (okData_all h1).1
  have a2 := (okData_all h2).1
  have : allB (-200) 200 (xs ++ ys) = true := by
    apply allB_iff.2
    intro x hx
    rcases List.mem_append.1 hx with hx | hx
    · exact allB_iff.1 a1 x hx
    · exact allB_iff.1 a2 x hx
  simp [okData, this]
  omega
theorem winsL_bd {xs ys : List Int} (h : okTwo xs ys = true) : 0 ≤ winsL xs ys ∧ winsL xs ys ≤ 200 := by
  obtain ⟨h1, h2, h3, h4, h5⟩ := okTwo_all h
  have := winsL_take_bd (xs := xs) (ys := ys) (by omega) xs.length
  rw [List.take_of_length_le (by simp)] at this
  simp only [winsL]
  omega

set_option maxHeartbeats 1000000 in
theorem FnWinsOf_c (A : Option Addr) (n c : Nat) (bs : List Int) (w : World) (hl : bs.length = n) (hnc : n ≤ c) (hc : c ≤ 9223372036854775807) (hr : Rd8 w w.heap.size A bs) :
    Calls Try.prog 7 #[.slice A n c] w fun e w' => e = .returned (.bool true) ∧ Below w.heap.size w w' := by
  by_cases hbig : 1048576 < n
  · go_enter Try.func7, Try.ntmps7
    go_wp2
    go_ret
    exact ⟨rfl, Below.refl _ _⟩
  · go_enter Try.func7, Try.ntmps7
    go_wp2_with fail
    refine (DrawWinsOf_c A n c bs _ hl hnc hc hr).mono ?_
    rintro e w1 ⟨v, xs, u, ys, rfl, hsv, hxl, hsu, hyl, hb1⟩
    have hrx := hsv.rd
    have hry := hsu.rd
    cases hok : okTwo xs ys
    · have HM := hide (winsR_bad hok)
      clear hok
      go_wp2_with fail
      refine (WinsI_c _ _ xs ys _ hrx hry (by omega) (by omega)).mono ?_
      rw [HM.out]
      rintro e w2 ⟨rfl, hb2⟩
      go_wp2_with fail
      refine (WinsS_c _ _ xs ys _ (Rd.below hrx (by (repeat (first | exact Below.refl _ _ | assumption | refine Below.setCell ?_ (by first | (simp; done) | omega | (simp; omega) | (simp at *; omega)) _ | refine Below.drew ?_ | refine below_drewN ?_ _ | refine below_alloc' ?_ _ | refine below_to' ?_ (by assumption))))) (Rd.below hry (by (repeat (first | exact Below.refl _ _ | assumption | refine Below.setCell ?_ (by first | (simp; done) | omega | (simp; omega) | (simp at *; omega)) _ | refine Below.drew ?_ | refine below_drewN ?_ _ | refine below_alloc' ?_ _ | refine below_to' ?_ (by assumption))))) (by omega) (by omega)).mono ?_
      rw [HM.out]
      rintro e w3 ⟨rfl, hb3⟩
      go_wp2_with fail
      refine (WinsS_c _ _ xs ys _ (Rd.below hrx (by (repeat (first | exact Below.refl _ _ | assumption | refine Below.setCell ?_ (by first | (simp; done) | omega | (simp; omega) | (simp at *; omega)) _ | refine Below.drew ?_ | refine below_drewN ?_ _ | refine below_alloc' ?_ _ | refine below_to' ?_ (by assumption))))) (Rd.below hry (by (repeat (first | exact Below.refl _ _ | assumption | refine Below.setCell ?_ (by first | (simp; done) | omega | (simp; omega) | (simp at *; omega)) _ | refine Below.drew ?_ | refine below_drewN ?_ _ | refine below_alloc' ?_ _ | refine below_to' ?_ (by assumption))))) (by omega) (by omega)).mono ?_
      rw [HM.out]
      rintro e w4 ⟨rfl, hb4⟩
      go_wp2_with fail
      go_ret
      exact ⟨rfl, by (repeat (first | exact Below.refl _ _ | assumption | refine Below.setCell ?_ (by first | (simp; done) | omega | (simp; omega) | (simp at *; omega)) _ | refine Below.drew ?_ | refine below_drewN ?_ _ | refine below_alloc' ?_ _ | refine below_to' ?_ (by assumption)))⟩
    · obtain ⟨h1, h2, h3, h4, h5⟩ := okTwo_all hok
      have HM := hide (winsR_ok hok)
      have HM2 := hide (winsR_ok (okTwo_swap xs ys ▸ hok))
      have hwb := winsL_bd hok
      have hwb2 := winsL_bd (okTwo_swap xs ys ▸ hok)
      have HB := hide (winsL_both xs ys)
      have HF := hide (sum_ranks_front xs ys)
      have HRR := hide (ranksR_ok (okTwo_append hok))
      obtain ⟨W, hW⟩ : ∃ W, winsL xs ys = W := ⟨_, rfl⟩
      obtain ⟨W2, hW2⟩ : ∃ W2, winsL ys xs = W2 := ⟨_, rfl⟩
      rw [hW] at hwb HM HB HF
      rw [hW2] at hwb2 HM2 HB
      have hmb := mul_pos_bd (a := (xs.length : Int)) (b := (xs.length : Int) + 1) (m := 10) (n := 11) (by omega) (by omega)
      have hmb2 := mul_pos_bd (a := 2 * (xs.length : Int)) (b := (ys.length : Int)) (m := 20) (n := 10) (by omega) (by omega)
      have HE : Hid (W + W2 = 2 * (xs.length : Int) * (ys.length : Int)) := by show _ = _; rw [HB.out, Int.mul_assoc]
      clear hok h1 h2 hW hW2 HB
      go_wp2_with fail
      refine (WinsI_c _ _ xs ys _ hrx hry (by omega) (by omega)).mono ?_
      rw [HM.out]
      rintro e w2 ⟨rfl, hb2⟩
      go_wp2_with fail
      refine (WinsS_c _ _ xs ys _ (Rd.below hrx (by (repeat (first | exact Below.refl _ _ | assumption | refine Below.setCell ?_ (by first | (simp; done) | omega | (simp; omega) | (simp at *; omega)) _ | refine Below.drew ?_ | refine below_drewN ?_ _ | refine below_alloc' ?_ _ | refine below_to' ?_ (by assumption))))) (Rd.below hry (by (repeat (first | exact Below.refl _ _ | assumption | refine Below.setCell ?_ (by first | (simp; done) | omega | (simp; omega) | (simp at *; omega)) _ | refine Below.drew ?_ | refine below_drewN ?_ _ | refine below_alloc' ?_ _ | refine below_to' ?_ (by assumption))))) (by omega) (by omega)).mono ?_
      rw [HM.out]
      rintro e w3 ⟨rfl, hb3⟩
      have hx3 : Rd w3 v xs := (Rd.below hrx (by (repeat (first | exact Below.refl _ _ | assumption | refine Below.setCell ?_ (by first | (simp; done) | omega | (simp; omega) | (simp at *; omega)) _ | refine Below.drew ?_ | refine below_drewN ?_ _ | refine below_alloc' ?_ _ | refine below_to' ?_ (by assumption)))))
      have hy3 : Rd w3 u ys := (Rd.below hry (by (repeat (first | exact Below.refl _ _ | assumption | refine Below.setCell ?_ (by first | (simp; done) | omega | (simp; omega) | (simp at *; omega)) _ | refine Below.drew ?_ | refine below_drewN ?_ _ | refine below_alloc' ?_ _ | refine below_to' ?_ (by assumption)))))
      have hb13 : Below w.heap.size w w3 := by (repeat (first | exact Below.refl _ _ | assumption | refine Below.setCell ?_ (by first | (simp; done) | omega | (simp; omega) | (simp at *; omega)) _ | refine Below.drew ?_ | refine below_drewN ?_ _ | refine below_alloc' ?_ _ | refine below_to' ?_ (by assumption)))
      obtain ⟨Av, cv, rfl, hcv, hmv, _⟩ := id hx3
      obtain ⟨Au, cu, rfl, hcu, hmu, _⟩ := id hy3
      go_wp2_with (at_builtin; first
        | (refine wpList_append_rd _ rfl (.tmp 35) (.tmp 36) rfl ints w3.heap.size _ _ [] xs rfl rfl (lit_own [] rfl rfl rfl (by simp) (Nat.le_refl _)) (hx3.alloc _) (by simp) (by simp) (by omega) (by omega) ?_; intro v4 w4 hown4 hb4 hg4 hat4 hk4 hlt4; have hb4' : Below w3.heap.size w3 w4 := ((Below.refl _ _).alloc (Nat.le_refl _) _).trans hb4; have hsz4 := hb4'.size)
        | (refine wpList_append_rd _ rfl (.tmp 37) (.tmp 38) rfl ints w3.heap.size _ _ _ ys rfl rfl hown4 (hy3.below hb4') hsz4 (by simp; omega) (by omega) (by omega) ?_; intro v5 w5 hown5 hb5 hg5 hat5 hk5 hlt5))
      have hb15 : Below w.heap.size w w5 := hb13.trans ((hb4'.mono hb13.size).trans (hb5.mono hb13.size))
      have hb35 : Below w3.heap.size w3 w5 := hb4'.trans hb5
      rw [List.nil_append] at hown5
      have hrd5 := hown5.sl.rd
      refine (RanksI_c _ (xs ++ ys) _ hrd5).mono ?_
      rw [HRR.out]
      rintro e w6 ⟨v6, rfl, hs6, hb6⟩
      have hrd6 := hs6.rd
      have hrl : (rankL (xs ++ ys)).length = xs.length + ys.length := by rw [rankL_len, List.length_append]
      have hrbd : allB (-1000000) 1000000 ((rankL (xs ++ ys)).take xs.length) = true := allB_iff.2 fun x hx => by have := rankL_bd (List.mem_of_mem_take hx); rw [List.length_append] at this; omega
      have HBD := hide hrbd
      have HRL := hide hrl
      clear hrl hrbd
      obtain ⟨A6, c6, rfl, hc6, hm6, _⟩ := id hrd6
      have hi : (xs.length : Int) ≤ ((rankL (xs ++ ys)).length : Int) := by have := HRL.out; omega
      go_wp2_with fail
      refine (WinsI_c _ _ ys xs _ ((hy3.below hb35).below hb6) ((hx3.below hb35).below hb6) (by omega) (by omega)).mono ?_
      rw [HM2.out]
      rintro e w7 ⟨rfl, hb7⟩
      have hE : (W + W2 == 2 * (xs.length : Int) * (ys.length : Int)) = true := beq_iff_eq.2 HE.out
      have hrd7 := hrd6.below hb7
      go_wp2_with fail
      refine (total_c _ ((rankL (xs ++ ys)).take xs.length) _ ?_ (by simp; omega) HBD.out).mono ?_
      · exact hrd7.front (by have := HRL.out; omega)
      rintro e w8 ⟨rfl, rfl⟩
      rw [HF.out]
      go_wp2_with fail
      go_ret
      exact ⟨ret_bool (by simp), by (repeat (first | exact Below.refl _ _ | assumption | refine Below.setCell ?_ (by first | (simp; done) | omega | (simp; omega) | (simp at *; omega)) _ | refine Below.drew ?_ | refine below_drewN ?_ _ | refine below_alloc' ?_ _ | refine below_to' ?_ (by assumption)))⟩
end Go.Proofs.Ytipmakmidadalaa
