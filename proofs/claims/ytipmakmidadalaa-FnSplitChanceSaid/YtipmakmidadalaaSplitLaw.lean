/-
  The statements FnExactSplitChance and FnSplitChance: for every input they return true and write nothing that was there.
-/
import Derived.Test.YtipmakmidadalaaSplitI
import Derived.Test.YtipmakmidadalaaDraw12
import Derived.Test.YtipmakmidadalaaHelp
namespace Go.Proofs.Ytipmakmidadalaa
open Go.RowKit

set_option maxHeartbeats 1000000 in
theorem FnExactSplitChance_c (u v : Value) (xs ys : List Int) (w : World) (hx : Rd w u xs) (hy : Rd w v ys) :
    Calls Try.prog 8 #[u, v] w fun e w' => e = .returned (.bool true) ∧ Below w.heap.size w w' := by
  have hcx := hx
  have hcy := hy
  obtain ⟨A, c, rfl, hc, hm, hd1⟩ := hx
  obtain ⟨A2, c2, rfl, hc2, hm2, hd2⟩ := hy
  clear hd1 hd2
  by_cases hl1 : 1048576 < xs.length
  · go_enter Try.func8, Try.ntmps8
    go_wp2
    go_ret
    exact ⟨rfl, Below.refl _ _⟩
  by_cases hl2 : 1048576 < ys.length
  · go_enter Try.func8, Try.ntmps8
    go_wp2
    go_ret
    exact ⟨rfl, Below.refl _ _⟩
  · go_enter Try.func8, Try.ntmps8
    go_wp2_with fail
    refine (toIntS_c _ xs _ hcx (by omega)).mono ?_
    rintro e w1 ⟨v1, rfl, hs1, hb1⟩
    go_wp2_with fail
    refine (toIntS_c _ ys _ (Rd.below hcy (by (repeat (first | exact Below.refl _ _ | assumption | refine Below.setCell ?_ (by first | (simp; done) | omega | (simp; omega) | (simp at *; omega)) _ | refine Below.drew ?_ | refine below_drewN ?_ _ | refine below_alloc' ?_ _ | refine below_to' ?_ (by assumption))))) (by omega)).mono ?_
    rintro e w2 ⟨v2, rfl, hs2, hb2⟩
    go_wp2_with fail
    refine (SplitS_c _ _ xs ys _ (Rd.below hs1.rd (by (repeat (first | exact Below.refl _ _ | assumption | refine Below.setCell ?_ (by first | (simp; done) | omega | (simp; omega) | (simp at *; omega)) _ | refine Below.drew ?_ | refine below_drewN ?_ _ | refine below_alloc' ?_ _ | refine below_to' ?_ (by assumption))))) hs2.rd (by omega) (by omega)).mono ?_
    rintro e w3 ⟨rfl, hb3⟩
    go_wp2_with fail
    refine (toIntS_c _ xs _ (Rd.below hcx (by (repeat (first | exact Below.refl _ _ | assumption | refine Below.setCell ?_ (by first | (simp; done) | omega | (simp; omega) | (simp at *; omega)) _ | refine Below.drew ?_ | refine below_drewN ?_ _ | refine below_alloc' ?_ _ | refine below_to' ?_ (by assumption))))) (by omega)).mono ?_
    rintro e w4 ⟨v4, rfl, hs4, hb4⟩
    go_wp2_with fail
    refine (toIntS_c _ ys _ (Rd.below hcy (by (repeat (first | exact Below.refl _ _ | assumption | refine Below.setCell ?_ (by first | (simp; done) | omega | (simp; omega) | (simp at *; omega)) _ | refine Below.drew ?_ | refine below_drewN ?_ _ | refine below_alloc' ?_ _ | refine below_to' ?_ (by assumption))))) (by omega)).mono ?_
    rintro e w5 ⟨v5, rfl, hs5, hb5⟩
    go_wp2_with fail
    refine (SplitI_c _ _ xs ys _ (Rd.below hs4.rd (by (repeat (first | exact Below.refl _ _ | assumption | refine Below.setCell ?_ (by first | (simp; done) | omega | (simp; omega) | (simp at *; omega)) _ | refine Below.drew ?_ | refine below_drewN ?_ _ | refine below_alloc' ?_ _ | refine below_to' ?_ (by assumption))))) hs5.rd (by omega) (by omega)).mono ?_
    rintro e w6 ⟨rfl, hb6⟩
    go_wp2_with fail
    refine (toIntS_c _ xs _ (Rd.below hcx (by (repeat (first | exact Below.refl _ _ | assumption | refine Below.setCell ?_ (by first | (simp; done) | omega | (simp; omega) | (simp at *; omega)) _ | refine Below.drew ?_ | refine below_drewN ?_ _ | refine below_alloc' ?_ _ | refine below_to' ?_ (by assumption))))) (by omega)).mono ?_
    rintro e w7 ⟨v7, rfl, hs7, hb7⟩
    go_wp2_with fail
    refine (eqIntS_c _ _ xs xs true _ (Rd.below hs4.rd (by (repeat (first | exact Below.refl _ _ | assumption | refine Below.setCell ?_ (by first | (simp; done) | omega | (simp; omega) | (simp at *; omega)) _ | refine Below.drew ?_ | refine below_drewN ?_ _ | refine below_alloc' ?_ _ | refine below_to' ?_ (by assumption))))) hs7.rd (by simp)).mono ?_
    rintro e w8 ⟨rfl, hb8⟩
    go_wp2_with fail
    refine (toIntS_c _ ys _ (Rd.below hcy (by (repeat (first | exact Below.refl _ _ | assumption | refine Below.setCell ?_ (by first | (simp; done) | omega | (simp; omega) | (simp at *; omega)) _ | refine Below.drew ?_ | refine below_drewN ?_ _ | refine below_alloc' ?_ _ | refine below_to' ?_ (by assumption))))) (by omega)).mono ?_
    rintro e w9 ⟨v9, rfl, hs9, hb9⟩
    go_wp2_with fail
    refine (eqIntS_c _ _ ys ys true _ (Rd.below hs5.rd (by (repeat (first | exact Below.refl _ _ | assumption | refine Below.setCell ?_ (by first | (simp; done) | omega | (simp; omega) | (simp at *; omega)) _ | refine Below.drew ?_ | refine below_drewN ?_ _ | refine below_alloc' ?_ _ | refine below_to' ?_ (by assumption))))) hs9.rd (by simp)).mono ?_
    rintro e w10 ⟨rfl, hb10⟩
    go_wp2_with fail
    go_ret
    refine ⟨rfl, ?_⟩
    (repeat (first | exact Below.refl _ _ | assumption | refine Below.setCell ?_ (by first | (simp; done) | omega | (simp; omega) | (simp at *; omega)) _ | refine Below.drew ?_ | refine below_drewN ?_ _ | refine below_alloc' ?_ _ | refine below_to' ?_ (by assumption)))

theorem split_law {xs ys : List Int} (hok : okTwo xs ys = true) : splitY ys xs = splitY xs ys ∧ 1 ≤ splitX xs ys ∧ splitX xs ys ≤ splitY xs ys ∧ splitY xs ys < splitX xs ys + splitX ys xs ∧ splitX ys xs ≤ splitY xs ys ∧ splitY xs ys ≤ 252 ∧ splitY xs ys = pasc (xs.length + ys.length) xs.length := by
  have hok2 : okTwo ys xs = true := okTwo_swap xs ys ▸ hok
  obtain ⟨h1, h2, h3, h4⟩ := split_facts xs ys
  obtain ⟨k1, k2, _, _⟩ := split_facts ys xs
  obtain ⟨_, _, hs, _, _⟩ := okTwo_all hok
  have a1 := (split_ok hok).1
  have a2 := (split_ok hok).2
  have b1 := (split_ok hok2).1
  have b2 := (split_ok hok2).2
  have c1 : waysN (xs ++ ys) xs.length (fun _ => true) = splitY xs ys := by rw [waysN_all, List.length_append, a2]
  have c2 : waysN (ys ++ xs) ys.length (fun _ => true) = splitY ys xs := by rw [waysN_all, List.length_append, b2]
  have p := (choose_pasc (xs.length + ys.length) hs xs.length (by omega)).2.2.2
  unfold atN at a1 b1
  rw [c1, ← a1] at h2
  rw [← a1] at h1
  rw [c1, c2] at h3
  rw [c1, ← a1, ← b1] at h4
  rw [c2, ← b1] at k2
  exact ⟨h3, h1, h2, h4, by omega, by omega, a2⟩

set_option maxHeartbeats 2000000 in
theorem FnSplitChance_c (A : Option Addr) (n c : Nat) (bs : List Int) (w : World) (hl : bs.length = n) (hnc : n ≤ c) (hc : c ≤ 9223372036854775807) (hr : Rd8 w w.heap.size A bs) :
    Calls Try.prog 11 #[.slice A n c] w fun e w' => e = .returned (.bool true) ∧ Below w.heap.size w w' := by
  by_cases hbig : 1048576 < n
  · go_enter Try.func11, Try.ntmps11
    go_wp2
    go_ret
    exact ⟨rfl, Below.refl _ _⟩
  · go_enter Try.func11, Try.ntmps11
    go_wp2_with fail
    refine (DrawSplitChance_c A n c bs _ hl hnc hc hr).mono ?_
    rintro e w1 ⟨v, xs, u, ys, rfl, hsv, hxl, hsu, hyl, hb1⟩
    have hrx := hsv.rd
    have hry := hsu.rd
    cases hok : okTwo xs ys
    · have HM := hide (split_bad hok)
      clear hok
      go_wp2_with fail
      refine (SplitI_c _ _ xs ys _ hrx hry (by omega) (by omega)).mono ?_
      rw [HM.out.1, HM.out.2]
      rintro e w2 ⟨rfl, hb2⟩
      go_wp2_with fail
      refine (SplitS_c _ _ xs ys _ (Rd.below hrx (by (repeat (first | exact Below.refl _ _ | assumption | refine Below.setCell ?_ (by first | (simp; done) | omega | (simp; omega) | (simp at *; omega)) _ | refine Below.drew ?_ | refine below_drewN ?_ _ | refine below_alloc' ?_ _ | refine below_to' ?_ (by assumption))))) (Rd.below hry (by (repeat (first | exact Below.refl _ _ | assumption | refine Below.setCell ?_ (by first | (simp; done) | omega | (simp; omega) | (simp at *; omega)) _ | refine Below.drew ?_ | refine below_drewN ?_ _ | refine below_alloc' ?_ _ | refine below_to' ?_ (by assumption))))) (by omega) (by omega)).mono ?_
      rw [HM.out.1, HM.out.2]
      rintro e w3 ⟨rfl, hb3⟩
      go_wp2_with fail
      go_ret
      exact ⟨rfl, by (repeat (first | exact Below.refl _ _ | assumption | refine Below.setCell ?_ (by first | (simp; done) | omega | (simp; omega) | (simp at *; omega)) _ | refine Below.drew ?_ | refine below_drewN ?_ _ | refine below_alloc' ?_ _ | refine below_to' ?_ (by assumption)))⟩
    · have hfacts := split_law hok
      obtain ⟨h1, h2, hsum, h4, h5⟩ := okTwo_all hok
      obtain ⟨X, hX⟩ : ∃ q, splitX xs ys = q := ⟨_, rfl⟩
      obtain ⟨Y, hY⟩ : ∃ q, splitY xs ys = q := ⟨_, rfl⟩
      obtain ⟨X2, hX2⟩ : ∃ q, splitX ys xs = q := ⟨_, rfl⟩
      rw [hX, hY, hX2] at hfacts
      obtain ⟨f1, f2, f3, f4, f5, f6, f7⟩ := hfacts
      have HX := hide hX
      have HY := hide hY
      have HX2 := hide hX2
      have HY2 := hide f1
      have HP := hide f7
      clear hok h1 h2 hX hY hX2 f1 f7
      go_wp2_with fail
      refine (SplitI_c _ _ xs ys _ hrx hry (by omega) (by omega)).mono ?_
      rw [HX.out, HY.out]
      rintro e w2 ⟨rfl, hb2⟩
      go_wp2_with fail
      refine (SplitS_c _ _ xs ys _ (Rd.below hrx (by (repeat (first | exact Below.refl _ _ | assumption | refine Below.setCell ?_ (by first | (simp; done) | omega | (simp; omega) | (simp at *; omega)) _ | refine Below.drew ?_ | refine below_drewN ?_ _ | refine below_alloc' ?_ _ | refine below_to' ?_ (by assumption))))) (Rd.below hry (by (repeat (first | exact Below.refl _ _ | assumption | refine Below.setCell ?_ (by first | (simp; done) | omega | (simp; omega) | (simp at *; omega)) _ | refine Below.drew ?_ | refine below_drewN ?_ _ | refine below_alloc' ?_ _ | refine below_to' ?_ (by assumption))))) (by omega) (by omega)).mono ?_
      rw [HX.out, HY.out]
      rintro e w3 ⟨rfl, hb3⟩
      go_wp2_with fail
      refine (SplitI_c _ _ ys xs _ (Rd.below hry (by (repeat (first | exact Below.refl _ _ | assumption | refine Below.setCell ?_ (by first | (simp; done) | omega | (simp; omega) | (simp at *; omega)) _ | refine Below.drew ?_ | refine below_drewN ?_ _ | refine below_alloc' ?_ _ | refine below_to' ?_ (by assumption))))) (Rd.below hrx (by (repeat (first | exact Below.refl _ _ | assumption | refine Below.setCell ?_ (by first | (simp; done) | omega | (simp; omega) | (simp at *; omega)) _ | refine Below.drew ?_ | refine below_drewN ?_ _ | refine below_alloc' ?_ _ | refine below_to' ?_ (by assumption))))) (by omega) (by omega)).mono ?_
      rw [HX2.out, HY2.out]
      rintro e w4 ⟨rfl, hb4⟩
      obtain ⟨Av, cv, rfl, hcv, hmv, _⟩ := id hrx
      obtain ⟨Au, cu, rfl, hcu, hmu, _⟩ := id hry
      go_wp2_with fail
      refine (chooseL_c (xs.length + ys.length) xs.length _ hsum (by omega)).mono ?_
      rw [← HP.out]
      rintro e w5 ⟨rfl, rfl⟩
      go_wp2_with fail
      go_ret
      exact ⟨rfl, by (repeat (first | exact Below.refl _ _ | assumption | refine Below.setCell ?_ (by first | (simp; done) | omega | (simp; omega) | (simp at *; omega)) _ | refine Below.drew ?_ | refine below_drewN ?_ _ | refine below_alloc' ?_ _ | refine below_to' ?_ (by assumption)))⟩
end Go.Proofs.Ytipmakmidadalaa
