/-
  The statement FnExactAreaByPairs: for every input it returns true and writes nothing that was there.
-/
import Derived.Test.YtcmjmnlccempfaaArea
import Derived.Test.YtcmjmnlccempfaaFrac
namespace Go.Proofs.Ytcmjmnlccempfaa
open Go.RowKit

theorem winsL_snoc (xs : List Int) (x : Int) (ys : List Int) : winsL (xs ++ [x]) ys = winsL xs ys + rankIn x ys := by simp [winsL, sumL_snoc]
theorem winsL_bd' {xs ys : List Int} (h : ys.length ≤ 10) : 0 ≤ winsL xs ys ∧ winsL xs ys ≤ 20 * xs.length := by
  have := winsL_take_bd (xs := xs) h xs.length
  rwa [List.take_of_length_le (by simp)] at this
theorem rankIn_bd' (v : Int) (ys : List Int) : 0 ≤ rankIn v ys ∧ rankIn v ys ≤ 2 * ys.length := by
  have := rankIn_bd v ys ys.length
  rwa [List.take_length] at this
def areaY (us bs : List Int) : Int × Int × Bool :=
  if 0 < us.length ∧ 0 < bs.length then ((qf (winsL us bs) (2 * us.length * bs.length)).num, ((qf (winsL us bs) (2 * us.length * bs.length)).den : Int), true) else (0, 0, false)
def areaX (xs ms : List Int) : Int × Int × Bool := if okCases xs ms then areaY (partTo xs ms 1 xs.length) (partTo xs ms 0 xs.length) else (0, 0, false)
theorem areaX_no {xs ms : List Int} (h : okCases xs ms = false) : areaX xs ms = (0, 0, false) := by simp [areaX, h]
theorem areaX_ok {xs ms : List Int} (h : okCases xs ms = true) : areaX xs ms = areaY (partTo xs ms 1 xs.length) (partTo xs ms 0 xs.length) := by simp [areaX, h]
theorem areaY_no {us bs : List Int} (h : ¬ (0 < us.length ∧ 0 < bs.length)) : areaY us bs = (0, 0, false) := by rw [areaY, if_neg h]
theorem areaY_yes {us bs : List Int} (h1 : 0 < us.length) (h2 : 0 < bs.length) : areaY us bs = ((qf (winsL us bs) (2 * us.length * bs.length)).num, ((qf (winsL us bs) (2 * us.length * bs.length)).den : Int), true) := by rw [areaY, if_pos ⟨h1, h2⟩]
theorem area_mul {a b : Nat} (ha : a ≤ 10) (hb : b ≤ 10) : 0 ≤ 2 * (a : Int) * (b : Int) ∧ 2 * (a : Int) * (b : Int) ≤ 200 ∧ (0 < a → 0 < b → 2 * (a : Int) * (b : Int) ≠ 0) := by
  have h := mul_abs_bd (a := 2 * (a : Int)) (x := (b : Int)) (m := 20) (n := 10) (by omega) (by omega) (by omega) (by omega)
  refine ⟨Int.mul_nonneg (by omega) (by omega), by omega, fun h1 h2 => ?_⟩
  have := Int.mul_pos (a := 2 * (a : Int)) (b := (b : Int)) (by omega) (by omega)
  omega
theorem area_next (a b : Nat) : 2 * ((a : Int) + 1) * (b : Int) = 2 * (a : Int) * (b : Int) + 2 * (b : Int) := by grind

set_option maxHeartbeats 1000000 in
theorem AreaS_c (u z : Value) (xs ms : List Int) (w : World) (hx : Rd w u xs) (hz : Rd w z ms) :
    Calls Try.prog 18 #[u, z] w fun e w' => e = .returned (.tuple #[.agg #[.int .i64 (areaX xs ms).1, .int .i64 (areaX xs ms).2.1], .bool (areaX xs ms).2.2]) ∧ Below w.heap.size w w' := by
  have hcx := hx
  have hcz := hz
  obtain ⟨A, c, rfl, hc, hm, hd1⟩ := hx
  obtain ⟨A3, c3, rfl, hc3, hm3, hd3⟩ := hz
  clear hd1 hd3
  cases hok : okCases xs ms
  · rw [areaX_no hok]
    have HO := hide hok
    clear hok
    go_enter Try.func18, Try.ntmps18
    go_wp2_with fail
    refine (validCases_c _ _ xs ms false _ (hcx.alloc _) (hcz.alloc _) HO.out).mono ?_
    rintro e w1 ⟨rfl, rfl⟩
    go_wp2_with fail
    refine bodyPost_ret (v := .tuple #[.agg #[.int .i64 0, .int .i64 0], .bool false]) (by simp [results, Try.results18, go_sem]) rfl ⟨rfl, ?_⟩
    (repeat (first | exact Below.refl _ _ | assumption | refine Below.setCell ?_ (by first | (simp; done) | omega | (simp; omega) | (simp at *; omega)) _ | refine Below.drew ?_ | refine below_drewN ?_ _ | refine below_alloc' ?_ _ | refine below_to' ?_ (by assumption)))
  · rw [areaX_ok hok]
    obtain ⟨hd, hl, h0, hma⟩ := okCases_all hok
    have hlen := (okData_all hd).2
    have PA := hide fun u z w (h1 : Rd w u xs) (h2 : Rd w z ms) => partOf_c u z xs ms 1 w h1 h2 hok
    have PB := hide fun u z w (h1 : Rd w u xs) (h2 : Rd w z ms) => partOf_c u z xs ms 0 w h1 h2 hok
    have DA := hide (partTo_data (m := 1) (ms := ms) hd)
    have DB := hide (partTo_data (m := 0) (ms := ms) hd)
    have LA := partTo_len xs ms 1 xs.length
    have LB := partTo_len xs ms 0 xs.length
    have HO := hide hok
    obtain ⟨us, has⟩ : ∃ q, partTo xs ms 1 xs.length = q := ⟨_, rfl⟩
    obtain ⟨bs, hbs⟩ : ∃ q, partTo xs ms 0 xs.length = q := ⟨_, rfl⟩
    rw [has] at PA DA LA ⊢
    rw [hbs] at PB DB LB ⊢
    have hU := winsL_bd' (xs := us) (ys := bs) (by omega)
    obtain ⟨hM1, hM2, hM3⟩ := area_mul (a := us.length) (b := bs.length) (by omega) (by omega)
    clear hok hl hd hma has hbs
    go_enter Try.func18, Try.ntmps18
    go_wp2_with fail
    refine (validCases_c _ _ xs ms true _ (hcx.alloc _) (hcz.alloc _) HO.out).mono ?_
    rintro e w1 ⟨rfl, rfl⟩
    go_wp2_with fail
    refine (PA.out _ _ _ (hcx.alloc _) (hcz.alloc _)).mono ?_
    rintro e w2 ⟨va, rfl, hsa, hb2⟩
    have hbA : Below w.heap.size w w2 := by (repeat (first | exact Below.refl _ _ | assumption | refine Below.setCell ?_ (by first | (simp; done) | omega | (simp; omega) | (simp at *; omega)) _ | refine Below.drew ?_ | refine below_drewN ?_ _ | refine below_alloc' ?_ _ | refine below_to' ?_ (by assumption)))
    go_wp2_with fail
    refine (PB.out _ _ _ (hcx.below hbA) (hcz.below hbA)).mono ?_
    rintro e w3 ⟨vb, rfl, hsb, hb3⟩
    obtain ⟨hc1, hf1⟩ := bcell hb2
    obtain ⟨hc2, hf2⟩ := bcell hb3
    have hz2 := hb2.size
    have hz3 := hb3.size
    have hza : w.heap.size < w2.heap.size := by simp at hz2; omega
    have hra : Rd w3 va us := (Rd.below hsa.rd (by (repeat (first | exact Below.refl _ _ | assumption | refine Below.setCell ?_ (by first | (simp; done) | omega | (simp; omega) | (simp at *; omega)) _ | refine Below.drew ?_ | refine below_drewN ?_ _ | refine below_alloc' ?_ _ | refine below_to' ?_ (by assumption)))))
    have hrb : Rd w3 vb bs := hsb.rd
    have hbB : Below w.heap.size w w3 := hbA.trans (hb3.mono hbA.size)
    clear hsa hsb hb2
    obtain ⟨Aa, ca, rfl, hca, hma, _⟩ := id hra
    obtain ⟨Ab, cb, rfl, hcb, hmb, _⟩ := id hrb
    by_cases ha : 0 < us.length
    · have hab : ((us.length : Int) == 0) = false := beq_eq_false_iff_ne.2 (by omega)
      by_cases hb : 0 < bs.length
      · have HY := hide (areaY_yes ha hb)
        have hbb : ((bs.length : Int) == 0) = false := beq_eq_false_iff_ne.2 (by omega)
        have e1 : IntKind.i64.wrap (2 * (us.length : Int)) = 2 * (us.length : Int) := IntWalk.i64_in _ (by omega)
        obtain ⟨D, hD⟩ : ∃ D, 2 * (us.length : Int) * (bs.length : Int) = D := ⟨_, rfl⟩
        have hD0 := hM3 ha hb
        rw [hD] at hM1 hM2 hD0 HY
        have e2 : IntKind.i64.wrap (2 * (us.length : Int) * (bs.length : Int)) = D := by rw [hD]; exact IntWalk.i64_in _ (by omega)
        have W := hide fun w h1 h2 => winsS_c (.slice Aa us.length ca) (.slice Ab bs.length cb) us bs w h1 h2 DA.out DB.out
        obtain ⟨U, hUe⟩ : ∃ U, winsL us bs = U := ⟨_, rfl⟩
        rw [hUe] at hU W HY
        clear hM3 hD hUe
        go_wp2_with fail
        refine (W.out _ hra hrb).mono ?_
        rintro e w4 ⟨rfl, hb4⟩
        obtain ⟨hc4, hf4⟩ := bcell hb4
        have hz4 := hb4.size
        go_wp2_with fail
        refine (fracS_c U D _ (by omega) (by omega) hD0).mono ?_
        rintro e w5 ⟨rfl, hb5⟩
        obtain ⟨hc5, hf5⟩ := bcell hb5
        have hz5 := hb5.size
        have y1 : w.heap.size < w3.heap.size := by omega
        have y2 : w.heap.size < w4.heap.size := by omega
        go_wp2_with fail
        refine bodyPost_ret (v := .tuple #[.agg #[.int .i64 (qf U D).num, .int .i64 ((qf U D).den : Int)], .bool true]) (by simp [results, Try.results18, go_sem, hc5, hc4, hc2, hc1, hza, y1, y2]) rfl ⟨by rw [HY.out], ?_⟩
        refine Below.setCell ?_ (by simp) _
        (repeat (first | exact Below.refl _ _ | assumption | refine Below.setCell ?_ (by first | (simp; done) | omega | (simp; omega) | (simp at *; omega)) _ | refine Below.drew ?_ | refine below_drewN ?_ _ | refine below_alloc' ?_ _ | refine below_to' ?_ (by assumption)))
      · have HY := hide (areaY_no (us := us) (bs := bs) fun h => hb h.2)
        have hbb : ((bs.length : Int) == 0) = true := beq_iff_eq.2 (by omega)
        go_wp2_with fail
        refine bodyPost_ret (v := .tuple #[.agg #[.int .i64 0, .int .i64 0], .bool false]) (by simp [results, Try.results18, go_sem, hc2, hc1, hza]) rfl ⟨by rw [HY.out], ?_⟩
        (repeat (first | exact Below.refl _ _ | assumption | refine Below.setCell ?_ (by first | (simp; done) | omega | (simp; omega) | (simp at *; omega)) _ | refine Below.drew ?_ | refine below_drewN ?_ _ | refine below_alloc' ?_ _ | refine below_to' ?_ (by assumption)))
    · have HY := hide (areaY_no (us := us) (bs := bs) fun h => ha h.1)
      have hab : ((us.length : Int) == 0) = true := beq_iff_eq.2 (by omega)
      go_wp2_with fail
      refine bodyPost_ret (v := .tuple #[.agg #[.int .i64 0, .int .i64 0], .bool false]) (by simp [results, Try.results18, go_sem, hc2, hc1, hza]) rfl ⟨by rw [HY.out], ?_⟩
      (repeat (first | exact Below.refl _ _ | assumption | refine Below.setCell ?_ (by first | (simp; done) | omega | (simp; omega) | (simp at *; omega)) _ | refine Below.drew ?_ | refine below_drewN ?_ _ | refine below_alloc' ?_ _ | refine below_to' ?_ (by assumption)))
end Go.Proofs.Ytcmjmnlccempfaa
