
/-
  The statement FnExactCurveAt: for every input it returns true and writes nothing that was there.
-/
import Derived.Test.YtgageljahebjnaaCurA
import Derived.Test.YtgageljahebjnaaEqF
namespace Go.Proofs.Ytgageljahebjnaa
open Go.RowKit

theorem okC_parts {xs ys : List Int} {z : Int} (h : okC xs ys z) : okP5 xs ys = true ∧ ys.length = xs.length ∧ (1 ≤ xs.length ∧ xs.length ≤ 5) ∧ Dif (atL xs) xs.length ∧ Pl (atL xs) xs.length ∧ Pl (atL ys) xs.length ∧ (-12 ≤ z ∧ z ≤ 12) := by
  obtain ⟨h1, ⟨h2, h2'⟩, h3, h4⟩ := h
  simp only [okPts, Bool.and_eq_true, decide_eq_true_eq] at h1
  obtain ⟨⟨⟨k1, k2⟩, k3⟩, k4⟩ := h1
  refine ⟨?_, k1.symm, ⟨h2, h2'⟩, h3, fun i hi => by rw [atL_lt hi]; exact allB_get k3 hi, fun i hi => by rw [atL_lt (by omega)]; exact allB_get k4 (by omega), h4⟩
  simp only [okP5, Bool.and_eq_true, decide_eq_true_eq]
  exact ⟨⟨⟨k1, by omega, by omega⟩, k3⟩, k4⟩
theorem okC_of {xs ys : List Int} {z : Int} (h : (okP5 xs ys = true ∧ Dif (atL xs) xs.length) ∧ (-12 ≤ z ∧ z ≤ 12)) : okC xs ys z := by
  obtain ⟨⟨h1, h3⟩, h4⟩ := h
  simp only [okP5, Bool.and_eq_true, decide_eq_true_eq] at h1
  obtain ⟨⟨⟨k1, k2, k2'⟩, k3⟩, k4⟩ := h1
  refine ⟨?_, ⟨by omega, by omega⟩, h3, h4⟩
  simp only [okPts, Bool.and_eq_true, decide_eq_true_eq]
  exact ⟨⟨⟨k1, by omega⟩, k3⟩, k4⟩

/-- Where both return the same. -/
def BothC (xs ys : List Int) (z a b : Int) (t : Bool) : Prop :=
  (∀ u v w, Rd w u xs → Rd w v ys → Calls Try.prog 8 #[u, v, .int .i64 z] w fun e w' => e = .returned (.tuple #[.agg #[.int .i64 a, .int .i64 b], .bool t]) ∧ Below w.heap.size w w') ∧
  (∀ u v w, Rd w u xs → Rd w v ys → Calls Try.prog 10 #[u, v, .int .i64 z] w fun e w' => e = .returned (.tuple #[.agg #[.int .i64 a, .int .i64 b], .bool t]) ∧ Below w.heap.size w w')
theorem both_curve (xs ys : List Int) (z : Int) : ∃ a b t, BothC xs ys z a b t := by
  by_cases h : okC xs ys z
  · obtain ⟨h1, h2, ⟨h3, h4⟩, h5, h6, h7, h8⟩ := okC_parts h
    exact ⟨_, _, true, fun u v w hx hy => CurveS_yes u v xs ys z xs.length w hx hy h.1 rfl h2 h3 h4 (fun i j a b e => h5 i j a b (by omega)) h6 h7 h8,
      fun u v w hx hy => CurveI_yes u v xs ys z xs.length w hx hy h1 rfl h2 h3 h4 h5 h6 h7 h8⟩
  · exact ⟨0, 0, false, fun u v w hx hy => CurveS_no u v xs ys z w hx hy h, fun u v w hx hy => CurveI_no u v xs ys z w hx hy (fun k => h (okC_of k))⟩

set_option maxHeartbeats 2000000 in
theorem FnExactCurveAt_c (u v : Value) (xs ys : List Int) (z : Int) (w : World) (hx : Rd w u xs) (hy : Rd w v ys) :
    Calls Try.prog 3 #[u, v, .int .i64 z] w fun e w' => e = .returned (.bool true) ∧ Below w.heap.size w w' := by
  have hcx := hx
  have hcy := hy
  obtain ⟨A, c, rfl, hc, hm, hd1⟩ := hx
  obtain ⟨A2, c2, rfl, hc2, hm2, hd2⟩ := hy
  clear hd1 hd2
  by_cases hl1 : 1048576 < xs.length
  · go_enter Try.func3, Try.ntmps3
    go_wp2
    go_ret
    exact ⟨rfl, Below.refl _ _⟩
  by_cases hl2 : 1048576 < ys.length
  · go_enter Try.func3, Try.ntmps3
    go_wp2
    go_ret
    exact ⟨rfl, Below.refl _ _⟩
  obtain ⟨a, b, t, hBC⟩ := both_curve xs ys z
  have HBC := hide hBC
  clear hBC
  cases t
  all_goals
    go_enter Try.func3, Try.ntmps3
    go_wp2_with fail
    refine (toIntS_c _ xs _ hcx (by omega)).mono ?_
    rintro e w1 ⟨v1, rfl, hs1, hb1⟩
    go_wp2_with fail
    refine (toIntS_c _ ys _ (hcy.below hb1) (by omega)).mono ?_
    rintro e w2 ⟨v2, rfl, hs2, hb2⟩
    have hbw2 : Below w.heap.size w w2 := hb1.trans (hb2.mono hb1.size)
    go_wp2_with fail
    refine (HBC.out.1 _ _ _ (hs1.rd.below hb2) hs2.rd).mono ?_
    rintro e w3 ⟨rfl, hb3⟩
    have hbw3 : Below w.heap.size w w3 := hbw2.trans (hb3.mono hbw2.size)
    go_wp2_with fail
    obtain ⟨U, hU, hbU, hUs, hP⟩ := new1 w3 24 a b
    rw [hU]
    have HP := hide hP
    have hbwU : Below w.heap.size w U := hbw3.trans (hbU.mono hbw3.size)
    clear hU hP
    refine (toIntS_c _ xs _ (hcx.below hbwU) (by omega)).mono ?_
    rintro e w4 ⟨v4, rfl, hs4, hb4⟩
    have hbw4 : Below w.heap.size w w4 := hbwU.trans (hb4.mono hbwU.size)
    go_wp2_with fail
    refine (toIntS_c _ ys _ (hcy.below hbw4) (by omega)).mono ?_
    rintro e w5 ⟨v5, rfl, hs5, hb5⟩
    have hbw5 : Below w.heap.size w w5 := hbw4.trans (hb5.mono hbw4.size)
    go_wp2_with fail
    refine (HBC.out.2 _ _ _ (hs4.rd.below hb5) hs5.rd).mono ?_
    rintro e w6 ⟨rfl, hb6⟩
    have hbw6 : Below w.heap.size w w6 := hbw5.trans (hb6.mono hbw5.size)
    have hbU6 : Below U.heap.size U w6 := hb4.trans ((hb5.mono hb4.size).trans (hb6.mono (by have := hb4.size; have := hb5.size; omega)))
    have hz6 := hbU6.size
    obtain ⟨Z, hZ, hbZ, hZs, hQ⟩ := new1 w6 24 a b
    have hbUZ : Below U.heap.size U Z := hbU6.trans (hbZ.mono hz6)
    have hbwZ : Below w.heap.size w Z := hbw6.trans (hbZ.mono hbw6.size)
    obtain ⟨⟨p1, p2⟩, -, -⟩ := HP.out.below hbUZ (by omega)
    obtain ⟨⟨q1, q2⟩, -, -⟩ := hQ
    have HR4 := hide ((hs4.rd.below hb5).below (hb6.trans (hbZ.mono hb6.size)))
    have HR5 := hide ((hs5.rd.below hb6).below hbZ)
    clear hs1 hs2 hs4 hs5
    go_wp2_with fail
    clear hZ
    refine (eqFracP_same _ _ _).mono ?_
    rintro e w7 ⟨rfl, hb7⟩
    have hbw7 : Below w.heap.size w w7 := hbwZ.trans (hb7.mono hbwZ.size)
    go_wp2_with fail
    refine (toIntS_c _ xs _ (hcx.below hbw7) (by omega)).mono ?_
    rintro e w8 ⟨v8, rfl, hs8, hb8⟩
    have hbw8 : Below w.heap.size w w8 := hbw7.trans (hb8.mono hbw7.size)
    go_wp2_with fail
    refine (eqIntS_c _ _ xs xs true _ ((HR4.out.below hb7).below hb8) hs8.rd (by simp)).mono ?_
    rintro e w9 ⟨rfl, hb9⟩
    have hbw9 : Below w.heap.size w w9 := hbw8.trans (hb9.mono hbw8.size)
    clear hs8
    go_wp2_with fail
    refine (toIntS_c _ ys _ (hcy.below hbw9) (by omega)).mono ?_
    rintro e w10 ⟨v10, rfl, hs10, hb10⟩
    have hbw10 : Below w.heap.size w w10 := hbw9.trans (hb10.mono hbw9.size)
    go_wp2_with fail
    refine (eqIntS_c _ _ ys ys true _ ((((HR5.out.below hb7).below hb8).below hb9).below hb10) hs10.rd (by simp)).mono ?_
    rintro e w11 ⟨rfl, hb11⟩
    go_wp2_with fail
    go_ret
    exact ⟨rfl, hbw10.trans (hb11.mono hbw10.size)⟩
end Go.Proofs.Ytgageljahebjnaa
