/-
  The statement FnExactNearLine: for every input it returns true and writes nothing that was there.
-/
import Derived.Test.YtahogdcmnpidiaaNearI
import Derived.Test.YtahogdcmnpidiaaSqLaw
namespace Go.Proofs.Ytahogdcmnpidiaa
open Go.RowKit

def tripQ (p q r : Int × Int) (t : Bool) : Value := .tuple #[.agg #[.int .i64 p.1, .int .i64 p.2], .agg #[.int .i64 q.1, .int .i64 q.2], .agg #[.int .i64 r.1, .int .i64 r.2], .bool t]
theorem NearS_all (u v : Value) (xs ys : List Int) (w : World) (hx : Rd w u xs) (hy : Rd w v ys) (R : (Int × Int) × (Int × Int) × (Int × Int) × Bool) (hR : nearQ xs ys = R) :
    Calls Try.prog 27 #[u, v] w fun e w' => e = .returned (tripQ R.1 R.2.1 R.2.2.1 R.2.2.2) ∧ Below w.heap.size w w' := by
  subst hR
  cases hok : okCloud xs ys
  · have : nearQ xs ys = ((0, 0), (0, 0), (0, 0), false) := by simp [nearQ, hok]
    rw [this]
    exact NearS_no u v xs ys w hx hy hok
  · have : nearQ xs ys = (oS (bestP xs ys xs.length), oH (bestP xs ys xs.length), oF (bestP xs ys xs.length), true) := by simp [nearQ, hok]
    rw [this]
    exact NearS_yes u v xs ys w hx hy hok
theorem NearI_all (u v : Value) (xs ys : List Int) (w : World) (hx : Rd w u xs) (hy : Rd w v ys) (R : (Int × Int) × (Int × Int) × (Int × Int) × Bool) (hR : nearQ xs ys = R) :
    Calls Try.prog 28 #[u, v] w fun e w' => e = .returned (tripQ R.1 R.2.1 R.2.2.1 R.2.2.2) ∧ Below w.heap.size w w' := by
  subst hR
  cases hok : okCloud xs ys
  · have : nearQ xs ys = ((0, 0), (0, 0), (0, 0), false) := by simp [nearQ, hok]
    rw [this]
    exact NearI_no u v xs ys w hx hy hok
  · have : nearQ xs ys = (oS (bestP xs ys xs.length), oH (bestP xs ys xs.length), oF (bestP xs ys xs.length), true) := by simp [nearQ, hok]
    rw [this]
    exact NearI_yes u v xs ys w hx hy hok
/-- Three new pairs of cells. -/
theorem new3v (w : World) (T : TypeId) (a b a2 b2 a3 b3 : Int) : ∃ V, ((w.alloc (.cells #[.int .i64 a, .int .i64 b] T)).alloc (.cells #[.int .i64 a2, .int .i64 b2] T)).alloc (.cells #[.int .i64 a3, .int .i64 b3] T) = V ∧ Below w.heap.size w V ∧ w.heap.size + 2 < V.heap.size ∧
    ∀ wz, Below V.heap.size V wz → (wz.cell? ⟨w.heap.size, 0, none⟩ = some (.int .i64 a) ∧ wz.cell? ⟨w.heap.size, 1, none⟩ = some (.int .i64 b)) ∧ (wz.cell? ⟨w.heap.size + 1, 0, none⟩ = some (.int .i64 a2) ∧ wz.cell? ⟨w.heap.size + 1, 1, none⟩ = some (.int .i64 b2)) ∧
      (wz.cell? ⟨w.heap.size + 1 + 1, 0, none⟩ = some (.int .i64 a3) ∧ wz.cell? ⟨w.heap.size + 1 + 1, 1, none⟩ = some (.int .i64 b3)) := by
  refine ⟨_, rfl, by (repeat (first | exact Below.refl _ _ | assumption | refine Below.setCell ?_ (by first | (simp; done) | omega | (simp; omega) | (simp at *; omega)) _ | refine Below.drew ?_ | refine below_drewN ?_ _ | refine below_alloc' ?_ _ | refine below_to' ?_ (by assumption))), by simp, fun wz hz => ⟨⟨?_, ?_⟩, ⟨?_, ?_⟩, ?_, ?_⟩⟩
  all_goals (rw [hz.cell (by simp; try omega)]; simp [go_sem]; done)

set_option maxRecDepth 100000 in
set_option maxHeartbeats 4000000 in
theorem FnExactNearLine_c (u z : Value) (xs ms : List Int) (w : World) (hx : Rd w u xs) (hz : Rd w z ms) :
    Calls Try.prog 6 #[u, z] w fun e w' => e = .returned (.bool true) ∧ Below w.heap.size w w' := by
  have hcx := hx
  have hcz := hz
  obtain ⟨A, c, rfl, hc, hm, hd1⟩ := hx
  obtain ⟨A3, c3, rfl, hc3, hm3, hd3⟩ := hz
  clear hd1 hd3
  by_cases hl1 : 1048576 < xs.length
  · go_enter Try.func6, Try.ntmps6
    go_wp2
    go_ret
    exact ⟨rfl, Below.refl _ _⟩
  by_cases hl2 : 1048576 < ms.length
  · go_enter Try.func6, Try.ntmps6
    go_wp2
    go_ret
    exact ⟨rfl, Below.refl _ _⟩
  · obtain ⟨R, hR⟩ : ∃ R, nearQ xs ms = R := ⟨_, rfl⟩
    have PS := hide fun u z w (h1 : Rd w u xs) (h2 : Rd w z ms) => NearS_all u z xs ms w h1 h2 R hR
    have PI := hide fun u z w (h1 : Rd w u xs) (h2 : Rd w z ms) => NearI_all u z xs ms w h1 h2 R hR
    clear hR
    obtain ⟨⟨a, b⟩, ⟨a2, b2⟩, ⟨a3, b3⟩, t⟩ := R
    simp only [tripQ] at PS PI
    go_enter Try.func6, Try.ntmps6
    go_wp2_with fail
    refine (toIntS_c _ xs _ hcx (by omega)).mono ?_
    rintro e w1 ⟨v1, rfl, hs1, hb1⟩
    go_wp2_with fail
    refine (toIntS_c _ ms _ (Rd.below hcz (by (repeat (first | exact Below.refl _ _ | assumption | refine Below.setCell ?_ (by first | (simp; done) | omega | (simp; omega) | (simp at *; omega)) _ | refine Below.drew ?_ | refine below_drewN ?_ _ | refine below_alloc' ?_ _ | refine below_to' ?_ (by assumption))))) (by omega)).mono ?_
    rintro e w2 ⟨v2, rfl, hs2, hb2⟩
    go_wp2_with fail
    refine (PS.out _ _ _ (Rd.below hs1.rd (by (repeat (first | exact Below.refl _ _ | assumption | refine Below.setCell ?_ (by first | (simp; done) | omega | (simp; omega) | (simp at *; omega)) _ | refine Below.drew ?_ | refine below_drewN ?_ _ | refine below_alloc' ?_ _ | refine below_to' ?_ (by assumption))))) (Rd.below hs2.rd (by (repeat (first | exact Below.refl _ _ | assumption | refine Below.setCell ?_ (by first | (simp; done) | omega | (simp; omega) | (simp at *; omega)) _ | refine Below.drew ?_ | refine below_drewN ?_ _ | refine below_alloc' ?_ _ | refine below_to' ?_ (by assumption)))))).mono ?_
    rintro e w3 ⟨rfl, hb3⟩
    obtain ⟨V, hV, hbV, hVs, hVc⟩ := new3v w3 31 a b a2 b2 a3 b3
    have hVc := hide hVc
    go_wp2_with fail
    clear hV
    refine (toIntS_c _ xs _ (Rd.below hcx (by (repeat (first | exact Below.refl _ _ | assumption | refine Below.setCell ?_ (by first | (simp; done) | omega | (simp; omega) | (simp at *; omega)) _ | refine Below.drew ?_ | refine below_drewN ?_ _ | refine below_alloc' ?_ _ | refine below_to' ?_ (by assumption))))) (by omega)).mono ?_
    rintro e w4 ⟨v4, rfl, hs4, hb4⟩
    go_wp2_with fail
    refine (toIntS_c _ ms _ (Rd.below hcz (by (repeat (first | exact Below.refl _ _ | assumption | refine Below.setCell ?_ (by first | (simp; done) | omega | (simp; omega) | (simp at *; omega)) _ | refine Below.drew ?_ | refine below_drewN ?_ _ | refine below_alloc' ?_ _ | refine below_to' ?_ (by assumption))))) (by omega)).mono ?_
    rintro e w5 ⟨v5, rfl, hs5, hb5⟩
    go_wp2_with fail
    refine (PI.out _ _ _ (Rd.below hs4.rd (by (repeat (first | exact Below.refl _ _ | assumption | refine Below.setCell ?_ (by first | (simp; done) | omega | (simp; omega) | (simp at *; omega)) _ | refine Below.drew ?_ | refine below_drewN ?_ _ | refine below_alloc' ?_ _ | refine below_to' ?_ (by assumption))))) (Rd.below hs5.rd (by (repeat (first | exact Below.refl _ _ | assumption | refine Below.setCell ?_ (by first | (simp; done) | omega | (simp; omega) | (simp at *; omega)) _ | refine Below.drew ?_ | refine below_drewN ?_ _ | refine below_alloc' ?_ _ | refine below_to' ?_ (by assumption)))))).mono ?_
    rintro e w6 ⟨rfl, hb6⟩
    obtain ⟨U, hU, hbU, hUs, hUc⟩ := new3v w6 31 a b a2 b2 a3 b3
    have hbVU : Below V.heap.size V U := by (repeat (first | exact Below.refl _ _ | assumption | refine Below.setCell ?_ (by first | (simp; done) | omega | (simp; omega) | (simp at *; omega)) _ | refine Below.drew ?_ | refine below_drewN ?_ _ | refine below_alloc' ?_ _ | refine below_to' ?_ (by assumption)))
    obtain ⟨⟨g1, g2⟩, ⟨g3, g4⟩, g5, g6⟩ := hVc.out _ hbVU
    obtain ⟨⟨k1, k2⟩, ⟨k3, k4⟩, k5, k6⟩ := hUc _ (Below.refl _ _)
    have hUc := hide hUc
    go_wp2_with fail
    clear hU
    refine (eqFrac_same _ _ _).mono ?_
    rintro e w7 ⟨rfl, hb7⟩
    have hbV7 : Below V.heap.size V w7 := hbVU.trans (hb7.mono hbVU.size)
    obtain ⟨⟨g1, g2⟩, ⟨g3, g4⟩, g5, g6⟩ := hVc.out _ hbV7
    obtain ⟨⟨k1, k2⟩, ⟨k3, k4⟩, k5, k6⟩ := hUc.out _ hb7
    go_wp2_with fail
    refine (eqFrac_same _ _ _).mono ?_
    rintro e w7' ⟨rfl, hb7'⟩
    have hbV8 : Below V.heap.size V w7' := hbV7.trans (hb7'.mono hbV7.size)
    obtain ⟨⟨g1, g2⟩, ⟨g3, g4⟩, g5, g6⟩ := hVc.out _ hbV8
    obtain ⟨⟨k1, k2⟩, ⟨k3, k4⟩, k5, k6⟩ := hUc.out _ (hb7.trans (hb7'.mono hb7.size))
    go_wp2_with fail
    refine (eqFrac_same _ _ _).mono ?_
    rintro e w7'' ⟨rfl, hb7''⟩
    clear hbV8 hbV7 hbVU g1 g2 g3 g4 g5 g6 k1 k2 k3 k4 k5 k6 hVc hUc
    go_wp2_with fail
    refine (toIntS_c _ xs _ (Rd.below hcx (by (repeat (first | exact Below.refl _ _ | assumption | refine Below.setCell ?_ (by first | (simp; done) | omega | (simp; omega) | (simp at *; omega)) _ | refine Below.drew ?_ | refine below_drewN ?_ _ | refine below_alloc' ?_ _ | refine below_to' ?_ (by assumption))))) (by omega)).mono ?_
    rintro e w8 ⟨v8, rfl, hs8, hb8⟩
    have hb58 : Below w5.heap.size w5 w8 := by (repeat (first | exact Below.refl _ _ | assumption | refine Below.setCell ?_ (by first | (simp; done) | omega | (simp; omega) | (simp at *; omega)) _ | refine Below.drew ?_ | refine below_drewN ?_ _ | refine below_alloc' ?_ _ | refine below_to' ?_ (by assumption)))
    have hb48 : Below w4.heap.size w4 w8 := by (repeat (first | exact Below.refl _ _ | assumption | refine Below.setCell ?_ (by first | (simp; done) | omega | (simp; omega) | (simp at *; omega)) _ | refine Below.drew ?_ | refine below_drewN ?_ _ | refine below_alloc' ?_ _ | refine below_to' ?_ (by assumption)))
    go_wp2_with fail
    refine (eqIntS_c _ _ xs xs true _ (hs4.rd.below hb48) hs8.rd (by simp)).mono ?_
    rintro e w9 ⟨rfl, hb9⟩
    go_wp2_with fail
    refine (toIntS_c _ ms _ (Rd.below hcz (by (repeat (first | exact Below.refl _ _ | assumption | refine Below.setCell ?_ (by first | (simp; done) | omega | (simp; omega) | (simp at *; omega)) _ | refine Below.drew ?_ | refine below_drewN ?_ _ | refine below_alloc' ?_ _ | refine below_to' ?_ (by assumption))))) (by omega)).mono ?_
    rintro e w10 ⟨v10, rfl, hs10, hb10⟩
    go_wp2_with fail
    refine (eqIntS_c _ _ ms ms true _ ((hs5.rd.below hb58).below (by clear hb48 hb58; (repeat (first | exact Below.refl _ _ | assumption | refine Below.setCell ?_ (by first | (simp; done) | omega | (simp; omega) | (simp at *; omega)) _ | refine Below.drew ?_ | refine below_drewN ?_ _ | refine below_alloc' ?_ _ | refine below_to' ?_ (by assumption))))) hs10.rd (by simp)).mono ?_
    rintro e w11 ⟨rfl, hb11⟩
    go_wp2_with fail
    go_ret
    refine ⟨rfl, ?_⟩
    (repeat (first | exact Below.refl _ _ | assumption | refine Below.setCell ?_ (by first | (simp; done) | omega | (simp; omega) | (simp at *; omega)) _ | refine Below.drew ?_ | refine below_drewN ?_ _ | refine below_alloc' ?_ _ | refine below_to' ?_ (by assumption)))
end Go.Proofs.Ytahogdcmnpidiaa
