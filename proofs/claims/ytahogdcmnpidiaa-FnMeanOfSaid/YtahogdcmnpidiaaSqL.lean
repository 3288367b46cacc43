/-
  Contracts: SquareLine of the reference and of the program.
-/
import Derived.Test.YtahogdcmnpidiaaSqS
import Derived.Deep.RegionHeld3
namespace Go.Proofs.Ytahogdcmnpidiaa
open Go.RowKit

def sqQ (xs ys : List Int) : Int × Int × Int × Int × Bool :=
  if okCloud xs ys then ((slR xs ys).num, ((slR xs ys).den : Int), (hgR xs ys).num, ((hgR xs ys).den : Int), true) else (0, 0, 0, 0, false)
theorem sqQ_no {xs ys : List Int} (h : okCloud xs ys = false) : sqQ xs ys = (0, 0, 0, 0, false) := by simp [sqQ, h]
theorem sqQ_yes {xs ys : List Int} (h : okCloud xs ys = true) : sqQ xs ys = ((slR xs ys).num, ((slR xs ys).den : Int), (hgR xs ys).num, ((hgR xs ys).den : Int), true) := by simp [sqQ, h]

/-- Two results' cells, behind one name. -/
theorem res2 (w : World) (T : TypeId) : ∃ W, (w.alloc (.cells #[.int .i64 0, .int .i64 0] T)).alloc (.cells #[.int .i64 0, .int .i64 0] T) = W ∧ Below w.heap.size w W ∧ w.heap.size + 1 < W.heap.size ∧
      ∀ wz, Below W.heap.size W wz → (wz.cell? ⟨w.heap.size, 0, none⟩ = some (.int .i64 0) ∧ wz.cell? ⟨w.heap.size, 1, none⟩ = some (.int .i64 0) ∧ wz.frozen? ⟨w.heap.size, 0, none⟩ = false ∧ wz.frozen? ⟨w.heap.size, 1, none⟩ = false) ∧ wz.cell? ⟨w.heap.size + 1, 0, none⟩ = some (.int .i64 0) ∧ wz.cell? ⟨w.heap.size + 1, 1, none⟩ = some (.int .i64 0) ∧ wz.frozen? ⟨w.heap.size + 1, 0, none⟩ = false ∧ wz.frozen? ⟨w.heap.size + 1, 1, none⟩ = false := by
    refine ⟨_, rfl, by (repeat (first | exact Below.refl _ _ | assumption | refine Below.setCell ?_ (by first | (simp; done) | omega | (simp; omega) | (simp at *; omega)) _ | refine Below.drew ?_ | refine below_drewN ?_ _ | refine below_alloc' ?_ _ | refine below_to' ?_ (by assumption))), by simp, fun wz hz => ⟨⟨?_, ?_, ?_, ?_⟩, ?_, ?_, ?_, ?_⟩⟩
    all_goals first | (rw [hz.cell (by simp; try omega)]; simp [go_sem]; done) | (rw [hz.frozen (by simp; try omega)]; simp [go_sem]; done)

set_option maxHeartbeats 2000000 in
theorem SquareS_c (u v : Value) (xs ys : List Int) (w : World) (hx : Rd w u xs) (hy : Rd w v ys) (R : Int × Int × Int × Int × Bool) (hR : sqQ xs ys = R) :
    Calls Try.prog 43 #[u, v] w fun e w' => e = .returned (.tuple #[.agg #[.int .i64 R.1, .int .i64 R.2.1], .agg #[.int .i64 R.2.2.1, .int .i64 R.2.2.2.1], .bool R.2.2.2.2]) ∧ Below w.heap.size w w' := by
  obtain ⟨W, hW, hbW, hWs, HR⟩ := res2 w 31
  have HR := hide HR
  have hxW := hx.below hbW
  have hyW := hy.below hbW
  cases hok : okCloud xs ys
  · rw [sqQ_no hok] at hR
    subst hR
    have K := hide fun w hx hy => validCloudS_c u v xs ys false w hx hy hok
    clear hok
    go_enter Try.func43, Try.ntmps43
    go_wp2_with fail
    refine (K.out _ hxW hyW).mono ?_
    rintro e w' ⟨rfl, hw'⟩
    obtain ⟨⟨m1, m2, m3, m4⟩, m5, m6, m7, m8⟩ := HR.out _ hw'
    have hbw := hbW.trans (hw'.mono hbW.size)
    go_wp2_with fail
    refine bodyPost_ret (v := .tuple #[.agg #[.int .i64 0, .int .i64 0], .agg #[.int .i64 0, .int .i64 0], .bool false]) (by simp [results, Try.results43, go_sem, m1, m2, m5, m6]) rfl ⟨rfl, ?_⟩
    (repeat (first | exact Below.refl _ _ | assumption | refine Below.setCell ?_ (by first | (simp; done) | omega | (simp; omega) | (simp at *; omega)) _ | refine Below.drew ?_ | refine below_drewN ?_ _ | refine below_alloc' ?_ _ | refine below_to' ?_ (by assumption)))
  · rw [sqQ_yes hok] at hR
    have K := hide fun w hx hy => validCloudS_c u v xs ys true w hx hy hok
    have K2 := hide fun w hx hy => squareS_c u v xs ys w hx hy hok
    obtain ⟨r1, e1⟩ : ∃ r, slR xs ys = r := ⟨_, rfl⟩
    obtain ⟨r2, e2⟩ : ∃ r, hgR xs ys = r := ⟨_, rfl⟩
    rw [e1, e2] at K2 hR
    subst hR
    clear hok e1 e2
    go_enter Try.func43, Try.ntmps43
    go_wp2_with fail
    refine (K.out _ hxW hyW).mono ?_
    rintro e w1 ⟨rfl, hb1⟩
    go_wp2_with fail
    refine (K2.out _ (hxW.below hb1) (hyW.below hb1)).mono ?_
    rintro e w' ⟨rfl, hb2⟩
    obtain ⟨V, hV⟩ : ∃ V, (w'.alloc (.cells #[.int .i64 r1.num, .int .i64 (r1.den : Int)] 31)).alloc (.cells #[.int .i64 r2.num, .int .i64 (r2.den : Int)] 31) = V := ⟨_, rfl⟩
    have hbV : Below W.heap.size W V := by rw [← hV]; (repeat (first | exact Below.refl _ _ | assumption | refine Below.setCell ?_ (by first | (simp; done) | omega | (simp; omega) | (simp at *; omega)) _ | refine Below.drew ?_ | refine below_drewN ?_ _ | refine below_alloc' ?_ _ | refine below_to' ?_ (by assumption)))
    have hfV : w'.heap.size + 1 < V.heap.size := by rw [← hV]; simp
    obtain ⟨⟨m1, m2, m3, m4⟩, m5, m6, m7, m8⟩ := HR.out _ hbV
    have hbw := hbW.trans (hbV.mono hbW.size)
    have hs0 : w.heap.size + 1 < w'.heap.size := by have := hb1.size; have := hb2.size; omega
    have hs2 : w.heap.size + 1 < V.heap.size := by omega
    have hs1 : w.heap.size < V.heap.size := by omega
    have n1 : ¬ w.heap.size = w'.heap.size := by omega
    have n2 : ¬ w.heap.size = w'.heap.size + 1 := by omega
    have n3 : ¬ w.heap.size + 1 = w'.heap.size := by omega
    have n4 : ¬ w.heap.size + 1 = w'.heap.size + 1 := by omega
    have k1 : V.cell? ⟨w'.heap.size, 0, none⟩ = some (.int .i64 r1.num) := by rw [← hV]; simp [go_sem]
    have k2 : V.cell? ⟨w'.heap.size, 1, none⟩ = some (.int .i64 (r1.den : Int)) := by rw [← hV]; simp [go_sem]
    have k3 : V.cell? ⟨w'.heap.size + 1, 0, none⟩ = some (.int .i64 r2.num) := by rw [← hV]; simp [go_sem]
    have k4 : V.cell? ⟨w'.heap.size + 1, 1, none⟩ = some (.int .i64 (r2.den : Int)) := by rw [← hV]; simp [go_sem]
    go_wp2_with fail
    clear hV
    go_region_held3 (fun wz => wz.cell? ⟨w'.heap.size, 0, none⟩ = some (.int .i64 r1.num) ∧ wz.cell? ⟨w'.heap.size, 1, none⟩ = some (.int .i64 (r1.den : Int)) ∧ wz.cell? ⟨w'.heap.size + 1, 0, none⟩ = some (.int .i64 r2.num) ∧ wz.cell? ⟨w'.heap.size + 1, 1, none⟩ = some (.int .i64 (r2.den : Int)))
      (go_keep) (fail)
    go_wp2_with fail
    refine bodyPost_ret (v := .tuple #[.agg #[.int .i64 (r1).num, .int .i64 ((r1).den : Int)], .agg #[.int .i64 (r2).num, .int .i64 ((r2).den : Int)], .bool true]) (by simp [results, Try.results43, go_sem, m1, m2, m5, m6]) rfl ⟨rfl, ?_⟩
    (repeat (first | exact Below.refl _ _ | assumption | refine Below.setCell ?_ (by first | (simp; done) | omega | (simp; omega) | (simp at *; omega)) _ | refine Below.drew ?_ | refine below_drewN ?_ _ | refine below_alloc' ?_ _ | refine below_to' ?_ (by assumption)))
end Go.Proofs.Ytahogdcmnpidiaa
