
/-
  Contracts: quotients and sizes of fractions in the program; how far a point is above a line, in the reference.
-/
import Derived.Test.YtgageljahebjnaaQT
namespace Go.Proofs.Ytgageljahebjnaa
open Go.RowKit

/-- Two boxes and a result's cells, behind one name. -/
theorem box2 (w : World) (T : TypeId) (a b c d : Value) : ∃ W, ((w.alloc (.cells #[a, b] T)).alloc (.cells #[c, d] T)).alloc (.cells #[.int .i64 0, .int .i64 0] T) = W ∧ Below w.heap.size w W ∧ w.heap.size + 1 + 1 < W.heap.size ∧
    (∀ wz, Below W.heap.size W wz → wz.cell? ⟨w.heap.size, 0, none⟩ = some a ∧ wz.cell? ⟨w.heap.size, 1, none⟩ = some b ∧ wz.cell? ⟨w.heap.size + 1, 0, none⟩ = some c ∧ wz.cell? ⟨w.heap.size + 1, 1, none⟩ = some d) ∧
    ∀ wz, Below W.heap.size W wz → wz.cell? ⟨w.heap.size + 1 + 1, 0, none⟩ = some (.int .i64 0) ∧ wz.cell? ⟨w.heap.size + 1 + 1, 1, none⟩ = some (.int .i64 0) ∧ wz.frozen? ⟨w.heap.size + 1 + 1, 0, none⟩ = false ∧ wz.frozen? ⟨w.heap.size + 1 + 1, 1, none⟩ = false := by
  refine ⟨_, rfl, by (repeat (first | exact Below.refl _ _ | assumption | refine Below.setCell ?_ (by first | (simp; done) | omega | (simp; omega) | (simp at *; omega)) _ | refine Below.drew ?_ | refine below_drewN ?_ _ | refine below_alloc' ?_ _ | refine below_to' ?_ (by assumption))), by simp, fun wz hz => ⟨?_, ?_, ?_, ?_⟩, fun wz hz => ⟨?_, ?_, ?_, ?_⟩⟩
  · rw [hz.cell (by simp; try omega)]; simp [go_sem]
  · rw [hz.cell (by simp; try omega)]; simp [go_sem]
  · rw [hz.cell (by simp; try omega)]; simp [go_sem]
  · rw [hz.cell (by simp; try omega)]; simp [go_sem]
  · rw [hz.cell (by simp; try omega)]; simp [go_sem]
  · rw [hz.cell (by simp; try omega)]; simp [go_sem]
  · rw [hz.frozen (by simp; try omega)]; simp [go_sem]
  · rw [hz.frozen (by simp; try omega)]; simp [go_sem]

set_option maxHeartbeats 2000000 in
theorem overI_d (p q : Rat) (w : World) (h0 : q ≠ 0) (hq : -4611686018427387904 ≤ q.num ∧ q.num ≤ 4611686018427387904) (hd : (q.den : Int) ≤ 4611686018427387904) (h : Fit p q⁻¹) :
    Calls Try.prog 57 #[.agg #[.int .i64 (p).num, .int .i64 ((p).den : Int)], .agg #[.int .i64 (q).num, .int .i64 ((q).den : Int)]] w fun e w' => e = .returned (.agg #[.int .i64 (p * q⁻¹).num, .int .i64 ((p * q⁻¹).den : Int)]) ∧ Below w.heap.size w w' := by
  have hn : q.num ≠ 0 := fun e => h0 (Rat.num_eq_zero.1 e)
  have hp := qden_pos q
  have F1 := hide fun w => frac_c q.den q.num w (by omega) hq hn
  rw [qf_inv] at F1
  have F2 := hide fun w => timesI_d p q⁻¹ w h
  obtain ⟨r, hr⟩ : ∃ r, p * q⁻¹ = r := ⟨_, rfl⟩
  rw [hr] at F2 ⊢
  obtain ⟨s, hs⟩ : ∃ s, q⁻¹ = s := ⟨_, rfl⟩
  rw [hs] at F1 F2 h
  clear hr hs
  obtain ⟨W, hW, hbW, hWs, HA, HR⟩ := box2 w 24 (.int .i64 p.num) (.int .i64 (p.den : Int)) (.int .i64 q.num) (.int .i64 (q.den : Int))
  have k1 := fun d os => (HA _ (below_regrown W d os)).1
  have k2 := fun d os => (HA _ (below_regrown W d os)).2.1
  have k3 := fun d os => (HA _ (below_regrown W d os)).2.2.1
  have k4 := fun d os => (HA _ (below_regrown W d os)).2.2.2
  have HR := hide HR
  clear HA h0 hn hp hq hd h
  go_enter Try.func57, Try.ntmps57
  go_wp2_with fail
  refine wp_region_below_tail 7 (by kernel_rfl) (by kernel_rfl) ?_
  simp only [List.take_succ_cons, List.take_zero, List.drop_succ_cons, List.drop_zero]
  repeat (go_big_quiet_step ((first | (go_at_call 60; with_reducible exact calls_grn F1.out) | (go_at_call 32; with_reducible exact calls_grn F2.out))))
  refine wpQuiet_nil ?_
  intro w' hw'
  obtain ⟨m1, m2, m3, m4⟩ := HR.out _ hw'
  have hbw := hbW.trans (hw'.mono hbW.size)
  go_wp2_with fail
  refine bodyPost_ret (v := .agg #[.int .i64 (r).num, .int .i64 ((r).den : Int)]) (by simp [results, Try.results57, go_sem, m1, m2]) rfl ⟨rfl, ?_⟩
  (repeat (first | exact Below.refl _ _ | assumption | refine Below.setCell ?_ (by first | (simp; done) | omega | (simp; omega) | (simp at *; omega)) _ | refine Below.drew ?_ | refine below_drewN ?_ _ | refine below_alloc' ?_ _ | refine below_to' ?_ (by assumption)))
end Go.Proofs.Ytgageljahebjnaa
