
/-
  Contract: the product of fractions in the program.
-/
import Derived.Test.YtgageljahebjnaaQI
import Derived.Deep.RegionHeld3
import Derived.Deep.DrawnRows
import Derived.Deep.DeepCutAuto
namespace Go.Proofs.Ytgageljahebjnaa
open Go.RowKit
attribute [local go_sem ↓] Go.wp_at_zero Go.wp_at_succ

theorem put2 (w : World) (n : Nat) (t : TypeId) (x y u v : Value) : (((w.alloc (.cells #[x, y] t)).drewN n).setCell ⟨w.heap.size, 0, none⟩ u).setCell ⟨w.heap.size, 1, none⟩ v = (w.alloc (.cells #[u, v] t)).drewN n := by
  show (((w.alloc _).setCell _ u).setCell _ v).drewN n = _
  rw [World.setCell_alloc_new, World.setCell_alloc_new]
  rfl

set_option maxHeartbeats 400000 in
theorem frac_x (u d : Int) (w : World) (hu : -4611686018427387904 ≤ u ∧ u ≤ 4611686018427387904) (hd : -4611686018427387904 ≤ d ∧ d ≤ 4611686018427387904) (h0 : d ≠ 0) :
    Calls Try.prog 60 #[.int .i64 u, .int .i64 d] w fun e w' => e = .returned (.agg #[.int .i64 (qf u d).num, .int .i64 ((qf u d).den : Int)]) ∧ ∃ n o, w' = (w.alloc o).drewN n := by
  have hg := gcd_pos' (a := u) h0
  have q1 := tdiv_bound u (Int.gcd u d) hu
  have q2 := tdiv_bound d (Int.gcd u d) hd
  have hgd : (Int.gcd u d : Int) ≤ 4611686018427387904 := by
    have := Int.le_of_dvd (a := (Int.gcd u d : Int)) (b := (d.natAbs : Int)) (by omega) (by rw [Int.dvd_natAbs]; exact Int.gcd_dvd_right ..)
    omega
  obtain ⟨hu1, hu2⟩ := hu
  obtain ⟨hd1, hd2⟩ := hd
  obtain ⟨q1a, q1b⟩ := q1
  obtain ⟨q2a, q2b⟩ := q2
  by_cases hn : d < 0
  · go_enter Try.func60, Try.ntmps60
    go_wp2_with (go_at_call 61; refine (divisor_c _ _ _ ⟨by omega, by omega⟩ ⟨by omega, by omega⟩).mono ?_; rintro e w' ⟨rfl, n, rfl⟩)
    go_region
    go_wp2
    refine bodyPost_ret (v := .agg #[.int .i64 (qf u d).num, .int .i64 ((qf u d).den : Int)]) (by simp [results, Try.results60, go_sem, ← tdiv_gcd_num' u d (by omega), ← tdiv_gcd_den' u d (by omega)]) rfl ⟨rfl, ?_⟩
    exact ⟨_, _, put2 _ _ _ _ _ _ _⟩
  · go_enter Try.func60, Try.ntmps60
    go_wp2_with (go_at_call 61; refine (divisor_c _ _ _ ⟨by omega, by omega⟩ ⟨by omega, by omega⟩).mono ?_; rintro e w' ⟨rfl, n, rfl⟩)
    go_region
    go_wp2
    refine bodyPost_ret (v := .agg #[.int .i64 (qf u d).num, .int .i64 ((qf u d).den : Int)]) (by simp [results, Try.results60, go_sem, ← tdiv_gcd_num u d (by omega), ← tdiv_gcd_den u d (by omega)]) rfl ⟨rfl, ?_⟩
    exact ⟨_, _, put2 _ _ _ _ _ _ _⟩
theorem qf_num_le (u d : Int) (hd : 0 < d) : (qf u d).num.natAbs ≤ u.natAbs ∧ (((qf u d).den : Int)).natAbs ≤ d.natAbs ∧ 0 < ((qf u d).den : Int) := by
  have h1 := tdiv_bound u (Int.gcd u d) (M := (u.natAbs : Int)) (by omega)
  have h2 := tdiv_bound d (Int.gcd u d) (M := (d.natAbs : Int)) (by omega)
  rw [tdiv_gcd_num u d hd] at h1
  rw [tdiv_gcd_den u d hd] at h2
  have := qden_pos (qf u d)
  omega
set_option maxRecDepth 20000 in
set_option maxHeartbeats 8000000 in
theorem timesI_d (p q : Rat) (w : World) (h : Fit p q) :
    Calls Try.prog 32 #[.agg #[.int .i64 (p).num, .int .i64 ((p).den : Int)], .agg #[.int .i64 (q).num, .int .i64 ((q).den : Int)]] w fun e w' => e = .returned (.agg #[.int .i64 (p * q).num, .int .i64 ((p * q).den : Int)]) ∧ Below w.heap.size w w' := by
  have hN := times_num p q
  have hD := times_den p q
  have h4 := h.sm4
  have X1 := qf_num_le p.num q.den (qden_pos q)
  have X2 := qf_num_le q.num p.den (qden_pos p)
  rw [hN, hD]
  clear hN hD h
  obtain ⟨a, ha⟩ : ∃ a, p.num = a := ⟨_, rfl⟩
  obtain ⟨b, hb⟩ : ∃ b, (p.den : Int) = b := ⟨_, rfl⟩
  obtain ⟨c, hc⟩ : ∃ c, q.num = c := ⟨_, rfl⟩
  obtain ⟨d, hd⟩ : ∃ d, (q.den : Int) = d := ⟨_, rfl⟩
  rw [ha, hb, hc, hd] at h4
  rw [ha, hd] at X1
  rw [hb, hc] at X2
  rw [ha, hb, hc, hd]
  clear ha hb hc hd
  have hbd := h4.bd
  obtain ⟨b1, d1, m1, m2, m3, m4⟩ := h4
  have F1 := hide fun w => frac_x a d w (by omega) (by omega) (by omega)
  have F2 := hide fun w => frac_x c b w (by omega) (by omega) (by omega)
  obtain ⟨x1, hx1⟩ : ∃ x, (qf a d).num = x := ⟨_, rfl⟩
  obtain ⟨x2, hx2⟩ : ∃ x, ((qf a d).den : Int) = x := ⟨_, rfl⟩
  obtain ⟨z1, hz1⟩ : ∃ x, (qf c b).num = x := ⟨_, rfl⟩
  obtain ⟨z2, hz2⟩ : ∃ x, ((qf c b).den : Int) = x := ⟨_, rfl⟩
  rw [hx1, hx2] at F1 X1
  rw [hz1, hz2] at F2 X2
  rw [hx1, hx2, hz1, hz2]
  clear hx1 hx2 hz1 hz2
  have r1 := mul_shrink (M := 1152921504606846976) X1.1 X2.1 m4
  have r2 := mul_shrink (M := 1152921504606846976) X2.2.1 X1.2.1 m3
  rw [Int.mul_comm] at r2
  have e1 : IntKind.i64.wrap (x1 * z1) = x1 * z1 := IntWalk.i64_in _ (by omega)
  have e2 : IntKind.i64.wrap (x2 * z2) = x2 * z2 := IntWalk.i64_in _ (by omega)
  clear r1 r2 m1 m2 m3 m4 X1 X2 hbd
  obtain ⟨W, hW⟩ : ∃ W, ((w.alloc (.cells #[.int .i64 a, .int .i64 b] 24)).alloc (.cells #[.int .i64 c, .int .i64 d] 24)).alloc (.cells #[.int .i64 0, .int .i64 0] 24) = W := ⟨_, rfl⟩
  have HL : Hid (∀ wz, Below W.heap.size W wz → wz.cell? ⟨w.heap.size, 0, none⟩ = some (.int .i64 a) ∧ wz.cell? ⟨w.heap.size, 1, none⟩ = some (.int .i64 b) ∧ wz.cell? ⟨w.heap.size + 1, 0, none⟩ = some (.int .i64 c) ∧ wz.cell? ⟨w.heap.size + 1, 1, none⟩ = some (.int .i64 d)) := by
    intro wz hz
    refine ⟨?_, ?_, ?_, ?_⟩
    all_goals (rw [hz.cell (by rw [← hW]; simp; try omega), ← hW]; simp [go_sem])
  have HM : Hid (∀ wz, Below W.heap.size W wz → wz.cell? ⟨w.heap.size + 1 + 1, 0, none⟩ = some (.int .i64 0) ∧ wz.cell? ⟨w.heap.size + 1 + 1, 1, none⟩ = some (.int .i64 0) ∧ wz.frozen? ⟨w.heap.size + 1 + 1, 0, none⟩ = false ∧ wz.frozen? ⟨w.heap.size + 1 + 1, 1, none⟩ = false) := by
    intro wz hz
    refine ⟨?_, ?_, ?_, ?_⟩
    · rw [hz.cell (by rw [← hW]; simp; try omega), ← hW]; simp [go_sem]
    · rw [hz.cell (by rw [← hW]; simp; try omega), ← hW]; simp [go_sem]
    · rw [hz.frozen (by rw [← hW]; simp; try omega), ← hW]; simp [go_sem]
    · rw [hz.frozen (by rw [← hW]; simp; try omega), ← hW]; simp [go_sem]
  have HW : Hid (Below w.heap.size w W) := by show Below _ _ _; rw [← hW]; (repeat (first | exact Below.refl _ _ | assumption | refine Below.setCell ?_ (by first | (simp; done) | omega | (simp; omega) | (simp at *; omega)) _ | refine Below.drew ?_ | refine below_drewN ?_ _ | refine below_alloc' ?_ _ | refine below_to' ?_ (by assumption)))
  go_enter Try.func32, Try.ntmps32
  go_upto_region 1 with (fail)
  try rw [hW]
  clear hW
  go_cut [5, 6] (fun s5 s6 wx => ∃ g k : Nat, s5 = .pointer (some ⟨g, 0, none⟩) ∧ s6 = .pointer (some ⟨k, 0, none⟩) ∧ Below W.heap.size W wx ∧ wx.cell? ⟨g, 0, none⟩ = some (.int .i64 x1) ∧ wx.cell? ⟨g, 1, none⟩ = some (.int .i64 x2) ∧ wx.cell? ⟨k, 0, none⟩ = some (.int .i64 z1) ∧ wx.cell? ⟨k, 1, none⟩ = some (.int .i64 z2))
  case first =>
    clear e1 e2 HM HW
    go_region_held3 (fun wz => wz.cell? ⟨w.heap.size, 0, none⟩ = some (.int .i64 a) ∧ wz.cell? ⟨w.heap.size, 1, none⟩ = some (.int .i64 b) ∧ wz.cell? ⟨w.heap.size + 1, 0, none⟩ = some (.int .i64 c) ∧ wz.cell? ⟨w.heap.size + 1, 1, none⟩ = some (.int .i64 d))
      ((refine HL.out _ ?_; (repeat (first | with_reducible exact Below.refl _ _ | assumption | refine Below.setCell ?_ (by first | (simp; done) | (simp; omega)) _ | refine Below.drew ?_ | refine below_drewN ?_ _ | refine below_alloc' ?_ _))))
      (first | (go_at_call 60; with_reducible refine (F1.out _).mono ?_; rintro e w1 ⟨rfl, n1, o1, rfl⟩) | (go_at_call 60; with_reducible refine (F2.out _).mono ?_; rintro e w2 ⟨rfl, n2, o2, rfl⟩))
    all_goals go_wp2_with fail
    all_goals go_meet
    all_goals refine ⟨_, _, rfl, rfl, ?_, ?_, ?_, ?_, ?_⟩
    all_goals first
      | ((repeat (first | with_reducible exact Below.refl _ _ | refine Below.setCell ?_ (by first | (simp; done) | (simp; omega)) _ | refine Below.drew ?_ | refine below_drewN ?_ _ | refine below_alloc' ?_ _)); done)
      | (repeat (first | rw [World.cell?_drewN] | rw [World.cell?_alloc_past _ _ _ (by first | (simp; done) | (simp; omega))] | with_reducible exact (World.cell?_alloc_at _ _ _ _ (by first | (simp; done) | (simp; omega))).trans rfl | (rw [World.cell?_alloc_at _ _ _ _ (by first | (simp; done) | (simp; omega))]; done) | (rw [World.cell?_alloc_at _ _ _ _ (by first | (simp; done) | (simp; omega))]; rfl) | rw [World.cell?_setCell_other _ _ _ _ (by first | (simp; done) | (simp; omega))] | with_reducible refine World.cell?_setCell_same _ _ _ (u := .int .i64 0) ?_))
  case rest =>
    obtain ⟨g, k, rfl, rfl, hb, c1, c2, c3, c4⟩ := hcut
    obtain ⟨m1, m2, m3, m4⟩ := HM.out _ hb
    go_wp2_with fail
    refine bodyPost_ret (v := .agg #[.int .i64 (x1 * z1), .int .i64 (x2 * z2)]) (by simp [results, Try.results32, go_sem, m1, m2]) rfl ⟨rfl, ?_⟩
    have hbw := HW.out.trans (hb.mono HW.out.size)
    (repeat (first | exact Below.refl _ _ | assumption | refine Below.setCell ?_ (by first | (simp; done) | omega | (simp; omega) | (simp at *; omega)) _ | refine Below.drew ?_ | refine below_drewN ?_ _ | refine below_alloc' ?_ _ | refine below_to' ?_ (by assumption)))
theorem timesI_c (p q : Rat) (w : World) (hp : Sm p) (hq : Sm q) :
    Calls Try.prog 32 #[.agg #[.int .i64 (p).num, .int .i64 ((p).den : Int)], .agg #[.int .i64 (q).num, .int .i64 ((q).den : Int)]] w fun e w' => e = .returned (.agg #[.int .i64 (p * q).num, .int .i64 ((p * q).den : Int)]) ∧ Below w.heap.size w w' := timesI_d p q w (fit hp hq)
end Go.Proofs.Ytgageljahebjnaa
