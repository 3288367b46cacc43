/-
  Contracts: sizes of fractions, slopes, and how far a point is above a line.
-/
import Derived.Test.YtahogdcmnpidiaaQO
import Derived.Test.YtahogdcmnpidiaaSum
namespace Go.Proofs.Ytahogdcmnpidiaa
open Go.RowKit

/-- A fraction without its sign. -/
def szR (p : Rat) : Rat := if p.num < 0 then -p else p
theorem szR_num (p : Rat) : (szR p).num = max p.num (-p.num) := by
  unfold szR
  split
  · rw [Rat.neg_num]; omega
  · omega
theorem szR_den (p : Rat) : ((szR p).den : Int) = p.den := by
  unfold szR
  split
  · rw [Rat.neg_den]
  · rfl
theorem sm_sz {p : Rat} (h : Sm p) : Sm (szR p) := by
  unfold szR
  split
  · exact sm_neg h
  · exact h

theorem allB_at {lo hi : Int} {xs : List Int} (h : allB lo hi xs = true) {j : Nat} (hj : j < xs.length) : lo ≤ atL xs j ∧ atL xs j ≤ hi := by rw [atL_lt hj]; exact allB_get h hj

set_option maxHeartbeats 1000000 in
theorem sizeS_c (p : Rat) (w : World) (h : -4611686018427387904 ≤ p.num ∧ p.num ≤ 4611686018427387904) :
    Calls Try.prog 72 #[.agg #[.int .i64 (p).num, .int .i64 ((p).den : Int)]] w fun e w' => e = .returned (.agg #[.int .i64 (szR p).num, .int .i64 ((szR p).den : Int)]) ∧ Below w.heap.size w w' := by
  rw [szR_num, szR_den]
  obtain ⟨a, ha⟩ : ∃ a, p.num = a := ⟨_, rfl⟩
  obtain ⟨b, hb⟩ : ∃ b, (p.den : Int) = b := ⟨_, rfl⟩
  rw [ha] at h ⊢
  rw [hb]
  obtain ⟨h1, h2⟩ := h
  clear ha hb
  go_enter Try.func72, Try.ntmps72
  go_wp2_with fail
  · refine bodyPost_ret (v := .agg #[.int .i64 (-a), .int .i64 b]) (by simp [results, Try.results72, go_sem]) rfl ⟨by rw [show max a (-a) = -a by omega], ?_⟩
    (repeat (first | exact Below.refl _ _ | assumption | refine Below.setCell ?_ (by first | (simp; done) | omega | (simp; omega) | (simp at *; omega)) _ | refine Below.drew ?_ | refine below_drewN ?_ _ | refine below_alloc' ?_ _ | refine below_to' ?_ (by assumption)))
  · refine bodyPost_ret (v := .agg #[.int .i64 a, .int .i64 b]) (by simp [results, Try.results72, go_sem]) rfl ⟨by rw [show max a (-a) = a by omega], ?_⟩
    (repeat (first | exact Below.refl _ _ | assumption | refine Below.setCell ?_ (by first | (simp; done) | omega | (simp; omega) | (simp at *; omega)) _ | refine Below.drew ?_ | refine below_drewN ?_ _ | refine below_alloc' ?_ _ | refine below_to' ?_ (by assumption)))
set_option maxHeartbeats 1000000 in
theorem sizeI_c (p : Rat) (w : World) (h : -4611686018427387904 ≤ p.num ∧ p.num ≤ 4611686018427387904) :
    Calls Try.prog 75 #[.agg #[.int .i64 (p).num, .int .i64 ((p).den : Int)]] w fun e w' => e = .returned (.agg #[.int .i64 (szR p).num, .int .i64 ((szR p).den : Int)]) ∧ Below w.heap.size w w' := by
  rw [szR_num, szR_den]
  obtain ⟨a, ha⟩ : ∃ a, p.num = a := ⟨_, rfl⟩
  obtain ⟨b, hb⟩ : ∃ b, (p.den : Int) = b := ⟨_, rfl⟩
  rw [ha] at h ⊢
  rw [hb]
  obtain ⟨h1, h2⟩ := h
  clear ha hb
  go_enter Try.func75, Try.ntmps75
  go_wp2_with fail
  · refine bodyPost_ret (v := .agg #[.int .i64 (-a), .int .i64 b]) (by simp [results, Try.results75, go_sem]) rfl ⟨by rw [show max a (-a) = -a by omega], ?_⟩
    (repeat (first | exact Below.refl _ _ | assumption | refine Below.setCell ?_ (by first | (simp; done) | omega | (simp; omega) | (simp at *; omega)) _ | refine Below.drew ?_ | refine below_drewN ?_ _ | refine below_alloc' ?_ _ | refine below_to' ?_ (by assumption)))
  · refine bodyPost_ret (v := .agg #[.int .i64 a, .int .i64 b]) (by simp [results, Try.results75, go_sem]) rfl ⟨by rw [show max a (-a) = a by omega], ?_⟩
    (repeat (first | exact Below.refl _ _ | assumption | refine Below.setCell ?_ (by first | (simp; done) | omega | (simp; omega) | (simp at *; omega)) _ | refine Below.drew ?_ | refine below_drewN ?_ _ | refine below_alloc' ?_ _ | refine below_to' ?_ (by assumption)))

set_option maxHeartbeats 1000000 in
theorem slopeI_c (u v : Value) (xs ys : List Int) (i k : Nat) (w : World) (hx : Rd w u xs) (hy : Rd w v ys) (hi : i < xs.length) (hk : k < xs.length) (hl : xs.length = ys.length)
    (hbx : allB (-12) 12 xs = true) (hby : allB (-12) 12 ys = true) (hne : atL xs i ≠ atL xs k) :
    Calls Try.prog 73 #[u, v, .int .i64 i, .int .i64 k] w fun e w' => e = .returned (.agg #[.int .i64 (qf (atL ys i - atL ys k) (atL xs i - atL xs k)).num, .int .i64 ((qf (atL ys i - atL ys k) (atL xs i - atL xs k)).den : Int)]) ∧ Below w.heap.size w w' := by
  obtain ⟨A, c, rfl, hc, hm, _⟩ := id hx
  obtain ⟨A2, c2, rfl, hc2, hm2, _⟩ := id hy
  obtain ⟨g, off, rfl, hg, hcl⟩ := hx.at (by omega)
  obtain ⟨g2, off2, rfl, hg2, hcl2⟩ := hy.at (by omega)
  have b1 := allB_at hbx hi
  have b2 := allB_at hbx hk
  have b3 := allB_at hby (j := i) (by omega)
  have b4 := allB_at hby (j := k) (by omega)
  obtain ⟨x1, hx1⟩ : ∃ x, atL xs i = x := ⟨_, rfl⟩
  obtain ⟨x2, hx2⟩ : ∃ x, atL xs k = x := ⟨_, rfl⟩
  obtain ⟨y1, hy1⟩ : ∃ x, atL ys i = x := ⟨_, rfl⟩
  obtain ⟨y2, hy2⟩ : ∃ x, atL ys k = x := ⟨_, rfl⟩
  obtain ⟨W, hW⟩ : ∃ W, w.alloc (.cells #[.int .i64 0, .int .i64 0] 31) = W := ⟨_, rfl⟩
  have hbW : Below w.heap.size w W := by rw [← hW]; (repeat (first | exact Below.refl _ _ | assumption | refine Below.setCell ?_ (by first | (simp; done) | omega | (simp; omega) | (simp at *; omega)) _ | refine Below.drew ?_ | refine below_drewN ?_ _ | refine below_alloc' ?_ _ | refine below_to' ?_ (by assumption)))
  have hWs : w.heap.size < W.heap.size := by rw [← hW]; simp
  have k1 := cell_grn (v := W) (Below.refl _ _) (show g < W.heap.size by omega) ((hbW.cell (p := ⟨g, off + i, none⟩) hg).trans (hcl i hi))
  have k2 := cell_grn (v := W) (Below.refl _ _) (show g < W.heap.size by omega) ((hbW.cell (p := ⟨g, off + k, none⟩) hg).trans (hcl k hk))
  have k3 := cell_grn (v := W) (Below.refl _ _) (show g2 < W.heap.size by omega) ((hbW.cell (p := ⟨g2, off2 + i, none⟩) hg2).trans (hcl2 i (by omega)))
  have k4 := cell_grn (v := W) (Below.refl _ _) (show g2 < W.heap.size by omega) ((hbW.cell (p := ⟨g2, off2 + k, none⟩) hg2).trans (hcl2 k (by omega)))
  rw [hx1] at b1 hne k1 ⊢
  rw [hx2] at b2 hne k2 ⊢
  rw [hy1] at b3 k3 ⊢
  rw [hy2] at b4 k4 ⊢
  have HR : Hid (∀ wz, Below W.heap.size W wz → wz.cell? ⟨w.heap.size, 0, none⟩ = some (.int .i64 0) ∧ wz.cell? ⟨w.heap.size, 1, none⟩ = some (.int .i64 0) ∧ wz.frozen? ⟨w.heap.size, 0, none⟩ = false ∧ wz.frozen? ⟨w.heap.size, 1, none⟩ = false) := fun wz hz => by
    refine ⟨?_, ?_, ?_, ?_⟩
    · rw [hz.cell hWs, ← hW]; simp [go_sem]
    · rw [hz.cell hWs, ← hW]; simp [go_sem]
    · rw [hz.frozen hWs, ← hW]; simp [go_sem]
    · rw [hz.frozen hWs, ← hW]; simp [go_sem]
  have F := hide fun w => frac_c (y1 - y2) (x1 - x2) w (by omega) (by omega) (by omega)
  obtain ⟨r, hr⟩ : ∃ r, qf (y1 - y2) (x1 - x2) = r := ⟨_, rfl⟩
  rw [hr] at F ⊢
  have i1 : (i : Int) < (xs.length : Int) := by omega
  have i2 : (k : Int) < (xs.length : Int) := by omega
  have i3 : (i : Int) < (ys.length : Int) := by omega
  have i4 : (k : Int) < (ys.length : Int) := by omega
  have HL := hide hl
  clear hl hr hx1 hx2 hy1 hy2 hcl hcl2 hne hbx hby hx hy
  go_enter Try.func73, Try.ntmps73
  go_wp2_with fail
  refine wp_region_below_tail 19 (by kernel_rfl) (by kernel_rfl) ?_
  simp only [List.take_succ_cons, List.take_zero, List.drop_succ_cons, List.drop_zero]
  repeat (go_big_quiet_step ((go_at_call 84; with_reducible exact calls_grn F.out)))
  refine wpQuiet_nil ?_
  intro w' hw'
  obtain ⟨m1, m2, m3, m4⟩ := HR.out _ hw'
  have hbw := hbW.trans (hw'.mono hbW.size)
  go_wp2_with fail
  refine bodyPost_ret (v := .agg #[.int .i64 (r).num, .int .i64 ((r).den : Int)]) (by simp [results, Try.results73, go_sem, m1, m2]) rfl ⟨rfl, ?_⟩
  (repeat (first | exact Below.refl _ _ | assumption | refine Below.setCell ?_ (by first | (simp; done) | omega | (simp; omega) | (simp at *; omega)) _ | refine Below.drew ?_ | refine below_drewN ?_ _ | refine below_alloc' ?_ _ | refine below_to' ?_ (by assumption)))

set_option maxHeartbeats 2000000 in
theorem overS_d (x y : Int) (p q : Rat) (w : World) (hx : -1000 ≤ x ∧ x ≤ 1000) (hy : -1000 ≤ y ∧ y ≤ 1000) (h1 : Fit p x) (h2 : Fit (p * x) q) (h3 : Fit y (p * x + q)) :
    Calls Try.prog 71 #[.int .i64 x, .int .i64 y, .agg #[.int .i64 (p).num, .int .i64 ((p).den : Int)], .agg #[.int .i64 (q).num, .int .i64 ((q).den : Int)]] w fun e w' => e = .returned (.agg #[.int .i64 ((y : Rat) - (p * x + q)).num, .int .i64 (((y : Rat) - (p * x + q)).den : Int)]) ∧ Below w.heap.size w w' := by
  have F1 := hide fun w => fracS_c y 1 w (by omega) (by omega) (by omega)
  have F2 := hide fun w => fracS_c x 1 w (by omega) (by omega) (by omega)
  rw [qf_one] at F1 F2
  have F3 := hide fun w => timesS_d p x w h1
  have F4 := hide fun w => plusS_d (p * x) q w h2
  have F5 := hide fun w => minusS_d y (p * x + q) w h3
  obtain ⟨r5, e5⟩ : ∃ r, (y : Rat) - (p * x + q) = r := ⟨_, rfl⟩
  rw [e5] at F5 ⊢
  obtain ⟨r4, e4⟩ : ∃ r, p * x + q = r := ⟨_, rfl⟩
  rw [e4] at F4 F5
  obtain ⟨r3, e3⟩ : ∃ r, p * x = r := ⟨_, rfl⟩
  rw [e3] at F3 F4
  obtain ⟨r2, e2⟩ : ∃ r, (x : Rat) = r := ⟨_, rfl⟩
  rw [e2] at F2 F3
  obtain ⟨r1, e1⟩ : ∃ r, (y : Rat) = r := ⟨_, rfl⟩
  rw [e1] at F1 F5
  obtain ⟨W, hW, hbW, hWs, HA, HR⟩ := box2 w 31 (.int .i64 p.num) (.int .i64 (p.den : Int)) (.int .i64 q.num) (.int .i64 (q.den : Int))
  have k1 := fun d os => (HA _ (below_regrown W d os)).1
  have k2 := fun d os => (HA _ (below_regrown W d os)).2.1
  have k3 := fun d os => (HA _ (below_regrown W d os)).2.2.1
  have k4 := fun d os => (HA _ (below_regrown W d os)).2.2.2
  have HR := hide HR
  clear HA e1 e2 e3 e4 e5 h1 h2 h3
  go_enter Try.func71, Try.ntmps71
  go_wp2_with fail
  refine wp_region_below_tail 9 (by kernel_rfl) (by kernel_rfl) ?_
  simp only [List.take_succ_cons, List.take_zero, List.drop_succ_cons, List.drop_zero]
  repeat (go_big_quiet_step ((first | (go_at_call 56; with_reducible exact calls_grn F1.out) | (go_at_call 56; with_reducible exact calls_grn F2.out) | (go_at_call 58; with_reducible exact calls_grn F3.out) | (go_at_call 57; with_reducible exact calls_grn F4.out) | (go_at_call 88; with_reducible exact calls_grn F5.out))))
  refine wpQuiet_nil ?_
  intro w' hw'
  obtain ⟨m1, m2, m3, m4⟩ := HR.out _ hw'
  have hbw := hbW.trans (hw'.mono hbW.size)
  go_wp2_with fail
  refine bodyPost_ret (v := .agg #[.int .i64 (r5).num, .int .i64 ((r5).den : Int)]) (by simp [results, Try.results71, go_sem, m1, m2]) rfl ⟨rfl, ?_⟩
  (repeat (first | exact Below.refl _ _ | assumption | refine Below.setCell ?_ (by first | (simp; done) | omega | (simp; omega) | (simp at *; omega)) _ | refine Below.drew ?_ | refine below_drewN ?_ _ | refine below_alloc' ?_ _ | refine below_to' ?_ (by assumption)))
end Go.Proofs.Ytahogdcmnpidiaa
