/-
  Contracts: the line of the least squares, in the reference.
-/
import Derived.Test.YtahogdcmnpidiaaSq
import Derived.Test.YtahogdcmnpidiaaSums
namespace Go.Proofs.Ytahogdcmnpidiaa
open Go.RowKit

theorem same_below {P : Program} {f : FuncId} {args : Array Value} {u : Value} {w : World} (h : Calls P f args w fun e w' => e = .returned u ∧ w = w') : Calls P f args w fun e w' => e = .returned u ∧ Below w.heap.size w w' :=
  h.mono fun _ _ ⟨he, hw⟩ => ⟨he, hw ▸ Below.refl _ _⟩
theorem below_drew' {a w w' : World} (h : Below w.heap.size w w') (hb : Below a.heap.size a w) : Below a.heap.size a w' := hb.trans (h.mono hb.size)

set_option maxHeartbeats 4000000 in
theorem squareS_c (u v : Value) (xs ys : List Int) (w : World) (hx : Rd w u xs) (hy : Rd w v ys) (hok : okCloud xs ys = true) :
    Calls Try.prog 83 #[u, v] w fun e w' => e = .returned (.tuple #[.agg #[.int .i64 (slR xs ys).num, .int .i64 ((slR xs ys).den : Int)], .agg #[.int .i64 (hgR xs ys).num, .int .i64 ((hgR xs ys).den : Int)]]) ∧ Below w.heap.size w w' := by
  obtain ⟨b1, b2, b3, b4, b5, b6⟩ := sq_bds hok
  obtain ⟨⟨hl, l1, l2, ax, ay⟩, _⟩ := okCloud_all hok
  obtain ⟨s1, s2, s3, s4, _⟩ := sl_sm hok
  have hB := fun k hk => xyTo_bd ax ay (k := k) hk
  have hB2 := fun k hk => xyTo_bd ax ax (k := k) hk
  have hAX := fun k (hk : k < xs.length) => allB_at ax hk
  have hAY := fun k (hk : k < ys.length) => allB_at ay hk
  have bx : allB (-1000000) 1000000 xs = true := allB_iff.2 fun x hx => by have := allB_iff.1 ax x hx; omega
  have by' : allB (-1000000) 1000000 ys = true := allB_iff.2 fun x hx => by have := allB_iff.1 ay x hx; omega
  have SX := hide fun w (h : Rd w u xs) => same_below (sumS_c u xs w h (by omega) bx)
  have SY := hide fun w (h : Rd w v ys) => same_below (sumS_c v ys w h (by omega) by')
  have F1 := hide fun w => fracS_c (sqN xs ys) (sqD xs) w (by omega) (by omega) (by omega)
  have F2 := hide fun w => fracS_c (sumL ys) xs.length w (by omega) (by omega) (by omega)
  have F3 := hide fun w => fracS_c (sumL xs) xs.length w (by omega) (by omega) (by omega)
  have F4 := hide fun w => timesS_c (slR xs ys) (qf (sumL xs) xs.length) w s1 s2
  have F5 := hide fun w => minusS_c (qf (sumL ys) xs.length) (slR xs ys * qf (sumL xs) xs.length) w s3 s4
  have eN : IntKind.i64.wrap ((xs.length : Int) * xyTo xs ys xs.length) = (xs.length : Int) * xyTo xs ys xs.length := IntWalk.i64_in _ (by have := sq_le' (x := (xs.length : Int)) (y := xyTo xs ys xs.length) (m := 7) (n := 1008) (by omega) (by omega); omega)
  have eD : IntKind.i64.wrap ((xs.length : Int) * xyTo xs xs xs.length) = (xs.length : Int) * xyTo xs xs xs.length := IntWalk.i64_in _ (by have := sq_le' (x := (xs.length : Int)) (y := xyTo xs xs xs.length) (m := 7) (n := 1008) (by omega) (by omega); omega)
  have eXY : IntKind.i64.wrap (sumL xs * sumL ys) = sumL xs * sumL ys := IntWalk.i64_in _ (by have := sq_le' (x := sumL xs) (y := sumL ys) (m := 84) (n := 84) (by omega) (by omega); omega)
  have eXX : IntKind.i64.wrap (sumL xs * sumL xs) = sumL xs * sumL xs := IntWalk.i64_in _ (by have := sq_le' (x := sumL xs) (y := sumL xs) (m := 84) (n := 84) (by omega) (by omega); omega)
  have eN2 : IntKind.i64.wrap ((xs.length : Int) * xyTo xs ys xs.length - sumL xs * sumL ys) = sqN xs ys := IntWalk.i64_in _ (by show _ ≤ sqN xs ys ∧ sqN xs ys ≤ _; omega)
  have eD2 : IntKind.i64.wrap ((xs.length : Int) * xyTo xs xs xs.length - sumL xs * sumL xs) = sqD xs := IntWalk.i64_in _ (by show _ ≤ sqD xs ∧ sqD xs ≤ _; omega)
  have hE : (∃ h, hgR xs ys = h) ∧ True := ⟨⟨_, rfl⟩, trivial⟩
  show Calls Try.prog _ _ w fun e w' => e = .returned (.tuple #[.agg #[.int .i64 (slR xs ys).num, .int .i64 ((slR xs ys).den : Int)], .agg #[.int .i64 (qf (sumL ys) xs.length - slR xs ys * qf (sumL xs) xs.length).num, .int .i64 ((qf (sumL ys) xs.length - slR xs ys * qf (sumL xs) xs.length).den : Int)]]) ∧ Below w.heap.size w w'
  obtain ⟨r5, e5⟩ : ∃ r, qf (sumL ys) xs.length - slR xs ys * qf (sumL xs) xs.length = r := ⟨_, rfl⟩
  rw [e5] at F5 ⊢
  obtain ⟨r4, e4⟩ : ∃ r, slR xs ys * qf (sumL xs) xs.length = r := ⟨_, rfl⟩
  rw [e4] at F4 F5
  obtain ⟨r3, e3⟩ : ∃ r, qf (sumL xs) xs.length = r := ⟨_, rfl⟩
  rw [e3] at F3 F4
  obtain ⟨r2, e2⟩ : ∃ r, qf (sumL ys) xs.length = r := ⟨_, rfl⟩
  rw [e2] at F2 F5
  have HF1 : Hid (∀ w, Calls Try.prog 56 #[.int .i64 (sqN xs ys), .int .i64 (sqD xs)] w fun e w' => e = .returned (.agg #[.int .i64 (slR xs ys).num, .int .i64 ((slR xs ys).den : Int)]) ∧ Below w.heap.size w w') := F1.out
  obtain ⟨r1, e1⟩ : ∃ r, slR xs ys = r := ⟨_, rfl⟩
  rw [e1] at F4 HF1 ⊢
  obtain ⟨NN, hNN⟩ : ∃ N, sqN xs ys = N := ⟨_, rfl⟩
  obtain ⟨DD, hDD⟩ : ∃ N, sqD xs = N := ⟨_, rfl⟩
  obtain ⟨TX, hTX⟩ : ∃ N, sumL xs = N := ⟨_, rfl⟩
  obtain ⟨TY, hTY⟩ : ∃ N, sumL ys = N := ⟨_, rfl⟩
  obtain ⟨PX, hPX⟩ : ∃ N, xyTo xs xs xs.length = N := ⟨_, rfl⟩
  obtain ⟨PY, hPY⟩ : ∃ N, xyTo xs ys xs.length = N := ⟨_, rfl⟩
  rw [hNN] at HF1 eN2
  rw [hDD] at HF1 eD2
  rw [hTX] at SX F3 eXY eXX eN2 eD2
  rw [hTY] at SY F2 eXY eN2
  rw [hPX] at eD eD2
  rw [hPY] at eN eN2
  have HPX := hide hPX
  have HPY := hide hPY
  have HEQ := hide (And.intro eN (And.intro eD (And.intro eXY (And.intro eXX (And.intro eN2 eD2)))))
  have HL := hide hl
  clear hl F1 hE e1 e2 e3 e4 e5 hNN hDD hTX hTY hPX hPY eN eD eXY eXX eN2 eD2 s1 s2 s3 s4 bx by' ax ay hok b1 b2 b3 b4
  obtain ⟨A, c, rfl, hc, hm, _⟩ := id hx
  obtain ⟨A2, c2, rfl, hc2, hm2, _⟩ := id hy
  obtain ⟨W, hW, hbW, hWs, HR⟩ : ∃ W, (w.alloc (.cells #[.int .i64 0, .int .i64 0] 31)).alloc (.cells #[.int .i64 0, .int .i64 0] 31) = W ∧ Below w.heap.size w W ∧ w.heap.size + 1 < W.heap.size ∧
      ∀ wz, Below W.heap.size W wz → (wz.cell? ⟨w.heap.size, 0, none⟩ = some (.int .i64 0) ∧ wz.cell? ⟨w.heap.size, 1, none⟩ = some (.int .i64 0) ∧ wz.frozen? ⟨w.heap.size, 0, none⟩ = false ∧ wz.frozen? ⟨w.heap.size, 1, none⟩ = false) ∧ wz.cell? ⟨w.heap.size + 1, 0, none⟩ = some (.int .i64 0) ∧ wz.cell? ⟨w.heap.size + 1, 1, none⟩ = some (.int .i64 0) ∧ wz.frozen? ⟨w.heap.size + 1, 0, none⟩ = false ∧ wz.frozen? ⟨w.heap.size + 1, 1, none⟩ = false := by
    refine ⟨_, rfl, by (repeat (first | exact Below.refl _ _ | assumption | refine Below.setCell ?_ (by first | (simp; done) | omega | (simp; omega) | (simp at *; omega)) _ | refine Below.drew ?_ | refine below_drewN ?_ _ | refine below_alloc' ?_ _ | refine below_to' ?_ (by assumption))), by simp, fun wz hz => ⟨⟨?_, ?_, ?_, ?_⟩, ?_, ?_, ?_, ?_⟩⟩
    all_goals first | (rw [hz.cell (by simp; try omega)]; simp [go_sem]; done) | (rw [hz.frozen (by simp; try omega)]; simp [go_sem]; done)
  have HR := hide HR
  have hxW := hx.below hbW
  have hyW := hy.below hbW
  go_enter Try.func83, Try.ntmps83
  go_wp2_with fail
  go_loopw [7, 8, 9] (fun a b i wr => ∃ k : Nat, k ≤ xs.length ∧ i = .int .i64 k ∧ a = .int .i64 (xyTo xs ys k) ∧ b = .int .i64 (xyTo xs xs k) ∧ Below W.heap.size W wr) (fun _ _ i _ => xs.length - (intOf i).toNat)
  case atStart => exact ⟨0, by omega, rfl, rfl, rfl, Below.refl _ _⟩
  case round =>
    obtain ⟨k, hk, rfl, rfl, rfl, hbel⟩ := hrel
    by_cases hlt : k < xs.length
    · have hlt2 : k < ys.length := by have := HL.out; omega
      obtain ⟨g, off, rfl, hg, hcl⟩ := hxW.at (by omega)
      obtain ⟨g2, off2, rfl, hg2, hcl2⟩ := hyW.at (by omega)
      have hc1 : wr.cell? ⟨g, off + k, none⟩ = some (.int .i64 (atL xs k)) := (hbel.cell (p := ⟨g, off + k, none⟩) hg).trans (hcl k hlt)
      have hc2 : wr.cell? ⟨g2, off2 + k, none⟩ = some (.int .i64 (atL ys k)) := (hbel.cell (p := ⟨g2, off2 + k, none⟩) hg2).trans (hcl2 k hlt2)
      have B1 := hB k hk (by omega)
      have B2 := hB2 k hk hk
      have C1 := hB (k + 1) hlt (by omega)
      have C2 := hB2 (k + 1) hlt hlt
      have HA1 := hide (xyTo_succ xs ys k)
      have HA2 := hide (xyTo_succ xs xs k)
      rw [HA1.out] at C1
      rw [HA2.out] at C2
      have X1 := hAX k hlt
      have Y1 := hAY k hlt2
      have M1 := sq_le' X1 Y1
      have M2 := sq_le' X1 X1
      obtain ⟨x, hxe⟩ : ∃ x, atL xs k = x := ⟨_, rfl⟩
      obtain ⟨y, hye⟩ : ∃ x, atL ys k = x := ⟨_, rfl⟩
      obtain ⟨p, hpe⟩ : ∃ x, xyTo xs ys k = x := ⟨_, rfl⟩
      obtain ⟨q, hqe⟩ : ∃ x, xyTo xs xs k = x := ⟨_, rfl⟩
      rw [hxe] at hc1 X1 M1 M2 C1 C2 HA1 HA2
      rw [hye] at hc2 Y1 M1 C1 HA1
      rw [hpe] at B1 C1 HA1 ⊢
      rw [hqe] at B2 C2 HA2 ⊢
      have i1 : (k : Int) < (xs.length : Int) := by omega
      have i2 : (k : Int) < (ys.length : Int) := by omega
      have e1 : IntKind.i64.wrap (x * y) = x * y := IntWalk.i64_in _ (by omega)
      have e2 : IntKind.i64.wrap (x * x) = x * x := IntWalk.i64_in _ (by omega)
      have e3 : IntKind.i64.wrap (p + x * y) = p + x * y := IntWalk.i64_in _ (by omega)
      have e4 : IntKind.i64.wrap (q + x * x) = q + x * x := IntWalk.i64_in _ (by omega)
      clear hxe hye hpe hqe hcl hcl2 M1 M2 C1 C2 B1 B2 hB hB2 hAX hAY
      go_wp2_with fail
      go_quiet (fail)
      go_wp2_with fail
      go_quiet (fail)
      go_wp2_with fail
      clear e1 e2 e3 e4
      go_roundw
      case rel => exact ⟨k + 1, by omega, by go_num, by rw [HA1.out], by rw [HA2.out], by (repeat (first | exact Below.refl _ _ | assumption | refine Below.setCell ?_ (by first | (simp; done) | omega | (simp; omega) | (simp at *; omega)) _ | refine Below.drew ?_ | refine below_drewN ?_ _ | refine below_alloc' ?_ _ | refine below_to' ?_ (by assumption)))⟩
      case measure => simp [intOf]; omega
    · obtain rfl : k = xs.length := by omega
      obtain ⟨eN, eD, eXY, eXX, eN2, eD2⟩ := HEQ.out
      have hpx := HPX.out
      have hpy := HPY.out
      rw [hpx, hpy]
      rw [hpx] at b6
      rw [hpy] at b5
      clear hB hB2 hpx hpy HPX HPY HEQ HL hAX hAY
      have hz := hbel.size
      go_wp2_with (first
        | (go_at_call 96; with_reducible refine (SX.out _ ?_).mono ?_; (first | exact (Rd.below hxW (by (repeat (first | exact Below.refl _ _ | assumption | refine Below.setCell ?_ (by first | (simp; done) | omega | (simp; omega) | (simp at *; omega)) _ | refine Below.drew ?_ | refine below_drewN ?_ _ | refine below_alloc' ?_ _ | refine below_to' ?_ (by assumption)))))); rintro e wq ⟨rfl, hbq⟩)
        | (go_at_call 96; with_reducible refine (SY.out _ ?_).mono ?_; (first | exact (Rd.below hyW (by (repeat (first | exact Below.refl _ _ | assumption | refine Below.setCell ?_ (by first | (simp; done) | omega | (simp; omega) | (simp at *; omega)) _ | refine Below.drew ?_ | refine below_drewN ?_ _ | refine below_alloc' ?_ _ | refine below_to' ?_ (by assumption)))))); rintro e wq ⟨rfl, hbq⟩)
        | fail)
      refine (HF1.out _).mono ?_
      rintro e wf ⟨rfl, hbf⟩
      have hbW2 : Below W.heap.size W wf := by (repeat (first | exact Below.refl _ _ | assumption | refine Below.setCell ?_ (by first | (simp; done) | omega | (simp; omega) | (simp at *; omega)) _ | refine Below.drew ?_ | refine below_drewN ?_ _ | refine below_alloc' ?_ _ | refine below_to' ?_ (by assumption)))
      obtain ⟨V, hV⟩ : ∃ V, wf.alloc (.cells #[.int .i64 r1.num, .int .i64 (r1.den : Int)] 31) = V := ⟨_, rfl⟩
      have hbV : Below W.heap.size W V := by rw [← hV]; (repeat (first | exact Below.refl _ _ | assumption | refine Below.setCell ?_ (by first | (simp; done) | omega | (simp; omega) | (simp at *; omega)) _ | refine Below.drew ?_ | refine below_drewN ?_ _ | refine below_alloc' ?_ _ | refine below_to' ?_ (by assumption)))
      have hfV : wf.heap.size < V.heap.size := by rw [← hV]; simp
      have kv : ∀ d os, (Go.Sort.grow (redrawn V d) os).cell? ⟨wf.heap.size, 0, none⟩ = some (.int .i64 r1.num) := cell_grn (Below.refl _ _) hfV (by rw [← hV]; simp [go_sem])
      have kv2 : ∀ d os, (Go.Sort.grow (redrawn V d) os).cell? ⟨wf.heap.size, 1, none⟩ = some (.int .i64 (r1.den : Int)) := cell_grn (Below.refl _ _) hfV (by rw [← hV]; simp [go_sem])
      have hxV := hxW.below hbV
      have hyV := hyW.below hbV
      clear eN eD eXY eXX eN2 eD2
      have hbW2 := hide hbW2
      go_wp2_with fail
      clear hV
      refine wp_region_below_tail 12 (by kernel_rfl) (by kernel_rfl) ?_
      simp only [List.take_succ_cons, List.take_zero, List.drop_succ_cons, List.drop_zero]
      repeat (go_big_quiet_step ((first
        | (go_at_call 96; with_reducible exact calls_grn' (fun w hw => SX.out _ (hxV.below hw)))
        | (go_at_call 96; with_reducible exact calls_grn' (fun w hw => SY.out _ (hyV.below hw)))
        | (go_at_call 56; with_reducible exact calls_grn F2.out)
        | (go_at_call 56; with_reducible exact calls_grn F3.out)
        | (go_at_call 58; with_reducible exact calls_grn F4.out)
        | (go_at_call 88; with_reducible exact calls_grn F5.out))))
      refine wpQuiet_nil ?_
      intro w' hw'
      obtain ⟨⟨m1, m2, m3, m4⟩, m5, m6, m7, m8⟩ := HR.out _ (hbV.trans (hw'.mono hbV.size))
      have hbw := hbW.trans ((hbV.trans (hw'.mono hbV.size)).mono hbW.size)
      have hs2 : w.heap.size < w'.heap.size := by have := hbV.size; have := hw'.size; omega
      go_wp2_with fail
      refine bodyPost_ret (v := .tuple #[.agg #[.int .i64 (r1).num, .int .i64 ((r1).den : Int)], .agg #[.int .i64 (r5).num, .int .i64 ((r5).den : Int)]]) (by simp [results, Try.results83, go_sem, m1, m2, m5, m6]) rfl ⟨rfl, ?_⟩
      (repeat (first | exact Below.refl _ _ | assumption | refine Below.setCell ?_ (by first | (simp; done) | omega | (simp; omega) | (simp at *; omega)) _ | refine Below.drew ?_ | refine below_drewN ?_ _ | refine below_alloc' ?_ _ | refine below_to' ?_ (by assumption)))
end Go.Proofs.Ytahogdcmnpidiaa
