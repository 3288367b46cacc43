/-
  Contract: SquareLine of the program.
-/
import Derived.Test.YtahogdcmnpidiaaSqL
namespace Go.Proofs.Ytahogdcmnpidiaa
open Go.RowKit

theorem new_cells {w : World} {b : Nat} {x y : Value} {T : TypeId} (h : w.heap[b]? = some (.cells #[x, y] T)) : w.cell? ⟨b, 0, none⟩ = some x ∧ w.cell? ⟨b, 1, none⟩ = some y ∧ w.frozen? ⟨b, 0, none⟩ = false ∧ w.frozen? ⟨b, 1, none⟩ = false := by
  refine ⟨?_, ?_, ?_, ?_⟩ <;> simp [World.cell?, World.frozen?, h]

set_option maxHeartbeats 8000000 in
theorem SquareI_c (u v : Value) (xs ys : List Int) (w : World) (hx : Rd w u xs) (hy : Rd w v ys) (R : Int × Int × Int × Int × Bool) (hR : sqQ xs ys = R) :
    Calls Try.prog 44 #[u, v] w fun e w' => e = .returned (.tuple #[.agg #[.int .i64 R.1, .int .i64 R.2.1], .agg #[.int .i64 R.2.2.1, .int .i64 R.2.2.2.1], .bool R.2.2.2.2]) ∧ Below w.heap.size w w' := by
  obtain ⟨W, hW, hbW, hWs, HR⟩ := res2 w 31
  have HR := hide HR
  have hxW := hx.below hbW
  have hyW := hy.below hbW
  cases hok : okCloud xs ys
  · rw [sqQ_no hok] at hR
    subst hR
    have K := hide fun w hx hy => ValidCloudI_c u v xs ys false w hx hy hok
    clear hok
    go_enter Try.func44, Try.ntmps44
    go_wp2_with fail
    refine (K.out _ hxW hyW).mono ?_
    rintro e w' ⟨rfl, hw'⟩
    obtain ⟨⟨m1, m2, m3, m4⟩, m5, m6, m7, m8⟩ := HR.out _ hw'
    have hbw := hbW.trans (hw'.mono hbW.size)
    go_wp2_with fail
    refine bodyPost_ret (v := .tuple #[.agg #[.int .i64 0, .int .i64 0], .agg #[.int .i64 0, .int .i64 0], .bool false]) (by simp [results, Try.results44, go_sem, m1, m2, m5, m6]) rfl ⟨rfl, ?_⟩
    (repeat (first | exact Below.refl _ _ | assumption | refine Below.setCell ?_ (by first | (simp; done) | omega | (simp; omega) | (simp at *; omega)) _ | refine Below.drew ?_ | refine below_drewN ?_ _ | refine below_alloc' ?_ _ | refine below_to' ?_ (by assumption)))
  · rw [sqQ_yes hok] at hR
    have K := hide fun w hx hy => ValidCloudI_c u v xs ys true w hx hy hok
    obtain ⟨b1, b2, b3, b4, b5, b6⟩ := sq_bds hok
    obtain ⟨⟨hl, l1, l2, ax, ay⟩, _⟩ := okCloud_all hok
    obtain ⟨s1, s2, s3, s4, s5, s6, s7⟩ := sl_sm hok
    have hB := fun k hk => xyTo_bd ax ay (k := k) hk
    have hB2 := fun k hk => xyTo_bd ax ax (k := k) hk
    have hAX := fun k (hk : k < xs.length) => allB_at ax hk
    have hAY := fun k (hk : k < ys.length) => allB_at ay hk
    have bx : allB (-1000000) 1000000 xs = true := allB_iff.2 fun x hx => by have := allB_iff.1 ax x hx; omega
    have by' : allB (-1000000) 1000000 ys = true := allB_iff.2 fun x hx => by have := allB_iff.1 ay x hx; omega
    have SX := hide fun w (h : Rd w u xs) => same_below (sumI_c u xs w h (by omega) bx)
    have SY := hide fun w (h : Rd w v ys) => same_below (sumI_c v ys w h (by omega) by')
    have hn0 : (((xs.length : Int) : Rat)) ≠ 0 := by
      intro e
      have := congrArg Rat.num e
      rw [Rat.num_intCast] at this
      have h0 : (0 : Rat).num = 0 := rfl
      omega
    have F1 : Hid (∀ w, Calls Try.prog 84 #[.int .i64 (sqN xs ys), .int .i64 (sqD xs)] w fun e w' => e = .returned (.agg #[.int .i64 (slR xs ys).num, .int .i64 ((slR xs ys).den : Int)]) ∧ Below w.heap.size w w') := fun w => frac_c (sqN xs ys) (sqD xs) w (by omega) (by omega) (by omega)
    have F2 := hide fun w => whole_c (sumL ys) w
    have F3 := hide fun w => whole_c (sumL xs) w
    have F4 := hide fun w => timesI_c (slR xs ys) (sumL xs : Rat) w s1 (sm_int (by omega))
    have F5 := hide fun w => minusI_c (sumL ys : Rat) (slR xs ys * (sumL xs : Rat)) w (sm_int (by omega)) s5
    have F6 := hide fun w => whole_c xs.length w
    have F7 := hide fun w => overI_d ((sumL ys : Rat) - slR xs ys * (sumL xs : Rat)) ((xs.length : Int) : Rat) w hn0 (by rw [Rat.num_intCast]; omega) (by rw [Rat.den_intCast]; omega) (fit s6 s7)
    rw [sq_same] at F7
    have F7 : Hid (∀ w, Calls Try.prog 86 #[.agg #[.int .i64 ((sumL ys : Rat) - slR xs ys * (sumL xs : Rat)).num, .int .i64 (((sumL ys : Rat) - slR xs ys * (sumL xs : Rat)).den : Int)], .agg #[.int .i64 (((xs.length : Int) : Rat)).num, .int .i64 ((((xs.length : Int) : Rat)).den : Int)]] w fun e w' => e = .returned (.agg #[.int .i64 (hgR xs ys).num, .int .i64 ((hgR xs ys).den : Int)]) ∧ Below w.heap.size w w') := F7.out
    have eN : IntKind.i64.wrap ((xs.length : Int) * xyTo xs ys xs.length) = (xs.length : Int) * xyTo xs ys xs.length := IntWalk.i64_in _ (by have := sq_le' (x := (xs.length : Int)) (y := xyTo xs ys xs.length) (m := 7) (n := 1008) (by omega) (by omega); omega)
    have eD : IntKind.i64.wrap ((xs.length : Int) * xyTo xs xs xs.length) = (xs.length : Int) * xyTo xs xs xs.length := IntWalk.i64_in _ (by have := sq_le' (x := (xs.length : Int)) (y := xyTo xs xs xs.length) (m := 7) (n := 1008) (by omega) (by omega); omega)
    have eXY : IntKind.i64.wrap (sumL xs * sumL ys) = sumL xs * sumL ys := IntWalk.i64_in _ (by have := sq_le' (x := sumL xs) (y := sumL ys) (m := 84) (n := 84) (by omega) (by omega); omega)
    have eXX : IntKind.i64.wrap (sumL xs * sumL xs) = sumL xs * sumL xs := IntWalk.i64_in _ (by have := sq_le' (x := sumL xs) (y := sumL xs) (m := 84) (n := 84) (by omega) (by omega); omega)
    have eN2 : IntKind.i64.wrap ((xs.length : Int) * xyTo xs ys xs.length - sumL xs * sumL ys) = sqN xs ys := IntWalk.i64_in _ (by show _ ≤ sqN xs ys ∧ sqN xs ys ≤ _; omega)
    have eD2 : IntKind.i64.wrap ((xs.length : Int) * xyTo xs xs xs.length - sumL xs * sumL xs) = sqD xs := IntWalk.i64_in _ (by show _ ≤ sqD xs ∧ sqD xs ≤ _; omega)
    obtain ⟨r7, e7⟩ : ∃ r, hgR xs ys = r := ⟨_, rfl⟩
    rw [e7] at F7 hR
    obtain ⟨r5, e5⟩ : ∃ r, (sumL ys : Rat) - slR xs ys * (sumL xs : Rat) = r := ⟨_, rfl⟩
    rw [e5] at F5 F7
    obtain ⟨r4, e4⟩ : ∃ r, slR xs ys * (sumL xs : Rat) = r := ⟨_, rfl⟩
    rw [e4] at F4 F5
    obtain ⟨r1, e1⟩ : ∃ r, slR xs ys = r := ⟨_, rfl⟩
    rw [e1] at F4 F1 hR
    obtain ⟨r2, e2⟩ : ∃ r, (sumL ys : Rat) = r := ⟨_, rfl⟩
    rw [e2] at F2 F5
    obtain ⟨r3, e3⟩ : ∃ r, (sumL xs : Rat) = r := ⟨_, rfl⟩
    rw [e3] at F3 F4
    obtain ⟨r6, e6⟩ : ∃ r, ((xs.length : Int) : Rat) = r := ⟨_, rfl⟩
    rw [e6] at F6 F7
    subst hR
    obtain ⟨NN, hNN⟩ : ∃ N, sqN xs ys = N := ⟨_, rfl⟩
    obtain ⟨DD, hDD⟩ : ∃ N, sqD xs = N := ⟨_, rfl⟩
    obtain ⟨TX, hTX⟩ : ∃ N, sumL xs = N := ⟨_, rfl⟩
    obtain ⟨TY, hTY⟩ : ∃ N, sumL ys = N := ⟨_, rfl⟩
    obtain ⟨PX, hPX⟩ : ∃ N, xyTo xs xs xs.length = N := ⟨_, rfl⟩
    obtain ⟨PY, hPY⟩ : ∃ N, xyTo xs ys xs.length = N := ⟨_, rfl⟩
    rw [hNN] at F1 eN2
    rw [hDD] at F1 eD2
    rw [hTX] at SX F3 eXY eXX eN2 eD2
    rw [hTY] at SY F2 eXY eN2
    rw [hPX] at eD eD2
    rw [hPY] at eN eN2
    have HPX := hide hPX
    have HPY := hide hPY
    have HEQ := hide (And.intro eN (And.intro eD (And.intro eXY (And.intro eXX (And.intro eN2 eD2)))))
    have HL := hide hl
    clear hl e1 e2 e3 e4 e5 e6 e7 hNN hDD hTX hTY hPX hPY eN eD eXY eXX eN2 eD2 s1 s2 s3 s4 s5 s6 s7 bx by' ax ay hok b1 b2 b3 b4 hn0
    obtain ⟨A, c, rfl, hc, hm, _⟩ := id hx
    obtain ⟨A2, c2, rfl, hc2, hm2, _⟩ := id hy
    go_enter Try.func44, Try.ntmps44
    go_wp2_with fail
    refine (K.out _ hxW hyW).mono ?_
    rintro e w1 ⟨rfl, hb1⟩
    have hxW := hxW.below hb1
    have hyW := hyW.below hb1
    go_wp2_with fail
    go_loopw [8, 9, 24] (fun b a i wr => ∃ k : Nat, k ≤ xs.length ∧ i = .int .i64 k ∧ a = .int .i64 (xyTo xs ys k) ∧ b = .int .i64 (xyTo xs xs k) ∧ Below w1.heap.size w1 wr) (fun _ _ i _ => xs.length - (intOf i).toNat)
    case atStart => exact ⟨0, by omega, rfl, rfl, rfl, Below.refl _ _⟩
    case round =>
      obtain ⟨k, hk, rfl, rfl, rfl, hbel⟩ := hrel
      by_cases hlt : k < xs.length
      · have hlt2 : k < ys.length := by have := HL.out; omega
        obtain ⟨g, off, rfl, hg, hcl⟩ := hxW.at (by omega)
        obtain ⟨g2, off2, rfl, hg2, hcl2⟩ := hyW.at (by omega)
        have hc1 : wr.cell? ⟨g, off + k, none⟩ = some (.int .i64 (atL xs k)) := (hbel.cell (p := ⟨g, off + k, none⟩) hg).trans (hcl k hlt)
        have hc2 : wr.cell? ⟨g2, off2 + k, none⟩ = some (.int .i64 (atL ys k)) := (hbel.cell (p := ⟨g2, off2 + k, none⟩) hg2).trans (hcl2 k hlt2)
        have B1 := hB k hk (by omega)
        have B2 := hB2 k hk hk
        have C1 := hB (k + 1) hlt (by omega)
        have C2 := hB2 (k + 1) hlt hlt
        have HA1 := hide (xyTo_succ xs ys k)
        have HA2 := hide (xyTo_succ xs xs k)
        rw [HA1.out] at C1
        rw [HA2.out] at C2
        have X1 := hAX k hlt
        have Y1 := hAY k hlt2
        have M1 := sq_le' X1 Y1
        have M2 := sq_le' X1 X1
        obtain ⟨x, hxe⟩ : ∃ x, atL xs k = x := ⟨_, rfl⟩
        obtain ⟨y, hye⟩ : ∃ x, atL ys k = x := ⟨_, rfl⟩
        obtain ⟨p, hpe⟩ : ∃ x, xyTo xs ys k = x := ⟨_, rfl⟩
        obtain ⟨q, hqe⟩ : ∃ x, xyTo xs xs k = x := ⟨_, rfl⟩
        rw [hxe] at hc1 X1 M1 M2 C1 C2 HA1 HA2
        rw [hye] at hc2 Y1 M1 C1 HA1
        rw [hpe] at B1 C1 HA1 ⊢
        rw [hqe] at B2 C2 HA2 ⊢
        have i1 : (k : Int) < (xs.length : Int) := by omega
        have i2 : (k : Int) < (ys.length : Int) := by omega
        have e1 : IntKind.i64.wrap (x * y) = x * y := IntWalk.i64_in _ (by omega)
        have e2 : IntKind.i64.wrap (x * x) = x * x := IntWalk.i64_in _ (by omega)
        have e3 : IntKind.i64.wrap (p + x * y) = p + x * y := IntWalk.i64_in _ (by omega)
        have e4 : IntKind.i64.wrap (q + x * x) = q + x * x := IntWalk.i64_in _ (by omega)
        clear hxe hye hpe hqe hcl hcl2 M1 M2 C1 C2 B1 B2 hB hB2 hAX hAY
        go_wp2_with fail
        clear e1 e2 e3 e4
        go_roundw
        case rel => exact ⟨k + 1, by omega, by go_num, by rw [HA1.out], by rw [HA2.out], by (repeat (first | exact Below.refl _ _ | assumption | refine Below.setCell ?_ (by first | (simp; done) | omega | (simp; omega) | (simp at *; omega)) _ | refine Below.drew ?_ | refine below_drewN ?_ _ | refine below_alloc' ?_ _ | refine below_to' ?_ (by assumption)))⟩
        case measure => simp [intOf]; omega
      · obtain rfl : k = xs.length := by omega
        obtain ⟨eN, eD, eXY, eXX, eN2, eD2⟩ := HEQ.out
        have hpx := HPX.out
        have hpy := HPY.out
        rw [hpx, hpy]
        rw [hpx] at b6
        rw [hpy] at b5
        clear hB hB2 hpx hpy HPX HPY HEQ HL hAX hAY
        have hz := hbel.size
        go_wp2_with (first
          | (go_at_call 85; with_reducible refine (SX.out _ ?_).mono ?_; (first | exact (Rd.below hxW (by (repeat (first | exact Below.refl _ _ | assumption | refine Below.setCell ?_ (by first | (simp; done) | omega | (simp; omega) | (simp at *; omega)) _ | refine Below.drew ?_ | refine below_drewN ?_ _ | refine below_alloc' ?_ _ | refine below_to' ?_ (by assumption)))))); rintro e wq ⟨rfl, hbq⟩)
          | (go_at_call 85; with_reducible refine (SY.out _ ?_).mono ?_; (first | exact (Rd.below hyW (by (repeat (first | exact Below.refl _ _ | assumption | refine Below.setCell ?_ (by first | (simp; done) | omega | (simp; omega) | (simp at *; omega)) _ | refine Below.drew ?_ | refine below_drewN ?_ _ | refine below_alloc' ?_ _ | refine below_to' ?_ (by assumption)))))); rintro e wq ⟨rfl, hbq⟩)
          | fail)
        refine (F1.out _).mono ?_
        rintro e wf ⟨rfl, hbf⟩
        have hbW2 : Below w1.heap.size w1 wf := by (repeat (first | exact Below.refl _ _ | assumption | refine Below.setCell ?_ (by first | (simp; done) | omega | (simp; omega) | (simp at *; omega)) _ | refine Below.drew ?_ | refine below_drewN ?_ _ | refine below_alloc' ?_ _ | refine below_to' ?_ (by assumption)))
        obtain ⟨V, hV⟩ : ∃ V, wf.alloc (.cells #[.int .i64 r1.num, .int .i64 (r1.den : Int)] 31) = V := ⟨_, rfl⟩
        have hbV : Below w1.heap.size w1 V := by rw [← hV]; (repeat (first | exact Below.refl _ _ | assumption | refine Below.setCell ?_ (by first | (simp; done) | omega | (simp; omega) | (simp at *; omega)) _ | refine Below.drew ?_ | refine below_drewN ?_ _ | refine below_alloc' ?_ _ | refine below_to' ?_ (by assumption)))
        have hfV : wf.heap.size < V.heap.size := by rw [← hV]; simp
        have c1 : V.cell? ⟨wf.heap.size, 0, none⟩ = some (.int .i64 r1.num) := by rw [← hV]; simp [go_sem]
        have c2 : V.cell? ⟨wf.heap.size, 1, none⟩ = some (.int .i64 (r1.den : Int)) := by rw [← hV]; simp [go_sem]
        have hc1 := hide c1
        have hc2 := hide c2
        have hxV := hxW.below hbV
        have hyV := hyW.below hbV
        have hbW2 := hide hbW2
        clear eN eD eXY eXX eN2 eD2 c1 c2
        go_wp2_with fail
        clear hV
        refine wp_region_free_ex 12 13 (.cells #[.int .i64 0, .int .i64 0] 31) (by kernel_rfl) (by kernel_rfl) (by kernel_rfl) (fun oa hoa => by cases hoa; exact ⟨rfl, fun ρ w => by simp [execOp, go_sem]⟩) ?_
        apply Exists.intro
        refine ⟨fun z hz => ?_, ?_⟩
        · have kv := cell_grn hz hfV hc1.out
          have kv2 := cell_grn hz hfV hc2.out
          have hxz := hxV.below hz
          have hyz := hyV.below hz
          simp only [List.take_succ_cons, List.take_zero, List.drop_succ_cons, List.drop_zero]
          repeat (go_big_quiet_step ((first
            | (go_at_call 85; with_reducible exact calls_grn' (fun w hw => SX.out _ (hxz.below hw)))
            | (go_at_call 85; with_reducible exact calls_grn' (fun w hw => SY.out _ (hyz.below hw)))
            | (go_at_call 61; with_reducible exact calls_grn F2.out)
            | (go_at_call 61; with_reducible exact calls_grn F3.out)
            | (go_at_call 61; with_reducible exact calls_grn F6.out)
            | (go_at_call 63; with_reducible exact calls_grn F4.out)
            | (go_at_call 74; with_reducible exact calls_grn F5.out)
            | (go_at_call 86; with_reducible exact calls_grn F7.out))))
          exact wpQuiet_nil rfl
        intro b w' hb1 hb2 hb3
        obtain ⟨q1, q2, q3, q4⟩ := new_cells hb3
        obtain ⟨Z, hZ⟩ : ∃ Z, (w'.setCell ⟨b, 0, none⟩ (.int .i64 r7.num)).setCell ⟨b, 1, none⟩ (.int .i64 (r7.den : Int)) = Z := ⟨_, rfl⟩
        have hbw1 := ‹Below W.heap.size W w1›
        have hbWw' := hbw1.trans ((hbV.trans (hb1.mono hbV.size)).mono hbw1.size)
        have hWb : W.heap.size ≤ b := by have := hbw1.size; have := hbV.size; omega
        have hbZ : Below W.heap.size W Z := by rw [← hZ]; exact (hbWw'.setCell hWb _).setCell hWb _
        have hzs : Z.heap.size = w'.heap.size := by rw [← hZ]; simp [World.setCell]
        obtain ⟨⟨m1, m2, m3, m4⟩, m5, m6, m7, m8⟩ := HR.out _ hbZ
        have hnb : wf.heap.size ≠ b := by omega
        have k1 : Z.cell? ⟨wf.heap.size, 0, none⟩ = some (.int .i64 r1.num) := by
          rw [← hZ, World.cell?_setCell_other _ _ _ _ (by simp [Ne.symm hnb]), World.cell?_setCell_other _ _ _ _ (by simp [Ne.symm hnb]), hb1.cell hfV]
          exact hc1.out
        have k2 : Z.cell? ⟨wf.heap.size, 1, none⟩ = some (.int .i64 (r1.den : Int)) := by
          rw [← hZ, World.cell?_setCell_other _ _ _ _ (by simp [Ne.symm hnb]), World.cell?_setCell_other _ _ _ _ (by simp [Ne.symm hnb]), hb1.cell hfV]
          exact hc2.out
        have k3 : Z.cell? ⟨b, 0, none⟩ = some (.int .i64 r7.num) := by
          rw [← hZ, World.cell?_setCell_other _ _ _ _ (by simp)]
          exact World.cell?_setCell_same _ _ _ q1
        have k4 : Z.cell? ⟨b, 1, none⟩ = some (.int .i64 (r7.den : Int)) := by
          rw [← hZ]
          exact World.cell?_setCell_same _ _ _ (by rw [World.cell?_setCell_other _ _ _ _ (by simp)]; exact q2)
        have hbw := hbW.trans (hbZ.mono hbW.size)
        have s0 := hbw1.size
        have s1 := hbV.size
        have s2 := hb1.size
        have s3 := hbW2.out.size
        have n1 : ¬ w.heap.size = wf.heap.size := by omega
        have n2 : ¬ w.heap.size = b := by omega
        have n3 : ¬ w.heap.size + 1 = wf.heap.size := by omega
        have n4 : ¬ w.heap.size + 1 = b := by omega
        have hs2 : w.heap.size + 1 < Z.heap.size := by omega
        have hs1 : w.heap.size < Z.heap.size := by omega
        simp only [List.take_succ_cons, List.take_zero, List.drop_succ_cons, List.drop_zero, Act.put]
        go_wp2_with fail
        clear hZ
        go_region_held3 (fun wz => wz.cell? ⟨wf.heap.size, 0, none⟩ = some (.int .i64 r1.num) ∧ wz.cell? ⟨wf.heap.size, 1, none⟩ = some (.int .i64 (r1.den : Int)) ∧ wz.cell? ⟨b, 0, none⟩ = some (.int .i64 r7.num) ∧ wz.cell? ⟨b, 1, none⟩ = some (.int .i64 (r7.den : Int))) (go_keep) (fail)
        go_wp2_with fail
        refine bodyPost_ret (v := .tuple #[.agg #[.int .i64 (r1).num, .int .i64 ((r1).den : Int)], .agg #[.int .i64 (r7).num, .int .i64 ((r7).den : Int)], .bool true]) (by simp [results, Try.results44, go_sem, m1, m2, m5, m6]) rfl ⟨rfl, ?_⟩
        (repeat (first | exact Below.refl _ _ | assumption | refine Below.setCell ?_ (by first | (simp; done) | omega | (simp; omega) | (simp at *; omega)) _ | refine Below.drew ?_ | refine below_drewN ?_ _ | refine below_alloc' ?_ _ | refine below_to' ?_ (by assumption)))
end Go.Proofs.Ytahogdcmnpidiaa
