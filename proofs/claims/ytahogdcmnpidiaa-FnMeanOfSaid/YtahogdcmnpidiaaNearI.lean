/-
  The nearest line, in the program.
-/
import Derived.Test.YtahogdcmnpidiaaNearN
import Derived.Test.YtahogdcmnpidiaaSz
namespace Go.Proofs.Ytahogdcmnpidiaa
open Go.RowKit

/-- Six cells of numbers in one block, not frozen. -/
def Six (w : World) (q : Nat) (a b c d e f : Int) : Prop :=
  (w.cell? ⟨q, 0, none⟩ = some (.int .i64 a) ∧ w.cell? ⟨q, 1, none⟩ = some (.int .i64 b) ∧ w.cell? ⟨q, 2, none⟩ = some (.int .i64 c) ∧ w.cell? ⟨q, 3, none⟩ = some (.int .i64 d) ∧ w.cell? ⟨q, 4, none⟩ = some (.int .i64 e) ∧ w.cell? ⟨q, 5, none⟩ = some (.int .i64 f)) ∧
  (w.frozen? ⟨q, 0, none⟩ = false ∧ w.frozen? ⟨q, 1, none⟩ = false ∧ w.frozen? ⟨q, 2, none⟩ = false ∧ w.frozen? ⟨q, 3, none⟩ = false ∧ w.frozen? ⟨q, 4, none⟩ = false ∧ w.frozen? ⟨q, 5, none⟩ = false)
theorem Six.keep {w w' : World} {B q : Nat} {a b c d e f : Int} (h : Six w q a b c d e f) (hb : Below B w w') (hB : q < B) : Six w' q a b c d e f := by
  obtain ⟨⟨c0, c1, c2, c3, c4, c5⟩, f0, f1, f2, f3, f4, f5⟩ := h
  exact ⟨⟨(hb.cell (p := ⟨q, 0, none⟩) hB).trans c0, (hb.cell (p := ⟨q, 1, none⟩) hB).trans c1, (hb.cell (p := ⟨q, 2, none⟩) hB).trans c2, (hb.cell (p := ⟨q, 3, none⟩) hB).trans c3, (hb.cell (p := ⟨q, 4, none⟩) hB).trans c4, (hb.cell (p := ⟨q, 5, none⟩) hB).trans c5⟩,
    (hb.frozen (p := ⟨q, 0, none⟩) hB).trans f0, (hb.frozen (p := ⟨q, 1, none⟩) hB).trans f1, (hb.frozen (p := ⟨q, 2, none⟩) hB).trans f2, (hb.frozen (p := ⟨q, 3, none⟩) hB).trans f3, (hb.frozen (p := ⟨q, 4, none⟩) hB).trans f4, (hb.frozen (p := ⟨q, 5, none⟩) hB).trans f5⟩
/-- One store into all six. -/
theorem set_six {w : World} {q : Nat} {a b c d e f : Int} (h : Six w q a b c d e f) (a' b' c' d' e' f' : Int) :
    ∃ Z, (((((w.setCell ⟨q, 0, none⟩ (.int .i64 a')).setCell ⟨q, 1, none⟩ (.int .i64 b')).setCell ⟨q, 2, none⟩ (.int .i64 c')).setCell ⟨q, 3, none⟩ (.int .i64 d')).setCell ⟨q, 4, none⟩ (.int .i64 e')).setCell ⟨q, 5, none⟩ (.int .i64 f') = Z ∧ Below q w Z ∧ Z.heap.size = w.heap.size ∧ Six Z q a' b' c' d' e' f' := by
  obtain ⟨⟨c0, c1, c2, c3, c4, c5⟩, f0, f1, f2, f3, f4, f5⟩ := h
  refine ⟨_, rfl, (((((((Below.refl _ _).setCell (Nat.le_refl q) _).setCell (Nat.le_refl q) _).setCell (Nat.le_refl q) _).setCell (Nat.le_refl q) _).setCell (Nat.le_refl q) _).setCell (Nat.le_refl q) _), by simp [World.setCell], ⟨?_, ?_, ?_, ?_, ?_, ?_⟩, ?_, ?_, ?_, ?_, ?_, ?_⟩
  all_goals simp [go_sem, c0, c1, c2, c3, c4, c5, f0, f1, f2, f3, f4, f5]
theorem new_six (w : World) (T : TypeId) : ∃ W, w.alloc (.cells #[.int .i64 0, .int .i64 0, .int .i64 0, .int .i64 0, .int .i64 0, .int .i64 0] T) = W ∧ Below w.heap.size w W ∧ w.heap.size < W.heap.size ∧ Six W w.heap.size 0 0 0 0 0 0 := by
  refine ⟨_, rfl, by (repeat (first | exact Below.refl _ _ | assumption | refine Below.setCell ?_ (by first | (simp; done) | omega | (simp; omega) | (simp at *; omega)) _ | refine Below.drew ?_ | refine below_drewN ?_ _ | refine below_alloc' ?_ _ | refine below_to' ?_ (by assumption))), by simp, ⟨?_, ?_, ?_, ?_, ?_, ?_⟩, ?_, ?_, ?_, ?_, ?_, ?_⟩ <;> simp [go_sem]
/-- The world of the search: below q as it was; the best line's six cells at q. -/
def NI (w1 : World) (q : Nat) (b : Option Ln) (wr : World) : Prop := Below q w1 wr ∧ q < wr.heap.size ∧ Six wr q (oS b).1 (oS b).2 (oH b).1 (oH b).2 (oF b).1 (oF b).2
theorem NI.below {w1 wr w' : World} {q : Nat} {b : Option Ln} (h : NI w1 q b wr) (hb : Below wr.heap.size wr w') : NI w1 q b w' :=
  ⟨h.1.trans (hb.mono (by have := h.2.1; omega)), Nat.lt_of_lt_of_le h.2.1 hb.size, h.2.2.keep hb h.2.1⟩

set_option maxRecDepth 100000 in
set_option maxHeartbeats 16000000 in
theorem NearI_yes (u v : Value) (xs ys : List Int) (w : World) (hx : Rd w u xs) (hy : Rd w v ys) (hok : okCloud xs ys = true) :
    Calls Try.prog 28 #[u, v] w fun e w' => e = .returned (.tuple #[.agg #[.int .i64 (oS (bestP xs ys xs.length)).1, .int .i64 (oS (bestP xs ys xs.length)).2], .agg #[.int .i64 (oH (bestP xs ys xs.length)).1, .int .i64 (oH (bestP xs ys xs.length)).2], .agg #[.int .i64 (oF (bestP xs ys xs.length)).1, .int .i64 (oF (bestP xs ys xs.length)).2], .bool true]) ∧ Below w.heap.size w w' := by
  obtain ⟨⟨hl, l1, l2, ax, ay⟩, _⟩ := okCloud_all hok
  have K := hide fun w hx hy => ValidCloudI_c u v xs ys true w hx hy hok
  have HAX := hide fun k (hk : k < xs.length) => allB_at ax hk
  have HAY := hide fun k (hk : k < ys.length) => allB_at ay hk
  have HNB := hide fun i k (hi : i < xs.length) (hk : k < xs.length) (hne : atL xs i ≠ atL xs k) => (near_b ax ay hl hi hk hne)
  have HL := hide hl
  have HBX := hide ax
  have HBY := hide ay
  clear hok hl ax ay
  obtain ⟨A, c, rfl, hc, hm, _⟩ := id hx
  obtain ⟨A2, c2, rfl, hc2, hm2, _⟩ := id hy
  obtain ⟨W, hW, hbW, hWs, R0, R1, R2⟩ := new3 w 31
  have HRES := hide (And.intro R0 (And.intro R1 R2))
  have hxW := hx.below hbW
  have hyW := hy.below hbW
  clear R0 R1 R2
  go_enter Try.func28, Try.ntmps28
  go_wp2_with fail
  clear hW
  refine (K.out _ hxW hyW).mono ?_
  rintro e w1 ⟨rfl, hb1⟩
  obtain ⟨V, hV, hbV, hVs, V0⟩ := new_six w1 68
  have HNV := hide (show NI w1 w1.heap.size none V from ⟨hbV, hVs, V0⟩)
  clear V0
  go_wp2_with fail
  clear hV
  have hx1 := hxW.below hb1
  have hy1 := hyW.below hb1
  have F1 := hide fun (i k : Nat) (hi : i < xs.length) (hk : k < xs.length) (hne : atL xs i ≠ atL xs k) wz (hbz : Below w1.heap.size w1 wz) => slopeI_c (.slice A xs.length c) (.slice A2 ys.length c2) xs ys i k wz (hx1.below hbz) (hy1.below hbz) hi hk HL.out HBX.out HBY.out hne
  go_loopw [9, 25] (fun b i wr => ∃ k : Nat, k ≤ xs.length ∧ i = .int .i64 k ∧ b = .bool (bestP xs ys k).isSome ∧ Hid (NI w1 w1.heap.size (bestP xs ys k) wr) ∧ Hid (SmO (bestP xs ys k))) (fun _ i _ => xs.length - (intOf i).toNat)
  case atStart => exact ⟨0, by omega, rfl, rfl, HNV.out, SmO.none⟩
  case round =>
    obtain ⟨i, hi, rfl, rfl, hnw, hsm⟩ := hrel
    by_cases hlt : i < xs.length
    · have HROW : Hid (bestP xs ys (i + 1) = rowP xs ys i (bestP xs ys i) (xs.length - (i + 1))) := rfl
      obtain ⟨bi, hbi⟩ : ∃ b, bestP xs ys i = b := ⟨_, rfl⟩
      rw [hbi] at HROW hnw hsm ⊢
      clear hbi
      go_wp2_with fail
      go_loopw [9, 11] (fun b k wr => ∃ d : Nat, i + 1 + d ≤ xs.length ∧ k = .int .i64 ((i : Int) + 1 + d) ∧ b = .bool (rowP xs ys i bi d).isSome ∧ Hid (NI w1 w1.heap.size (rowP xs ys i bi d) wr) ∧ Hid (SmO (rowP xs ys i bi d))) (fun _ k _ => xs.length - (intOf k).toNat)
      case atStart => exact ⟨0, by omega, by simp, rfl, hnw, hsm⟩
      case round =>
        rename World => wq
        obtain ⟨d, hd, rfl, rfl, hnw, hsm⟩ := hrel
        by_cases hdl : i + 1 + d < xs.length
        · have hbq := hnw.out.1
          have hszq := hnw.out.2.1
          obtain ⟨g, off, rfl, hg, hcl⟩ := hx1.at (by omega)
          obtain ⟨g2, off2, rfl, hg2, hcl2⟩ := hy1.at (by have := HL.out; omega)
          have x1 := (hbq.cell (p := ⟨g, off + i, none⟩) hg).trans (hcl i hlt)
          have x2 := (hbq.cell (p := ⟨g, off + (i + 1 + d), none⟩) hg).trans (hcl (i + 1 + d) hdl)
          have y1 := (hbq.cell (p := ⟨g2, off2 + i, none⟩) hg2).trans (hcl2 i (by have := HL.out; omega))
          have y2 := (hbq.cell (p := ⟨g2, off2 + (i + 1 + d), none⟩) hg2).trans (hcl2 (i + 1 + d) (by have := HL.out; omega))
          have HCL := hide hcl
          have HCL2 := hide hcl2
          have j0 : (0 : Int) ≤ (i : Int) + 1 + d := by omega
          have j1 : (i : Int) + 1 + d < (xs.length : Int) := by omega
          have j2 : (i : Int) + 1 + d < (ys.length : Int) := by have := HL.out; omega
          have j3 : (i : Int) < (xs.length : Int) := by omega
          have j4 : (i : Int) < (ys.length : Int) := by have := HL.out; omega
          have jt : ((i : Int) + 1 + d).toNat = i + 1 + d := by omega
          have HSTEP : Hid (rowP xs ys i bi (d + 1) = if atL xs i = atL xs (i + 1 + d) then rowP xs ys i bi d else betterP (rowP xs ys i bi d) (lineP xs ys i (i + 1 + d))) := rfl
          have hgq : g < wq.heap.size := by omega
          have hg2q : g2 < wq.heap.size := by omega
          clear hcl hcl2
          by_cases heq : atL xs i = atL xs (i + 1 + d)
          · have HST : Hid (rowP xs ys i bi (d + 1) = rowP xs ys i bi d) := by show _ = _; rw [HSTEP.out, if_pos heq]
            have heb : (atL xs i == atL xs (i + 1 + d)) = true := by simp [heq]
            obtain ⟨p, hp⟩ : ∃ x, atL xs i = x := ⟨_, rfl⟩
            obtain ⟨q, hq⟩ : ∃ x, atL xs (i + 1 + d) = x := ⟨_, rfl⟩
            rw [hp] at x1 heb
            rw [hq] at x2 heb
            clear heq hp hq HSTEP y1 y2
            go_wp2_with fail
            go_quiet (fail)
            go_wp2_with fail
            go_roundw
            case rel => exact ⟨d + 1, by omega, by go_num, by rw [HST.out], by rw [HST.out]; exact (hnw.out.below (below_drewN (Below.refl _ _) _)), by rw [HST.out]; exact hsm⟩
            case measure => simp [intOf]; omega
          · have heb : (atL xs i == atL xs (i + 1 + d)) = false := by simp [heq]
            have HST : Hid (rowP xs ys i bi (d + 1) = betterP (rowP xs ys i bi d) (lineP xs ys i (i + 1 + d))) := by show _ = _; rw [HSTEP.out, if_neg heq]
            obtain ⟨D, hD⟩ := HNB.out i (i + 1 + d) hlt hdl heq
            obtain ⟨sS, sH, sJ, sF⟩ := hD.sm l2
            have bi1 := HAX.out i hlt
            have bi2 := HAX.out (i + 1 + d) hdl
            have bi3 := HAY.out i (by have := HL.out; omega)
            have bi4 := HAY.out (i + 1 + d) (by have := HL.out; omega)
            have e0 : ((i + 1 + d : Nat) : Int) = (i : Int) + 1 + d := by omega
            have F1 : Hid (∀ wz, Below w1.heap.size w1 wz → Calls Try.prog 73 #[.slice (some ⟨g, off, none⟩) xs.length c, .slice (some ⟨g2, off2, none⟩) ys.length c2, .int .i64 i, .int .i64 ((i : Int) + 1 + d)] wz fun e w' => e = .returned (.agg #[.int .i64 (slP xs ys i (i + 1 + d)).num, .int .i64 ((slP xs ys i (i + 1 + d)).den : Int)]) ∧ Below wz.heap.size wz w') := fun wz hbz => by
              have := F1.out i (i + 1 + d) hlt hdl heq wz hbz
              rw [e0] at this
              have es : slP xs ys i (i + 1 + d) = qf (atL ys i - atL ys (i + 1 + d)) (atL xs i - atL xs (i + 1 + d)) := rfl
              rw [es]
              exact this
            have HLINE : Hid (lineP xs ys i (i + 1 + d) = ⟨slP xs ys i (i + 1 + d), hgP xs ys i (slP xs ys i (i + 1 + d)), farTo xs ys (slP xs ys i (i + 1 + d)) (hgP xs ys i (slP xs ys i (i + 1 + d))) xs.length⟩) := rfl
            have HHG : Hid (hgP xs ys i (slP xs ys i (i + 1 + d)) = (atL ys i : Rat) - slP xs ys i (i + 1 + d) * (atL xs i : Rat)) := rfl
            obtain ⟨S, hS⟩ : ∃ S, slP xs ys i (i + 1 + d) = S := ⟨_, rfl⟩
            rw [hS] at F1 HLINE sS sH sJ sF HHG
            obtain ⟨H, hH⟩ : ∃ H, hgP xs ys i S = H := ⟨_, rfl⟩
            rw [hH] at HLINE sH sJ sF HHG
            obtain ⟨z0, hz0⟩ : ∃ z : Rat, z = 0 := ⟨_, rfl⟩
            have F2 : Hid (∀ w, Calls Try.prog 61 #[.int .i64 0] w fun e w' => e = .returned (.agg #[.int .i64 (z0).num, .int .i64 ((z0).den : Int)]) ∧ Below w.heap.size w w') := fun w => by
              have := whole_c 0 w
              have e : ((0 : Int) : Rat) = 0 := rfl
              rw [e] at this
              rw [hz0]
              exact this
            obtain ⟨X, hX⟩ : ∃ X, (atL xs i : Rat) = X := ⟨_, rfl⟩
            obtain ⟨Y, hY⟩ : ∃ Y, (atL ys i : Rat) = Y := ⟨_, rfl⟩
            have sX : Sm X := by rw [← hX]; exact sm_int (by omega)
            have sY : Sm Y := by rw [← hY]; exact sm_int (by omega)
            have G1 : Hid (∀ w, Calls Try.prog 61 #[.int .i64 (atL xs i)] w fun e w' => e = .returned (.agg #[.int .i64 (X).num, .int .i64 ((X).den : Int)]) ∧ Below w.heap.size w w') := fun w => by rw [← hX]; exact whole_c _ w
            have G2 : Hid (∀ w, Calls Try.prog 61 #[.int .i64 (atL ys i)] w fun e w' => e = .returned (.agg #[.int .i64 (Y).num, .int .i64 ((Y).den : Int)]) ∧ Below w.heap.size w w') := fun w => by rw [← hY]; exact whole_c _ w
            rw [hX, hY] at HHG
            obtain ⟨Q, hQ⟩ : ∃ Q, S * X = Q := ⟨_, rfl⟩
            have sQ : Sm Q := by rw [← hQ, ← hX]; exact (sJ i hlt).1
            have G3 : Hid (∀ w, Calls Try.prog 63 #[.agg #[.int .i64 (S).num, .int .i64 ((S).den : Int)], .agg #[.int .i64 (X).num, .int .i64 ((X).den : Int)]] w fun e w' => e = .returned (.agg #[.int .i64 (Q).num, .int .i64 ((Q).den : Int)]) ∧ Below w.heap.size w w') := fun w => by rw [← hQ]; exact timesI_c S X w sS sX
            have G4 : Hid (∀ w, Calls Try.prog 74 #[.agg #[.int .i64 (Y).num, .int .i64 ((Y).den : Int)], .agg #[.int .i64 (Q).num, .int .i64 ((Q).den : Int)]] w fun e w' => e = .returned (.agg #[.int .i64 (H).num, .int .i64 ((H).den : Int)]) ∧ Below w.heap.size w w') := fun w => by
              have := minusI_c Y Q w sY sQ
              rw [← hQ, ← HHG.out, hQ] at this
              exact this
            have F4 := hide fun (j : Nat) (hj : j < xs.length) => sJ j hj
            have F6 : Hid (∀ (j : Nat) (hj : j < xs.length) w, Calls Try.prog 64 #[.agg #[.int .i64 (farTo xs ys S H j).num, .int .i64 ((farTo xs ys S H j).den : Int)], .agg #[.int .i64 (offP xs ys S H j).num, .int .i64 ((offP xs ys S H j).den : Int)]] w fun e w' => e = .returned (.agg #[.int .i64 (farTo xs ys S H (j + 1)).num, .int .i64 ((farTo xs ys S H (j + 1)).den : Int)]) ∧ Below w.heap.size w w') := fun j hj w => plusI_c _ _ w (sF j (by omega)) (sJ j hj).2.2.2
            have HSF := hide (sF xs.length (Nat.le_refl _))
            have HZ0 := hide hz0
            have HSS := hide (And.intro sS sH)
            obtain ⟨p, hp⟩ : ∃ x, atL xs i = x := ⟨_, rfl⟩
            obtain ⟨q, hq⟩ : ∃ x, atL xs (i + 1 + d) = x := ⟨_, rfl⟩
            obtain ⟨r, hr⟩ : ∃ x, atL ys i = x := ⟨_, rfl⟩
            rw [hp] at x1 heb G1
            rw [hq] at x2 heb
            rw [hr] at y1 G2
            clear heq hp hq hr HSTEP hS hH hz0 sS sH sJ sF bi1 bi2 bi3 bi4 hD HHG hX hY hQ sX sY sQ y2 e0
            go_wp2_with fail
            go_quiet (fail)
            obtain ⟨U, hU⟩ : ∃ U, wq.drewN nq = U := ⟨_, rfl⟩
            have hbU : Below wq.heap.size wq U := by rw [← hU]; exact below_drewN (Below.refl _ _) _
            have hUs : U.heap.size = wq.heap.size := by rw [← hU]; rfl
            have u1 : U.cell? ⟨g, off + i, none⟩ = some (.int .i64 p) := by rw [← hU]; exact x1
            have u3 : U.cell? ⟨g2, off2 + i, none⟩ = some (.int .i64 r) := by rw [← hU]; exact y1
            clear x1 x2 y1
            rw [hU]
            clear hU
            go_wp2_with fail
            refine (F1.out _ (hbq.trans (hbU.mono hbq.size))).mono ?_
            rintro e w3 ⟨rfl, hb3⟩
            obtain ⟨Z1, hZ1, hbZ1, hsZ1, hPZ1⟩ : ∃ Z1, w3.alloc (.cells #[.int .i64 S.num, .int .i64 (S.den : Int)] 31) = Z1 ∧ Below U.heap.size U Z1 ∧ w3.heap.size < Z1.heap.size ∧ Pr Z1 w3.heap.size S.num (S.den : Int) := by
              refine ⟨_, rfl, below_alloc' hb3 _, by simp, ⟨?_, ?_⟩, ?_, ?_⟩ <;> simp [go_sem]
            have hs3 := hb3.size
            obtain ⟨⟨z1, z2⟩, z3, z4⟩ := id hPZ1
            have m1 : Z1.cell? ⟨g, off + i, none⟩ = some (.int .i64 p) := (hbZ1.cell (by simp; omega)).trans u1
            have m3 : Z1.cell? ⟨g2, off2 + i, none⟩ = some (.int .i64 r) := (hbZ1.cell (by simp; omega)).trans u3
            clear u1 u3
            go_wp2_with fail
            clear hZ1 hPZ1
            obtain ⟨pa, hpa⟩ : ∃ x, w3.heap.size = x := ⟨_, rfl⟩
            rw [hpa] at hs3 hsZ1 z1 z2 z3 z4
            rw [hpa]
            clear hpa
            refine wp_region_free_ex 13 13 (.cells #[.int .i64 0, .int .i64 0] 31) (by kernel_rfl) (by kernel_rfl) (by kernel_rfl) (fun oa hoa => by cases hoa; exact ⟨rfl, fun ρ w => by simp [execOp, go_sem]⟩) ?_
            apply Exists.intro
            refine ⟨fun z hz => ?_, ?_⟩
            · have k1 := cell_grn hz (by omega) m1
              have k3 := cell_grn hz (by omega) m3
              have k5 := cell_grn hz hsZ1 z1
              have k6 := cell_grn hz hsZ1 z2
              simp only [List.take_succ_cons, List.take_zero]
              repeat (go_big_quiet_step ((first | (go_at_call 61; with_reducible exact calls_grn G1.out) | (go_at_call 61; with_reducible exact calls_grn G2.out) | (go_at_call 63; with_reducible exact calls_grn G3.out) | (go_at_call 74; with_reducible exact calls_grn G4.out))))
              exact wpQuiet_nil rfl
            intro pb w4 hb4 hpb hob
            obtain ⟨⟨q1, q2, q3, q4⟩, Z2, hZ2, hbZ2, zz1, zz2, zs2⟩ := put_pair (x := .int .i64 H.num) (y := .int .i64 (H.den : Int)) hb4 hpb hob
            have hsZ2 := hbZ2.size
            have z1 := (hbZ2.cell (p := ⟨pa, 0, none⟩) hsZ1).trans z1
            have z2 := (hbZ2.cell (p := ⟨pa, 1, none⟩) hsZ1).trans z2
            have hbq2 : Below wq.heap.size wq Z2 := hbU.trans ((hbZ1.trans (hbZ2.mono hbZ1.size)).mono (by omega))
            clear m1 m3
            simp only [List.drop_succ_cons, List.drop_zero, Act.put]
            go_wp2_with fail
            clear hZ2 q1 q2 q3 q4
            refine (F2.out _).mono ?_
            rintro e w5 ⟨rfl, hb5⟩
            obtain ⟨V5, hV5, hbV5, hsV5, hPV5⟩ : ∃ V5, w5.alloc (.cells #[.int .i64 z0.num, .int .i64 (z0.den : Int)] 31) = V5 ∧ Below Z2.heap.size Z2 V5 ∧ w5.heap.size < V5.heap.size ∧ Pr V5 w5.heap.size z0.num (z0.den : Int) := by
              refine ⟨_, rfl, below_alloc' hb5 _, by simp, ⟨?_, ?_⟩, ?_, ?_⟩ <;> simp [go_sem]
            have hs5 := hb5.size
            have hFZ : Hid (farTo xs ys S H 0 = z0) := by show _ = _; rw [HZ0.out]; rfl
            have HPV5 := hide hPV5
            go_wp2_with fail
            clear hV5 hPV5
            have hb1V : Below w1.heap.size w1 V5 := hbq.trans ((hbq2.trans (hbV5.mono hbq2.size)).mono hbq.size)
            have hbqV : Below wq.heap.size wq V5 := hbq2.trans (hbV5.mono hbq2.size)
            have hpaz : pa < w5.heap.size := by omega
            have hpbz : pb < w5.heap.size := by omega
            have hq5 : wq.heap.size ≤ w5.heap.size := by have := hbq2.size; omega
            have h15 : w1.heap.size ≤ w5.heap.size := by have := hbq.size; omega
            have A1 : Hid (V5.cell? ⟨pa, 0, none⟩ = some (.int .i64 S.num) ∧ V5.cell? ⟨pa, 1, none⟩ = some (.int .i64 (S.den : Int)) ∧ V5.cell? ⟨pb, 0, none⟩ = some (.int .i64 H.num) ∧ V5.cell? ⟨pb, 1, none⟩ = some (.int .i64 (H.den : Int))) :=
              ⟨(hbV5.cell (p := ⟨pa, 0, none⟩) (by simp; omega)).trans z1, (hbV5.cell (p := ⟨pa, 1, none⟩) (by simp; omega)).trans z2, (hbV5.cell (p := ⟨pb, 0, none⟩) (by simp; omega)).trans zz1, (hbV5.cell (p := ⟨pb, 1, none⟩) (by simp; omega)).trans zz2⟩
            have hpbq : wq.heap.size ≤ pb := by omega
            clear z1 z2 zz1 zz2 zs2 hpb hob hb3 hb4 hbZ1 hbZ2
            obtain ⟨ps, hps⟩ : ∃ p, w5.heap.size = p := ⟨_, rfl⟩
            rw [hps] at hsV5 HPV5 hpaz hpbz hq5 h15
            rw [hps]
            clear hps hs5 hsZ2
            go_loopw [66] (fun j wz => ∃ k : Nat, k ≤ xs.length ∧ j = .int .i64 k ∧ Hid (Below ps V5 wz ∧ ps < wz.heap.size ∧ Pr wz ps (farTo xs ys S H k).num ((farTo xs ys S H k).den : Int))) (fun j _ => xs.length - (intOf j).toNat)
            case atStart => exact ⟨0, by omega, rfl, ⟨Below.refl _ _, hsV5, by rw [hFZ.out]; exact HPV5.out⟩⟩
            case round =>
              rename World => wz
              obtain ⟨k, hk, rfl, hrl⟩ := hrel
              have hbz := hrl.out.1
              have hpz := hrl.out.2.1
              obtain ⟨⟨a1, a2⟩, a3, a4⟩ := hrl.out.2.2
              have d1 := (hbz.cell (p := ⟨pa, 0, none⟩) hpaz).trans A1.out.1
              have d2 := (hbz.cell (p := ⟨pa, 1, none⟩) hpaz).trans A1.out.2.1
              have d3 := (hbz.cell (p := ⟨pb, 0, none⟩) hpbz).trans A1.out.2.2.1
              have d4 := (hbz.cell (p := ⟨pb, 1, none⟩) hpbz).trans A1.out.2.2.2
              by_cases hkl : k < xs.length
              · have hb1z : Below w1.heap.size w1 wz := hb1V.trans (hbz.mono h15)
                have c1 := (hb1z.cell (p := ⟨g, off + k, none⟩) hg).trans (HCL.out k hkl)
                have c3 := (hb1z.cell (p := ⟨g2, off2 + k, none⟩) hg2).trans (HCL2.out k (by have := HL.out; omega))
                have ik : (k : Int) < (xs.length : Int) := by omega
                have ik2 : (k : Int) < (ys.length : Int) := by have := HL.out; omega
                have s1z := hb1z.size
                have bx := HAX.out k hkl
                have byy := HAY.out k (by have := HL.out; omega)
                have G6 := hide (F6.out k hkl)
                obtain ⟨X, hX⟩ : ∃ X, (atL xs k : Rat) = X := ⟨_, rfl⟩
                obtain ⟨Y, hY⟩ : ∃ Y, (atL ys k : Rat) = Y := ⟨_, rfl⟩
                have sX : Sm X := by rw [← hX]; exact sm_int (by omega)
                have sY : Sm Y := by rw [← hY]; exact sm_int (by omega)
                have G1 : Hid (∀ w, Calls Try.prog 61 #[.int .i64 (atL xs k)] w fun e w' => e = .returned (.agg #[.int .i64 (X).num, .int .i64 ((X).den : Int)]) ∧ Below w.heap.size w w') := fun w => by rw [← hX]; exact whole_c _ w
                have G2 : Hid (∀ w, Calls Try.prog 61 #[.int .i64 (atL ys k)] w fun e w' => e = .returned (.agg #[.int .i64 (Y).num, .int .i64 ((Y).den : Int)]) ∧ Below w.heap.size w w') := fun w => by rw [← hY]; exact whole_c _ w
                obtain ⟨t1, t2, t3, t4⟩ := F4.out k hkl
                rw [hX] at t1 t2 t3
                rw [hY] at t3
                have G3 := hide fun w => timesI_c S X w HSS.out.1 sX
                have G4 := hide fun w => plusI_c (S * X) H w t1 HSS.out.2
                have G5 := hide fun w => minusI_c Y (S * X + H) w sY t2
                have e1 : offP xs ys S H k = szR (Y - (S * X + H)) := by unfold offP; rw [hX, hY]
                rw [e1] at G6
                have G7 := hide fun w => sizeI_c (Y - (S * X + H)) w (by have := t3.1; omega)
                obtain ⟨f1, hf1⟩ : ∃ f, farTo xs ys S H (k + 1) = f := ⟨_, rfl⟩
                obtain ⟨f0, hf0⟩ : ∃ f, farTo xs ys S H k = f := ⟨_, rfl⟩
                obtain ⟨r4, hr4⟩ : ∃ f, szR (Y - (S * X + H)) = f := ⟨_, rfl⟩
                obtain ⟨r3, hr3⟩ : ∃ f, Y - (S * X + H) = f := ⟨_, rfl⟩
                obtain ⟨r2, hr2⟩ : ∃ f, S * X + H = f := ⟨_, rfl⟩
                obtain ⟨r1, hr1⟩ : ∃ f, S * X = f := ⟨_, rfl⟩
                rw [hr1] at G3 G4 G5 G7 hr2 hr3 hr4
                rw [hr2] at G4 G5 G7 hr3 hr4
                rw [hr3] at G5 G7 hr4
                rw [hr4] at G7
                rw [hr1, hr2, hr3, hr4] at G6
                rw [hf0] at G6 a1 a2
                rw [hf1] at G6
                have HF1 := hide hf1
                obtain ⟨x, hxe⟩ : ∃ x, atL xs k = x := ⟨_, rfl⟩
                obtain ⟨y, hye⟩ : ∃ x, atL ys k = x := ⟨_, rfl⟩
                rw [hxe] at c1 G1
                rw [hye] at c3 G2
                have k1 := cell_grn (Below.refl wz.heap.size wz) (by omega) c1
                have k3 := cell_grn (Below.refl wz.heap.size wz) (by omega) c3
                have k5 := cell_grn (Below.refl wz.heap.size wz) (by omega) d1
                have k6 := cell_grn (Below.refl wz.heap.size wz) (by omega) d2
                have k7 := cell_grn (Below.refl wz.heap.size wz) (by omega) d3
                have k8 := cell_grn (Below.refl wz.heap.size wz) (by omega) d4
                have k9 := cell_grn (Below.refl wz.heap.size wz) hpz a1
                have k10 := cell_grn (Below.refl wz.heap.size wz) hpz a2
                have HPR : Hid (Pr wz ps f0.num (f0.den : Int)) := ⟨⟨a1, a2⟩, a3, a4⟩
                clear hf1 hf0 hr1 hr2 hr3 hr4 e1 t1 t2 t3 t4 sX sY hX hY bx byy hxe hye c1 c3 d1 d2 d3 d4 a1 a2 a3 a4
                go_wp2_with fail
                refine wp_region_below_tail 18 (by kernel_rfl) (by kernel_rfl) ?_
                simp only [List.take_succ_cons, List.take_zero, List.drop_succ_cons, List.drop_zero]
                repeat (go_big_quiet_step ((first | (go_at_call 61; with_reducible exact calls_grn G1.out) | (go_at_call 61; with_reducible exact calls_grn G2.out) | (go_at_call 63; with_reducible exact calls_grn G3.out) | (go_at_call 64; with_reducible exact calls_grn G4.out) | (go_at_call 64; with_reducible exact calls_grn G6.out) | (go_at_call 74; with_reducible exact calls_grn G5.out) | (go_at_call 75; with_reducible exact calls_grn G7.out))))
                refine wpQuiet_nil ?_
                intro w6 hb6
                have hpr6 := HPR.out.keep hb6 hpz
                obtain ⟨⟨a1, a2⟩, a3, a4⟩ := hpr6
                obtain ⟨Z6, hZ6, hbZ6, hpZ6, hsZ6, _⟩ := set_pair (x := .int .i64 f1.num) (y := .int .i64 (f1.den : Int)) (Nat.le_refl ps) a1 a2 a3 a4
                have HPZ : Hid (Pr Z6 ps f1.num (f1.den : Int)) := ⟨⟨hpZ6.1, hpZ6.2.1⟩, hpZ6.2.2.1, hpZ6.2.2.2⟩
                have hb6s := hb6.size
                clear hpZ6 k1 k3 k5 k6 k7 k8 k9 k10
                go_wp2_with fail
                clear hZ6 a1 a2 a3 a4
                go_roundw
                case rel => exact ⟨k + 1, by omega, by go_num, ⟨hbz.trans ((hb6.mono (by omega)).trans hbZ6), by omega, by rw [HF1.out]; exact HPZ.out⟩⟩
                case measure => simp [intOf]; omega
              · obtain rfl : k = xs.length := by omega
                have hbqz : Below wq.heap.size wq wz := hbqV.trans (hbz.mono hq5)
                have hNz := hnw.out.below hbqz
                have hqb : w1.heap.size < pb := by have := hnw.out.2.1; omega
                have hqs : w1.heap.size < ps := by omega
                have hnl : ¬ (xs.length : Int) < (xs.length : Int) := by omega
                obtain ⟨f, hf⟩ : ∃ f, farTo xs ys S H xs.length = f := ⟨_, rfl⟩
                rw [hf] at a1 a2 HLINE HSF
                obtain ⟨b, hb⟩ : ∃ b, rowP xs ys i bi d = b := ⟨_, rfl⟩
                rw [hb] at hNz hsm HST ⊢
                rw [HLINE.out] at HST
                have hSO := hide (SmO.better hsm.out HSF.out (b := b) (l := ⟨S, H, f⟩))
                obtain ⟨⟨n1, n2, n3, n4, n5, n6⟩, n7, n8, n9, n10, n11, n12⟩ := hNz.2.2
                obtain ⟨Z9, hZ9, hbZ9, hsZ9, h6⟩ := set_six hNz.2.2 S.num (S.den : Int) H.num (H.den : Int) f.num (f.den : Int)
                have HN9 : Hid (NI w1 w1.heap.size (some ⟨S, H, f⟩) Z9) := ⟨hNz.1.trans hbZ9, by have := hNz.2.1; omega, h6⟩
                have HNZ := hide hNz
                have hqz := hNz.2.1
                clear hf hb hNz h6 hbZ9 hsZ9 a3 a4
                cases b with
                | none =>
                  rw [show (none : Option Ln).isSome = false from rfl]
                  have HNEW : Hid (rowP xs ys i bi (d + 1) = some ⟨S, H, f⟩) := HST.out
                  go_wp2_with fail
                  clear hZ9
                  go_roundw
                  case rel => exact ⟨d + 1, by omega, by go_num, by rw [HNEW.out]; rfl, by rw [HNEW.out]; exact HN9.out, by rw [HNEW.out]; exact hSO.out⟩
                  case measure => simp [intOf]; omega
                | some l =>
                  rw [show (some l : Option Ln).isSome = true from rfl]
                  obtain ⟨ls, lh, lf⟩ := l
                  have hsl : Sm lf := hsm.out _ rfl
                  replace n5 : wz.cell? ⟨w1.heap.size, 4, none⟩ = some (.int .i64 lf.num) := n5
                  replace n6 : wz.cell? ⟨w1.heap.size, 5, none⟩ = some (.int .i64 (lf.den : Int)) := n6
                  have F7 := hide fun w => lessI_c f lf w HSF.out hsl
                  obtain ⟨dn, hdn⟩ : ∃ x, lf.num = x := ⟨_, rfl⟩
                  obtain ⟨dd, hdd⟩ : ∃ x, (lf.den : Int) = x := ⟨_, rfl⟩
                  rw [hdn] at n5 F7
                  rw [hdd] at n6 F7
                  clear hdn hdd
                  by_cases hfl : f < lf
                  · have hfd : decide (f < lf) = true := decide_eq_true hfl
                    rw [hfd] at F7
                    have HNEW : Hid (rowP xs ys i bi (d + 1) = some ⟨S, H, f⟩) := by show _ = _; rw [HST.out]; simp [betterP, hfl]
                    have hSO' : Hid (SmO (some ⟨S, H, f⟩)) := by have := hSO.out; simp only [betterP, hfl, if_true] at this; exact this
                    clear hfl hfd hsl
                    clear n1 n2 n3 n4 n7 n8 n9 n10 n11 n12 hZ9 HN9
                    go_wp2_with fail
                    refine (F7.out _).mono ?_
                    rintro e w7 ⟨rfl, hb7⟩
                    have hN7 := HNZ.out.below hb7
                    obtain ⟨⟨n1, n2, n3, n4, n5, n6⟩, n7, n8, n9, n10, n11, n12⟩ := hN7.2.2
                    obtain ⟨Z9, hZ9, hbZ9, hsZ9, h6⟩ := set_six hN7.2.2 S.num (S.den : Int) H.num (H.den : Int) f.num (f.den : Int)
                    have HN9 : Hid (NI w1 w1.heap.size (some ⟨S, H, f⟩) Z9) := ⟨hN7.1.trans hbZ9, by have := hN7.2.1; omega, h6⟩
                    have d1 := (hb7.cell (p := ⟨pa, 0, none⟩) (by simp; omega)).trans d1
                    have d2 := (hb7.cell (p := ⟨pa, 1, none⟩) (by simp; omega)).trans d2
                    have d3 := (hb7.cell (p := ⟨pb, 0, none⟩) (by simp; omega)).trans d3
                    have d4 := (hb7.cell (p := ⟨pb, 1, none⟩) (by simp; omega)).trans d4
                    have a1 := (hb7.cell (p := ⟨ps, 0, none⟩) hpz).trans a1
                    have a2 := (hb7.cell (p := ⟨ps, 1, none⟩) hpz).trans a2
                    have hqz7 := hN7.2.1
                    clear hN7 h6 hbZ9 hsZ9
                    go_wp2_with fail
                    clear hZ9
                    go_roundw
                    case rel => exact ⟨d + 1, by omega, by go_num, by rw [HNEW.out]; rfl, by rw [HNEW.out]; exact HN9.out, by rw [HNEW.out]; exact hSO'.out⟩
                    case measure => simp [intOf]; omega
                  · have hfd : decide (f < lf) = false := decide_eq_false hfl
                    rw [hfd] at F7
                    have HNEW : Hid (rowP xs ys i bi (d + 1) = some ⟨ls, lh, lf⟩) := by show _ = _; rw [HST.out]; simp [betterP, hfl]
                    clear hfl hfd hsl
                    clear n1 n2 n3 n4 n7 n8 n9 n10 n11 n12 hZ9 HN9
                    go_wp2_with fail
                    refine (F7.out _).mono ?_
                    rintro e w7 ⟨rfl, hb7⟩
                    have hN7 := hide (HNZ.out.below hb7)
                    go_wp2_with fail
                    go_roundw
                    case rel => exact ⟨d + 1, by omega, by go_num, by rw [HNEW.out]; rfl, by rw [HNEW.out]; exact hN7.out, by rw [HNEW.out]; exact hsm.out⟩
                    case measure => simp [intOf]; omega
        · have hde : d = xs.length - (i + 1) := by omega
          have hnl : ¬ (i : Int) + 1 + d < (xs.length : Int) := by omega
          have HNEW : Hid (bestP xs ys (i + 1) = rowP xs ys i bi d) := by show _ = _; rw [HROW.out, hde]
          clear hde
          go_wp2_with fail
          go_roundw
          case rel => exact ⟨i + 1, by omega, by go_num, by rw [HNEW.out], by rw [HNEW.out]; exact hnw.out, by rw [HNEW.out]; exact hsm.out⟩
          case measure => simp [intOf]; omega
    · obtain rfl : i = xs.length := by omega
      have hnl : ¬ (xs.length : Int) < (xs.length : Int) := by omega
      have hN := hnw.out
      have hbWr : Below W.heap.size W wr := hb1.trans (hN.1.mono hb1.size)
      have hWw1 := hb1.size
      obtain ⟨⟨r1, r2⟩, r3, r4⟩ := HRES.out.1.keep hbWr (by omega)
      obtain ⟨⟨r5, r6⟩, r7, r8⟩ := HRES.out.2.1.keep hbWr (by omega)
      obtain ⟨⟨r9, r10⟩, r11, r12⟩ := HRES.out.2.2.keep hbWr (by omega)
      obtain ⟨b, hb⟩ : ∃ b, bestP xs ys xs.length = b := ⟨_, rfl⟩
      rw [hb] at hN
      have HB := hide hb
      obtain ⟨⟨k1, k2, k3, k4, k5, k6⟩, _⟩ := hN.2.2
      obtain ⟨o1, ho1⟩ : ∃ o, oS b = o := ⟨_, rfl⟩
      obtain ⟨o2, ho2⟩ : ∃ o, oH b = o := ⟨_, rfl⟩
      obtain ⟨o3, ho3⟩ : ∃ o, oF b = o := ⟨_, rfl⟩
      rw [ho1] at k1 k2
      rw [ho2] at k3 k4
      rw [ho3] at k5 k6
      have HO := hide (And.intro ho1 (And.intro ho2 ho3))
      obtain ⟨s1, s2⟩ := o1
      obtain ⟨h1, h2⟩ := o2
      obtain ⟨f1, f2⟩ := o3
      replace k1 : wr.cell? ⟨w1.heap.size, 0, none⟩ = some (.int .i64 s1) := k1
      replace k2 : wr.cell? ⟨w1.heap.size, 1, none⟩ = some (.int .i64 s2) := k2
      replace k3 : wr.cell? ⟨w1.heap.size, 2, none⟩ = some (.int .i64 h1) := k3
      replace k4 : wr.cell? ⟨w1.heap.size, 3, none⟩ = some (.int .i64 h2) := k4
      replace k5 : wr.cell? ⟨w1.heap.size, 4, none⟩ = some (.int .i64 f1) := k5
      replace k6 : wr.cell? ⟨w1.heap.size, 5, none⟩ = some (.int .i64 f2) := k6
      have hbw := hbW.trans (hbWr.mono hbW.size)
      have hsz : w.heap.size + 1 + 1 < wr.heap.size := by have := hbWr.size; omega
      have hsz1 : w.heap.size + 1 < wr.heap.size := by omega
      have hsz0 : w.heap.size < wr.heap.size := by omega
      go_wp2_with fail
      clear K HAX HAY HNB HL hx1 hy1 hx hy hxW hyW HNV hnw hsm HRES hbWr hbV hVs hb1 hbW hN hb ho1 ho2 ho3 F1 HBX HBY
      obtain ⟨q0, hq0⟩ : ∃ p, w1.heap.size = p := ⟨_, rfl⟩
      obtain ⟨p0, hp0⟩ : ∃ p, w.heap.size = p := ⟨_, rfl⟩
      obtain ⟨p1, hp1⟩ : ∃ p, p0 + 1 = p := ⟨_, rfl⟩
      obtain ⟨p2, hp2⟩ : ∃ p, p1 + 1 = p := ⟨_, rfl⟩
      have n1 : ¬ p0 = q0 := by omega
      have n4 : ¬ p1 = q0 := by omega
      have n7 : ¬ p2 = q0 := by omega
      have n10 : ¬ p0 = p1 := by omega
      have n11 : ¬ p0 = p2 := by omega
      have n12 : ¬ p1 = p2 := by omega
      have n13 : ¬ p1 = p0 := by omega
      have n14 : ¬ p2 = p0 := by omega
      have n15 : ¬ p2 = p1 := by omega
      rw [hq0, hp0, hp1, hp2]
      rw [hq0] at k1 k2 k3 k4 k5 k6
      rw [hp0] at r1 r2 r3 r4 r5 r6 r7 r8 r9 r10 r11 r12 hsz hsz0 hsz1 hbw
      rw [hp1] at r5 r6 r7 r8 r9 r10 r11 r12 hsz hsz1
      rw [hp2] at r9 r10 r11 r12 hsz
      have hB1 : p0 ≤ p1 := by omega
      have hB2 : p0 ≤ p2 := by omega
      clear hq0 hp1 hp2 hWs hWw1
      go_region
      go_wp2_with fail
      refine bodyPost_ret (v := .tuple #[.agg #[.int .i64 s1, .int .i64 s2], .agg #[.int .i64 h1, .int .i64 h2], .agg #[.int .i64 f1, .int .i64 f2], .bool true]) (by simp [results, Try.results28, go_sem, r1, r2, r5, r6, r9, r10, n10, n11, n12, n13, n14, n15]) rfl ⟨by rw [HB.out, HO.out.1, HO.out.2.1, HO.out.2.2], ?_⟩
      rw [hp0]
      exact ((((((hbw.setCell (Nat.le_refl p0) _).setCell (Nat.le_refl p0) _).setCell hB1 _).setCell hB1 _).setCell hB2 _).setCell hB2 _).drew
end Go.Proofs.Ytahogdcmnpidiaa
