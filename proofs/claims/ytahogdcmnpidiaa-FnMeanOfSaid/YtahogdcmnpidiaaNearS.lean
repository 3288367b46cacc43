/-
  The nearest line, in the reference.
-/
import Derived.Test.YtahogdcmnpidiaaNear
import Derived.Test.YtahogdcmnpidiaaPool
namespace Go.Proofs.Ytahogdcmnpidiaa
open Go.RowKit

/-- A store into a pair of cells that is there. -/
theorem set_pair {w : World} {B b : Nat} {x y u v : Value} (hB : B ≤ b) (q1 : w.cell? ⟨b, 0, none⟩ = some u) (q2 : w.cell? ⟨b, 1, none⟩ = some v) (f1 : w.frozen? ⟨b, 0, none⟩ = false) (f2 : w.frozen? ⟨b, 1, none⟩ = false) :
    ∃ Z, (w.setCell ⟨b, 0, none⟩ x).setCell ⟨b, 1, none⟩ y = Z ∧ Below B w Z ∧ (Z.cell? ⟨b, 0, none⟩ = some x ∧ Z.cell? ⟨b, 1, none⟩ = some y ∧ Z.frozen? ⟨b, 0, none⟩ = false ∧ Z.frozen? ⟨b, 1, none⟩ = false) ∧ Z.heap.size = w.heap.size ∧
      ∀ c o, c ≠ b → Z.cell? ⟨c, o, none⟩ = w.cell? ⟨c, o, none⟩ ∧ Z.frozen? ⟨c, o, none⟩ = w.frozen? ⟨c, o, none⟩ := by
  refine ⟨_, rfl, ((Below.refl _ _).setCell hB _).setCell hB _, ⟨?_, ?_, ?_, ?_⟩, by simp [World.setCell], fun c o hc => ⟨?_, ?_⟩⟩
  · rw [World.cell?_setCell_other _ _ _ _ (by simp)]
    exact World.cell?_setCell_same _ _ _ q1
  · exact World.cell?_setCell_same _ _ _ (by rw [World.cell?_setCell_other _ _ _ _ (by simp)]; exact q2)
  · rw [World.frozen?_setCell, World.frozen?_setCell]; exact f1
  · rw [World.frozen?_setCell, World.frozen?_setCell]; exact f2
  · rw [World.cell?_setCell_other _ _ _ _ (by simp [Ne.symm hc]), World.cell?_setCell_other _ _ _ _ (by simp [Ne.symm hc])]
  · rw [World.frozen?_setCell, World.frozen?_setCell]
/-- A pair of cells that holds two numbers, not frozen. -/
def Pr (w : World) (b : Nat) (x y : Int) : Prop := (w.cell? ⟨b, 0, none⟩ = some (.int .i64 x) ∧ w.cell? ⟨b, 1, none⟩ = some (.int .i64 y)) ∧ w.frozen? ⟨b, 0, none⟩ = false ∧ w.frozen? ⟨b, 1, none⟩ = false
theorem Pr.keep {w w' : World} {B b : Nat} {x y : Int} (h : Pr w b x y) (hb : Below B w w') (hB : b < B) : Pr w' b x y :=
  ⟨⟨(hb.cell (p := ⟨b, 0, none⟩) hB).trans h.1.1, (hb.cell (p := ⟨b, 1, none⟩) hB).trans h.1.2⟩, (hb.frozen (p := ⟨b, 0, none⟩) hB).trans h.2.1, (hb.frozen (p := ⟨b, 1, none⟩) hB).trans h.2.2⟩
theorem Pr.other {w Z : World} {b c : Nat} {x y : Int} (h : Pr w c x y) (hz : ∀ c o, c ≠ b → Z.cell? ⟨c, o, none⟩ = w.cell? ⟨c, o, none⟩ ∧ Z.frozen? ⟨c, o, none⟩ = w.frozen? ⟨c, o, none⟩) (hc : c ≠ b) : Pr Z c x y :=
  ⟨⟨(hz c 0 hc).1.trans h.1.1, (hz c 1 hc).1.trans h.1.2⟩, (hz c 0 hc).2.trans h.2.1, (hz c 1 hc).2.trans h.2.2⟩
/-- The cells of the best line so far: slope, height, distance; zeros where there is none. -/
def oS (b : Option Ln) : Int × Int := match b with | none => (0, 0) | some l => (l.s.num, (l.s.den : Int))
def oH (b : Option Ln) : Int × Int := match b with | none => (0, 0) | some l => (l.h.num, (l.h.den : Int))
def oF (b : Option Ln) : Int × Int := match b with | none => (0, 0) | some l => (l.f.num, (l.f.den : Int))
/-- The world of the search: below q as it was; three pairs from q on. -/
def NW (w1 : World) (q : Nat) (b : Option Ln) (wr : World) : Prop := Below q w1 wr ∧ q + 2 < wr.heap.size ∧ Pr wr q (oS b).1 (oS b).2 ∧ Pr wr (q + 1) (oH b).1 (oH b).2 ∧ Pr wr (q + 2) (oF b).1 (oF b).2
theorem NW.below {w1 wr w' : World} {q : Nat} {b : Option Ln} (h : NW w1 q b wr) (hb : Below wr.heap.size wr w') : NW w1 q b w' :=
  ⟨h.1.trans (hb.mono (by have := h.2.1; omega)), Nat.lt_of_lt_of_le h.2.1 hb.size, h.2.2.1.keep hb (by have := h.2.1; omega), h.2.2.2.1.keep hb (by have := h.2.1; omega), h.2.2.2.2.keep hb h.2.1⟩
/-- The three stores of a better line. -/
theorem three_sets {w1 wz : World} {q pb ps : Nat} {b : Option Ln} (S H f : Rat) (hN : NW w1 q b wz) (hq : q + 2 < pb) (hq2 : q + 2 < ps) (b1 : wz.cell? ⟨pb, 0, none⟩ = some (.int .i64 H.num)) (b2 : wz.cell? ⟨pb, 1, none⟩ = some (.int .i64 (H.den : Int)))
    (c1 : wz.cell? ⟨ps, 0, none⟩ = some (.int .i64 f.num)) (c2 : wz.cell? ⟨ps, 1, none⟩ = some (.int .i64 (f.den : Int))) :
    ∃ Z7, (wz.setCell ⟨q, 0, none⟩ (.int .i64 S.num)).setCell ⟨q, 1, none⟩ (.int .i64 (S.den : Int)) = Z7 ∧ Z7.cell? ⟨pb, 0, none⟩ = some (.int .i64 H.num) ∧ Z7.cell? ⟨pb, 1, none⟩ = some (.int .i64 (H.den : Int)) ∧
      Pr Z7 (q + 1) (oH b).1 (oH b).2 ∧
    ∃ Z8, (Z7.setCell ⟨q + 1, 0, none⟩ (.int .i64 H.num)).setCell ⟨q + 1, 1, none⟩ (.int .i64 (H.den : Int)) = Z8 ∧ Z8.cell? ⟨ps, 0, none⟩ = some (.int .i64 f.num) ∧ Z8.cell? ⟨ps, 1, none⟩ = some (.int .i64 (f.den : Int)) ∧
      Pr Z8 (q + 1 + 1) (oF b).1 (oF b).2 ∧
    ∃ Z9, (Z8.setCell ⟨q + 1 + 1, 0, none⟩ (.int .i64 f.num)).setCell ⟨q + 1 + 1, 1, none⟩ (.int .i64 (f.den : Int)) = Z9 ∧ NW w1 q (some ⟨S, H, f⟩) Z9 := by
  obtain ⟨n1, n2, ⟨⟨n3, n4⟩, n5, n6⟩, n7, n8⟩ := hN
  obtain ⟨Z7, e7, b7, ⟨p71, p72, p73, p74⟩, s7, o7⟩ := set_pair (x := .int .i64 S.num) (y := .int .i64 (S.den : Int)) (Nat.le_refl q) n3 n4 n5 n6
  have n7' := n7.other o7 (by omega)
  have n8' := n8.other o7 (by omega)
  obtain ⟨⟨m3, m4⟩, m5, m6⟩ := id n7'
  obtain ⟨Z8, e8, b8, ⟨p81, p82, p83, p84⟩, s8, o8⟩ := set_pair (x := .int .i64 H.num) (y := .int .i64 (H.den : Int)) (Nat.le_succ q) m3 m4 m5 m6
  have n8'' : Pr Z8 (q + 1 + 1) (oF b).1 (oF b).2 := n8'.other o8 (by omega)
  obtain ⟨⟨k3, k4⟩, k5, k6⟩ := id n8''
  obtain ⟨Z9, e9, b9, ⟨p91, p92, p93, p94⟩, s9, o9⟩ := set_pair (x := .int .i64 f.num) (y := .int .i64 (f.den : Int)) (show q ≤ q + 1 + 1 by omega) k3 k4 k5 k6
  have q1 : Pr Z7 q S.num (S.den : Int) := ⟨⟨p71, p72⟩, p73, p74⟩
  have q2 : Pr Z8 (q + 1) H.num (H.den : Int) := ⟨⟨p81, p82⟩, p83, p84⟩
  have q3 : Pr Z9 (q + 1 + 1) f.num (f.den : Int) := ⟨⟨p91, p92⟩, p93, p94⟩
  have q1' : Pr Z9 q S.num (S.den : Int) := (q1.other o8 (by omega)).other o9 (by omega)
  have q2' : Pr Z9 (q + 1) H.num (H.den : Int) := q2.other o9 (by omega)
  refine ⟨Z7, e7, (o7 pb 0 (by omega)).1.trans b1, (o7 pb 1 (by omega)).1.trans b2, n7', Z8, e8, ((o8 ps 0 (by omega)).1.trans (o7 ps 0 (by omega)).1).trans c1, ((o8 ps 1 (by omega)).1.trans (o7 ps 1 (by omega)).1).trans c2, n8'', Z9, e9, ?_⟩
  exact ⟨n1.trans (b7.trans (b8.trans b9)), by omega, q1', q2', q3⟩
theorem over0 (y s x : Rat) : y - (s * x + 0) = y - s * x := by rw [Rat.add_zero]

/-- Three results' cells and three variables, zeros. -/
theorem new3 (w : World) (T : TypeId) : ∃ W, ((w.alloc (.cells #[.int .i64 0, .int .i64 0] T)).alloc (.cells #[.int .i64 0, .int .i64 0] T)).alloc (.cells #[.int .i64 0, .int .i64 0] T) = W ∧ Below w.heap.size w W ∧ w.heap.size + 2 < W.heap.size ∧
    Pr W w.heap.size 0 0 ∧ Pr W (w.heap.size + 1) 0 0 ∧ Pr W (w.heap.size + 1 + 1) 0 0 := by
  refine ⟨_, rfl, by (repeat (first | exact Below.refl _ _ | assumption | refine Below.setCell ?_ (by first | (simp; done) | omega | (simp; omega) | (simp at *; omega)) _ | refine Below.drew ?_ | refine below_drewN ?_ _ | refine below_alloc' ?_ _ | refine below_to' ?_ (by assumption))), by simp, ?_, ?_, ?_⟩ <;> refine ⟨⟨?_, ?_⟩, ?_, ?_⟩ <;> simp [go_sem]

set_option maxRecDepth 100000 in
set_option maxHeartbeats 16000000 in
theorem NearS_yes (u v : Value) (xs ys : List Int) (w : World) (hx : Rd w u xs) (hy : Rd w v ys) (hok : okCloud xs ys = true) :
    Calls Try.prog 27 #[u, v] w fun e w' => e = .returned (.tuple #[.agg #[.int .i64 (oS (bestP xs ys xs.length)).1, .int .i64 (oS (bestP xs ys xs.length)).2], .agg #[.int .i64 (oH (bestP xs ys xs.length)).1, .int .i64 (oH (bestP xs ys xs.length)).2], .agg #[.int .i64 (oF (bestP xs ys xs.length)).1, .int .i64 (oF (bestP xs ys xs.length)).2], .bool true]) ∧ Below w.heap.size w w' := by
  obtain ⟨⟨hl, l1, l2, ax, ay⟩, _⟩ := okCloud_all hok
  have K := hide fun w hx hy => validCloudS_c u v xs ys true w hx hy hok
  have HAX := hide fun k (hk : k < xs.length) => allB_at ax hk
  have HAY := hide fun k (hk : k < ys.length) => allB_at ay hk
  have HNB := hide fun i k (hi : i < xs.length) (hk : k < xs.length) (hne : atL xs i ≠ atL xs k) => (near_b ax ay hl hi hk hne)
  have HL := hide hl
  clear hok hl ax ay
  obtain ⟨A, c, rfl, hc, hm, _⟩ := id hx
  obtain ⟨A2, c2, rfl, hc2, hm2, _⟩ := id hy
  obtain ⟨W, hW, hbW, hWs, R0, R1, R2⟩ := new3 w 31
  have HRES := hide (And.intro R0 (And.intro R1 R2))
  have hxW := hx.below hbW
  have hyW := hy.below hbW
  clear R0 R1 R2
  go_enter Try.func27, Try.ntmps27
  go_wp2_with fail
  clear hW
  refine (K.out _ hxW hyW).mono ?_
  rintro e w1 ⟨rfl, hb1⟩
  obtain ⟨V, hV, hbV, hVs, V0, V1, V2⟩ := new3 w1 31
  have hNV : NW w1 w1.heap.size none V := ⟨hbV, by omega, V0, V1, V2⟩
  have HNV := hide hNV
  clear V0 V1 V2 hNV
  go_wp2_with fail
  clear hV
  have hx1 := hxW.below hb1
  have hy1 := hyW.below hb1
  go_loopw [11] (fun i wr => ∃ k : Nat, k ≤ xs.length ∧ i = .int .i64 k ∧ Hid (NW w1 w1.heap.size (bestP xs ys k) wr) ∧ Hid (SmO (bestP xs ys k))) (fun i _ => xs.length - (intOf i).toNat)
  case atStart => exact ⟨0, by omega, rfl, HNV.out, SmO.none⟩
  case round =>
    obtain ⟨i, hi, rfl, hnw, hsm⟩ := hrel
    by_cases hlt : i < xs.length
    · have HROW : Hid (bestP xs ys (i + 1) = rowP xs ys i (bestP xs ys i) (xs.length - (i + 1))) := rfl
      obtain ⟨bi, hbi⟩ : ∃ b, bestP xs ys i = b := ⟨_, rfl⟩
      rw [hbi] at HROW hnw hsm
      clear hbi
      go_wp2_with fail
      go_loopw [12] (fun k wr => ∃ d : Nat, i + 1 + d ≤ xs.length ∧ k = .int .i64 ((i : Int) + 1 + d) ∧ Hid (NW w1 w1.heap.size (rowP xs ys i bi d) wr) ∧ Hid (SmO (rowP xs ys i bi d))) (fun k _ => xs.length - (intOf k).toNat)
      case atStart => exact ⟨0, by omega, by simp, hnw, hsm⟩
      case round =>
        rename World => wq
        obtain ⟨d, hd, rfl, hnw, hsm⟩ := hrel
        by_cases hdl : i + 1 + d < xs.length
        · have hbq := hnw.out.1
          have hszq := hnw.out.2.1
          obtain ⟨g, off, rfl, hg, hcl⟩ := hx1.at (by omega)
          obtain ⟨g2, off2, rfl, hg2, hcl2⟩ := hy1.at (by have := HL.out; omega)
          have x1 := (hbq.cell (p := ⟨g, off + i, none⟩) hg).trans (hcl i hlt)
          have x2 := (hbq.cell (p := ⟨g, off + (i + 1 + d), none⟩) hg).trans (hcl (i + 1 + d) hdl)
          have y1 := (hbq.cell (p := ⟨g2, off2 + i, none⟩) hg2).trans (hcl2 i (by have := HL.out; omega))
          have y2 := (hbq.cell (p := ⟨g2, off2 + (i + 1 + d), none⟩) hg2).trans (hcl2 (i + 1 + d) (by have := HL.out; omega))
          have HCL := hide hcl
          have HCL2 := hide hcl2
          have j0 : (0 : Int) ≤ (i : Int) + 1 + d := by omega
          have j1 : (i : Int) + 1 + d < (xs.length : Int) := by omega
          have j2 : (i : Int) + 1 + d < (ys.length : Int) := by have := HL.out; omega
          have j3 : (i : Int) < (xs.length : Int) := by omega
          have j4 : (i : Int) < (ys.length : Int) := by have := HL.out; omega
          have jt : ((i : Int) + 1 + d).toNat = i + 1 + d := by omega
          have HSTEP : Hid (rowP xs ys i bi (d + 1) = if atL xs i = atL xs (i + 1 + d) then rowP xs ys i bi d else betterP (rowP xs ys i bi d) (lineP xs ys i (i + 1 + d))) := rfl
          have hgq : g < wq.heap.size := by omega
          have hg2q : g2 < wq.heap.size := by omega
          clear hcl hcl2
          by_cases heq : atL xs i = atL xs (i + 1 + d)
          · have HST : Hid (rowP xs ys i bi (d + 1) = rowP xs ys i bi d) := by show _ = _; rw [HSTEP.out, if_pos heq]
            have heb : (atL xs i == atL xs (i + 1 + d)) = true := by simp [heq]
            obtain ⟨p, hp⟩ : ∃ x, atL xs i = x := ⟨_, rfl⟩
            obtain ⟨q, hq⟩ : ∃ x, atL xs (i + 1 + d) = x := ⟨_, rfl⟩
            rw [hp] at x1 heb
            rw [hq] at x2 heb
            clear heq hp hq HSTEP y1 y2
            go_wp2_with fail
            go_quiet (fail)
            go_wp2_with fail
            go_roundw
            case rel => exact ⟨d + 1, by omega, by go_num, by rw [HST.out]; exact (hnw.out.below (below_drewN (Below.refl _ _) _)), by rw [HST.out]; exact hsm⟩
            case measure => simp [intOf]; omega
          · have heb : (atL xs i == atL xs (i + 1 + d)) = false := by simp [heq]
            have HST : Hid (rowP xs ys i bi (d + 1) = betterP (rowP xs ys i bi d) (lineP xs ys i (i + 1 + d))) := by show _ = _; rw [HSTEP.out, if_neg heq]
            obtain ⟨D, hD⟩ := HNB.out i (i + 1 + d) hlt hdl heq
            obtain ⟨sS, sH, sJ, sF⟩ := hD.sm l2
            have bi1 := HAX.out i hlt
            have bi2 := HAX.out (i + 1 + d) hdl
            have bi3 := HAY.out i (by have := HL.out; omega)
            have bi4 := HAY.out (i + 1 + d) (by have := HL.out; omega)
            have F1 := hide fun w => fracS_c (atL ys (i + 1 + d) - atL ys i) (atL xs (i + 1 + d) - atL xs i) w (by omega) (by omega) (by omega)
            have hsc := slP_comm xs ys i (i + 1 + d)
            have F1 : Hid (∀ w, Calls Try.prog 56 #[.int .i64 (atL ys (i + 1 + d) - atL ys i), .int .i64 (atL xs (i + 1 + d) - atL xs i)] w fun e w' => e = .returned (.agg #[.int .i64 (slP xs ys i (i + 1 + d)).num, .int .i64 ((slP xs ys i (i + 1 + d)).den : Int)]) ∧ Below w.heap.size w w') := by rw [← hsc]; exact F1.out
            have HLINE : Hid (lineP xs ys i (i + 1 + d) = ⟨slP xs ys i (i + 1 + d), hgP xs ys i (slP xs ys i (i + 1 + d)), farTo xs ys (slP xs ys i (i + 1 + d)) (hgP xs ys i (slP xs ys i (i + 1 + d))) xs.length⟩) := rfl
            have HHG : Hid (hgP xs ys i (slP xs ys i (i + 1 + d)) = (atL ys i : Rat) - slP xs ys i (i + 1 + d) * (atL xs i : Rat)) := rfl
            obtain ⟨S, hS⟩ : ∃ S, slP xs ys i (i + 1 + d) = S := ⟨_, rfl⟩
            rw [hS] at F1 HLINE sS sH sJ sF HHG
            obtain ⟨H, hH⟩ : ∃ H, hgP xs ys i S = H := ⟨_, rfl⟩
            rw [hH] at HLINE sH sJ sF HHG
            obtain ⟨z0, hz0⟩ : ∃ z : Rat, z = 0 := ⟨_, rfl⟩
            have F2 : Hid (∀ w, Calls Try.prog 56 #[.int .i64 0, .int .i64 1] w fun e w' => e = .returned (.agg #[.int .i64 (z0).num, .int .i64 ((z0).den : Int)]) ∧ Below w.heap.size w w') := fun w => by
              have := fracS_c 0 1 w (by omega) (by omega) (by omega)
              rw [qf_one] at this
              rw [hz0]
              exact this
            have sz0 : Sm z0 := by rw [hz0]; exact sm_int (n := 0) (by omega)
            have F3 : Hid (∀ w, Calls Try.prog 71 #[.int .i64 (atL xs i), .int .i64 (atL ys i), .agg #[.int .i64 (S).num, .int .i64 ((S).den : Int)], .agg #[.int .i64 (z0).num, .int .i64 ((z0).den : Int)]] w fun e w' => e = .returned (.agg #[.int .i64 (H).num, .int .i64 ((H).den : Int)]) ∧ Below w.heap.size w w') := fun w => by
              have e1 : S * (atL xs i : Rat) + z0 = S * (atL xs i : Rat) := by rw [hz0, Rat.add_zero]
              have := overS_d (atL xs i) (atL ys i) S z0 w (by omega) (by omega) (fit sS (sm_int (by omega))) (fit (sJ i hlt).1 sz0) (by rw [e1]; exact fit (sm_int (by omega)) (sJ i hlt).1)
              rw [e1, ← HHG.out] at this
              exact this
            have F4 : Hid (∀ (j : Nat) (hj : j < xs.length) w, Calls Try.prog 71 #[.int .i64 (atL xs j), .int .i64 (atL ys j), .agg #[.int .i64 (S).num, .int .i64 ((S).den : Int)], .agg #[.int .i64 (H).num, .int .i64 ((H).den : Int)]] w fun e w' => e = .returned (.agg #[.int .i64 ((atL ys j : Rat) - (S * (atL xs j : Rat) + H)).num, .int .i64 (((atL ys j : Rat) - (S * (atL xs j : Rat) + H)).den : Int)]) ∧ Below w.heap.size w w') := fun j hj w => by
              have b1 := HAX.out j hj
              have b2 := HAY.out j (by have := HL.out; omega)
              exact overS_d (atL xs j) (atL ys j) S H w (by omega) (by omega) (fit sS (sm_int (by omega))) (fit (sJ j hj).1 sH) (fit (sm_int (by omega)) (sJ j hj).2.1)
            have F5 : Hid (∀ (j : Nat) (hj : j < xs.length) w, Calls Try.prog 72 #[.agg #[.int .i64 ((atL ys j : Rat) - (S * (atL xs j : Rat) + H)).num, .int .i64 (((atL ys j : Rat) - (S * (atL xs j : Rat) + H)).den : Int)]] w fun e w' => e = .returned (.agg #[.int .i64 (offP xs ys S H j).num, .int .i64 ((offP xs ys S H j).den : Int)]) ∧ Below w.heap.size w w') := fun j hj w => sizeS_c _ w (by have := (sJ j hj).2.2.1.1; omega)
            have F6 : Hid (∀ (j : Nat) (hj : j < xs.length) w, Calls Try.prog 57 #[.agg #[.int .i64 (farTo xs ys S H j).num, .int .i64 ((farTo xs ys S H j).den : Int)], .agg #[.int .i64 (offP xs ys S H j).num, .int .i64 ((offP xs ys S H j).den : Int)]] w fun e w' => e = .returned (.agg #[.int .i64 (farTo xs ys S H (j + 1)).num, .int .i64 ((farTo xs ys S H (j + 1)).den : Int)]) ∧ Below w.heap.size w w') := fun j hj w => plusS_c _ _ w (sF j (by omega)) (sJ j hj).2.2.2
            have HSF := hide (sF xs.length (Nat.le_refl _))
            have HZ0 := hide hz0
            have e1 : IntKind.i64.wrap (atL ys (i + 1 + d) - atL ys i) = atL ys (i + 1 + d) - atL ys i := IntWalk.i64_in _ (by omega)
            have e2 : IntKind.i64.wrap (atL xs (i + 1 + d) - atL xs i) = atL xs (i + 1 + d) - atL xs i := IntWalk.i64_in _ (by omega)
            obtain ⟨p, hp⟩ : ∃ x, atL xs i = x := ⟨_, rfl⟩
            obtain ⟨q, hq⟩ : ∃ x, atL xs (i + 1 + d) = x := ⟨_, rfl⟩
            obtain ⟨r, hr⟩ : ∃ x, atL ys i = x := ⟨_, rfl⟩
            obtain ⟨t, ht⟩ : ∃ x, atL ys (i + 1 + d) = x := ⟨_, rfl⟩
            rw [hp] at x1 heb e2 F1 F3
            rw [hq] at x2 heb e2 F1
            rw [hr] at y1 e1 F1 F3
            rw [ht] at y2 e1 F1
            clear heq hp hq hr ht HSTEP hsc hS hH hz0 sS sH sJ sF sz0 bi1 bi2 bi3 bi4 hD HHG
            go_wp2_with fail
            go_quiet (fail)
            obtain ⟨U, hU⟩ : ∃ U, wq.drewN nq = U := ⟨_, rfl⟩
            have hbU : Below wq.heap.size wq U := by rw [← hU]; exact below_drewN (Below.refl _ _) _
            have hUs : U.heap.size = wq.heap.size := by rw [← hU]; rfl
            have u1 : U.cell? ⟨g, off + i, none⟩ = some (.int .i64 p) := by rw [← hU]; exact x1
            have u2 : U.cell? ⟨g, off + (i + 1 + d), none⟩ = some (.int .i64 q) := by rw [← hU]; exact x2
            have u3 : U.cell? ⟨g2, off2 + i, none⟩ = some (.int .i64 r) := by rw [← hU]; exact y1
            have u4 : U.cell? ⟨g2, off2 + (i + 1 + d), none⟩ = some (.int .i64 t) := by rw [← hU]; exact y2
            clear x1 x2 y1 y2
            rw [hU]
            clear hU
            go_wp2_with fail
            refine wp_region_free_ex 19 13 (.cells #[.int .i64 0, .int .i64 0] 31) (by kernel_rfl) (by kernel_rfl) (by kernel_rfl) (fun oa hoa => by cases hoa; exact ⟨rfl, fun ρ w => by simp [execOp, go_sem]⟩) ?_
            apply Exists.intro
            refine ⟨fun z hz => ?_, ?_⟩
            · have k1 := cell_grn hz (by omega) u1
              have k2 := cell_grn hz (by omega) u2
              have k3 := cell_grn hz (by omega) u3
              have k4 := cell_grn hz (by omega) u4
              simp only [List.take_succ_cons, List.take_zero]
              repeat (go_big_quiet_step ((go_at_call 56; with_reducible exact calls_grn F1.out)))
              exact wpQuiet_nil rfl
            intro pa w3 hb3 hpa hoa
            obtain ⟨⟨q1, q2, q3, q4⟩, Z1, hZ1, hbZ1, z1, z2, zs1⟩ := put_pair (x := .int .i64 S.num) (y := .int .i64 (S.den : Int)) hb3 hpa hoa
            have hsZ1 := hbZ1.size
            have m1 : Z1.cell? ⟨g, off + i, none⟩ = some (.int .i64 p) := (hbZ1.cell (by simp; omega)).trans u1
            have m3 : Z1.cell? ⟨g2, off2 + i, none⟩ = some (.int .i64 r) := (hbZ1.cell (by simp; omega)).trans u3
            clear e1 e2 u1 u2 u3 u4
            simp only [List.drop_succ_cons, List.drop_zero, Act.put]
            go_wp2_with fail
            clear hZ1 q1 q2 q3 q4
            refine wp_region_free_ex 11 14 (.cells #[.int .i64 0, .int .i64 0] 31) (by kernel_rfl) (by kernel_rfl) (by kernel_rfl) (fun oa hoa => by cases hoa; exact ⟨rfl, fun ρ w => by simp [execOp, go_sem]⟩) ?_
            apply Exists.intro
            refine ⟨fun z hz => ?_, ?_⟩
            · have k1 := cell_grn hz (by omega) m1
              have k3 := cell_grn hz (by omega) m3
              have k5 := cell_grn hz zs1 z1
              have k6 := cell_grn hz zs1 z2
              simp only [List.take_succ_cons, List.take_zero]
              repeat (go_big_quiet_step ((first | (go_at_call 56; with_reducible exact calls_grn F2.out) | (go_at_call 71; with_reducible exact calls_grn F3.out))))
              exact wpQuiet_nil rfl
            intro pb w4 hb4 hpb hob
            obtain ⟨⟨q1, q2, q3, q4⟩, Z2, hZ2, hbZ2, zz1, zz2, zs2⟩ := put_pair (x := .int .i64 H.num) (y := .int .i64 (H.den : Int)) hb4 hpb hob
            have hsZ2 := hbZ2.size
            have z1 := (hbZ2.cell (p := ⟨pa, 0, none⟩) zs1).trans z1
            have z2 := (hbZ2.cell (p := ⟨pa, 1, none⟩) zs1).trans z2
            have hbq2 : Below wq.heap.size wq Z2 := hbU.trans ((hbZ1.trans (hbZ2.mono hbZ1.size)).mono (by omega))
            clear m1 m3
            simp only [List.drop_succ_cons, List.drop_zero, Act.put]
            go_wp2_with fail
            clear hZ2 q1 q2 q3 q4
            refine (F2.out _).mono ?_
            rintro e w5 ⟨rfl, hb5⟩
            obtain ⟨V5, hV5, hbV5, hsV5, hPV5⟩ : ∃ V5, w5.alloc (.cells #[.int .i64 z0.num, .int .i64 (z0.den : Int)] 31) = V5 ∧ Below Z2.heap.size Z2 V5 ∧ w5.heap.size < V5.heap.size ∧ Pr V5 w5.heap.size z0.num (z0.den : Int) := by
              refine ⟨_, rfl, below_alloc' hb5 _, by simp, ⟨?_, ?_⟩, ?_, ?_⟩ <;> simp [go_sem]
            have hs5 := hb5.size
            have hFZ : Hid (farTo xs ys S H 0 = z0) := by show _ = _; rw [HZ0.out]; rfl
            have HPV5 := hide hPV5
            go_wp2_with fail
            clear hV5 hPV5
            have hb1V : Below w1.heap.size w1 V5 := hbq.trans ((hbq2.trans (hbV5.mono hbq2.size)).mono hbq.size)
            have hbqV : Below wq.heap.size wq V5 := hbq2.trans (hbV5.mono hbq2.size)
            have hpaz : pa < w5.heap.size := by omega
            have hpbz : pb < w5.heap.size := by omega
            have hq5 : wq.heap.size ≤ w5.heap.size := by have := hbq2.size; omega
            have h15 : w1.heap.size ≤ w5.heap.size := by have := hbq.size; omega
            have A1 : Hid (V5.cell? ⟨pa, 0, none⟩ = some (.int .i64 S.num) ∧ V5.cell? ⟨pa, 1, none⟩ = some (.int .i64 (S.den : Int)) ∧ V5.cell? ⟨pb, 0, none⟩ = some (.int .i64 H.num) ∧ V5.cell? ⟨pb, 1, none⟩ = some (.int .i64 (H.den : Int))) :=
              ⟨(hbV5.cell (p := ⟨pa, 0, none⟩) (by simp; omega)).trans z1, (hbV5.cell (p := ⟨pa, 1, none⟩) (by simp; omega)).trans z2, (hbV5.cell (p := ⟨pb, 0, none⟩) (by simp; omega)).trans zz1, (hbV5.cell (p := ⟨pb, 1, none⟩) (by simp; omega)).trans zz2⟩
            have hpbq : wq.heap.size ≤ pb := by omega
            clear z1 z2 zz1 zz2 zs1 zs2 hpa hpb hoa hob hb3 hb4 hbZ1 hbZ2
            obtain ⟨ps, hps⟩ : ∃ p, w5.heap.size = p := ⟨_, rfl⟩
            rw [hps] at hsV5 HPV5 hpaz hpbz hq5 h15
            rw [hps]
            clear hps hs5 hsZ2
            go_loopw [16] (fun j wz => ∃ k : Nat, k ≤ xs.length ∧ j = .int .i64 k ∧ Hid (Below ps V5 wz ∧ ps < wz.heap.size ∧ Pr wz ps (farTo xs ys S H k).num ((farTo xs ys S H k).den : Int))) (fun j _ => xs.length - (intOf j).toNat)
            case atStart => exact ⟨0, by omega, rfl, ⟨Below.refl _ _, hsV5, by rw [hFZ.out]; exact HPV5.out⟩⟩
            case round =>
              rename World => wz
              obtain ⟨k, hk, rfl, hrl⟩ := hrel
              have hbz := hrl.out.1
              have hpz := hrl.out.2.1
              obtain ⟨⟨a1, a2⟩, a3, a4⟩ := hrl.out.2.2
              have d1 := (hbz.cell (p := ⟨pa, 0, none⟩) hpaz).trans A1.out.1
              have d2 := (hbz.cell (p := ⟨pa, 1, none⟩) hpaz).trans A1.out.2.1
              have d3 := (hbz.cell (p := ⟨pb, 0, none⟩) hpbz).trans A1.out.2.2.1
              have d4 := (hbz.cell (p := ⟨pb, 1, none⟩) hpbz).trans A1.out.2.2.2
              by_cases hkl : k < xs.length
              · have hb1z : Below w1.heap.size w1 wz := hb1V.trans (hbz.mono h15)
                have c1 := (hb1z.cell (p := ⟨g, off + k, none⟩) hg).trans (HCL.out k hkl)
                have c3 := (hb1z.cell (p := ⟨g2, off2 + k, none⟩) hg2).trans (HCL2.out k (by have := HL.out; omega))
                have ik : (k : Int) < (xs.length : Int) := by omega
                have ik2 : (k : Int) < (ys.length : Int) := by have := HL.out; omega
                have s1z := hb1z.size
                have G4 := hide (F4.out k hkl)
                have G5 := hide (F5.out k hkl)
                have G6 := hide (F6.out k hkl)
                obtain ⟨f1, hf1⟩ : ∃ f, farTo xs ys S H (k + 1) = f := ⟨_, rfl⟩
                obtain ⟨f0, hf0⟩ : ∃ f, farTo xs ys S H k = f := ⟨_, rfl⟩
                obtain ⟨r2, hr2⟩ : ∃ f, offP xs ys S H k = f := ⟨_, rfl⟩
                obtain ⟨r1, hr1⟩ : ∃ f, (atL ys k : Rat) - (S * (atL xs k : Rat) + H) = f := ⟨_, rfl⟩
                rw [hr1] at G4 G5
                rw [hr2] at G5 G6
                rw [hf0] at G6 a1 a2
                rw [hf1] at G6
                have HF1 := hide hf1
                obtain ⟨x, hxe⟩ : ∃ x, atL xs k = x := ⟨_, rfl⟩
                obtain ⟨y, hye⟩ : ∃ x, atL ys k = x := ⟨_, rfl⟩
                rw [hxe] at c1 G4
                rw [hye] at c3 G4
                have k1 := cell_grn (Below.refl wz.heap.size wz) (by omega) c1
                have k3 := cell_grn (Below.refl wz.heap.size wz) (by omega) c3
                have k5 := cell_grn (Below.refl wz.heap.size wz) (by omega) d1
                have k6 := cell_grn (Below.refl wz.heap.size wz) (by omega) d2
                have k7 := cell_grn (Below.refl wz.heap.size wz) (by omega) d3
                have k8 := cell_grn (Below.refl wz.heap.size wz) (by omega) d4
                have k9 := cell_grn (Below.refl wz.heap.size wz) hpz a1
                have k10 := cell_grn (Below.refl wz.heap.size wz) hpz a2
                have HPR : Hid (Pr wz ps f0.num (f0.den : Int)) := ⟨⟨a1, a2⟩, a3, a4⟩
                clear hf1 hf0 hr2 hr1 hxe hye c1 c3 d1 d2 d3 d4 a1 a2 a3 a4
                go_wp2_with fail
                refine wp_region_below_tail 14 (by kernel_rfl) (by kernel_rfl) ?_
                simp only [List.take_succ_cons, List.take_zero, List.drop_succ_cons, List.drop_zero]
                repeat (go_big_quiet_step ((first | (go_at_call 71; with_reducible exact calls_grn G4.out) | (go_at_call 72; with_reducible exact calls_grn G5.out) | (go_at_call 57; with_reducible exact calls_grn G6.out))))
                refine wpQuiet_nil ?_
                intro w6 hb6
                have hpr6 := HPR.out.keep hb6 hpz
                obtain ⟨⟨a1, a2⟩, a3, a4⟩ := hpr6
                obtain ⟨Z6, hZ6, hbZ6, hpZ6, hsZ6, _⟩ := set_pair (x := .int .i64 f1.num) (y := .int .i64 (f1.den : Int)) (Nat.le_refl ps) a1 a2 a3 a4
                have HPZ : Hid (Pr Z6 ps f1.num (f1.den : Int)) := ⟨⟨hpZ6.1, hpZ6.2.1⟩, hpZ6.2.2.1, hpZ6.2.2.2⟩
                have hb6s := hb6.size
                clear hpZ6 k1 k3 k5 k6 k7 k8 k9 k10
                go_wp2_with fail
                clear hZ6 a1 a2 a3 a4
                go_roundw
                case rel => exact ⟨k + 1, by omega, by go_num, ⟨hbz.trans ((hb6.mono (by omega)).trans hbZ6), by omega, by rw [HF1.out]; exact HPZ.out⟩⟩
                case measure => simp [intOf]; omega
              · obtain rfl : k = xs.length := by omega
                have hbqz : Below wq.heap.size wq wz := hbqV.trans (hbz.mono hq5)
                have hNz := hnw.out.below hbqz
                have hqb : w1.heap.size + 2 < pb := by have := hnw.out.2.1; omega
                have hqs : w1.heap.size + 2 < ps := by omega
                have hnl : ¬ (xs.length : Int) < (xs.length : Int) := by omega
                obtain ⟨f, hf⟩ : ∃ f, farTo xs ys S H xs.length = f := ⟨_, rfl⟩
                rw [hf] at a1 a2 HLINE HSF
                obtain ⟨b, hb⟩ : ∃ b, rowP xs ys i bi d = b := ⟨_, rfl⟩
                rw [hb] at hNz hsm HST
                rw [HLINE.out] at HST
                have hSO := hide (SmO.better hsm.out HSF.out (b := b) (l := ⟨S, H, f⟩))
                obtain ⟨Z7, hZ7, e1, e2, ⟨⟨e3, e4⟩, e5, e6⟩, Z8, hZ8, e7, e8, ⟨⟨e9, e10⟩, e11, e12⟩, Z9, hZ9, hNW9⟩ := three_sets S H f hNz hqb hqs d3 d4 a1 a2
                obtain ⟨⟨n1, n2⟩, n3, n4⟩ := hNz.2.2.1
                have HM9 := hide hNz.2.2.2.2.1.1
                have HM10 := hide hNz.2.2.2.2.1.2
                have HN9 := hide hNW9
                have HNZ := hide hNz
                clear hf hb hNW9 hNz a3 a4
                cases b with
                | none =>
                  have HNEW : Hid (rowP xs ys i bi (d + 1) = some ⟨S, H, f⟩) := HST.out
                  have n9 : wz.cell? ⟨w1.heap.size + 1 + 1, 0, none⟩ = some (.int .i64 0) := HM9.out
                  have n10 : wz.cell? ⟨w1.heap.size + 1 + 1, 1, none⟩ = some (.int .i64 0) := HM10.out
                  go_wp2_with fail
                  clear hZ7 hZ8 hZ9
                  go_roundw
                  case rel => exact ⟨d + 1, by omega, by go_num, by rw [HNEW.out]; exact HN9.out, by rw [HNEW.out]; exact hSO.out⟩
                  case measure => simp [intOf]; omega
                | some l =>
                  obtain ⟨ls, lh, lf⟩ := l
                  have hsl : Sm lf := hsm.out _ rfl
                  have n9 : wz.cell? ⟨w1.heap.size + 1 + 1, 0, none⟩ = some (.int .i64 lf.num) := HM9.out
                  have n10 : wz.cell? ⟨w1.heap.size + 1 + 1, 1, none⟩ = some (.int .i64 (lf.den : Int)) := HM10.out
                  have hdp := qden_pos lf
                  have F7 := hide fun w => lessS_c f lf w HSF.out hsl
                  obtain ⟨dn, hdn⟩ : ∃ x, lf.num = x := ⟨_, rfl⟩
                  obtain ⟨dd, hdd⟩ : ∃ x, (lf.den : Int) = x := ⟨_, rfl⟩
                  rw [hdn] at n9 F7
                  rw [hdd] at n10 F7 hdp
                  have hdb : (dd == 0) = false := beq_eq_false_iff_ne.2 (by omega)
                  have hd0 : ¬ dd = 0 := by omega
                  clear hdn hdd
                  by_cases hfl : f < lf
                  · have hfd : decide (f < lf) = true := decide_eq_true hfl
                    rw [hfd] at F7
                    have HNEW : Hid (rowP xs ys i bi (d + 1) = some ⟨S, H, f⟩) := by show _ = _; rw [HST.out]; simp [betterP, hfl]
                    have hSO' : Hid (SmO (some ⟨S, H, f⟩)) := by have := hSO.out; simp only [betterP, hfl, if_true] at this; exact this
                    clear hfl hfd hsl
                    clear e1 e2 e3 e4 e5 e6 e7 e8 e9 e10 e11 e12 hZ7 hZ8 hZ9 HN9 n1 n2 n3 n4
                    go_wp2_with fail
                    refine (F7.out _).mono ?_
                    rintro e w7 ⟨rfl, hb7⟩
                    have hN7 := HNZ.out.below hb7
                    obtain ⟨Z7, hZ7, e1, e2, ⟨⟨e3, e4⟩, e5, e6⟩, Z8, hZ8, e7, e8, ⟨⟨e9, e10⟩, e11, e12⟩, Z9, hZ9, hNW9⟩ := three_sets S H f hN7 hqb hqs ((hb7.cell (p := ⟨pb, 0, none⟩) (by simp; omega)).trans d3) ((hb7.cell (p := ⟨pb, 1, none⟩) (by simp; omega)).trans d4) ((hb7.cell (p := ⟨ps, 0, none⟩) hpz).trans a1) ((hb7.cell (p := ⟨ps, 1, none⟩) hpz).trans a2)
                    obtain ⟨⟨n1, n2⟩, n3, n4⟩ := hN7.2.2.1
                    have d1 := (hb7.cell (p := ⟨pa, 0, none⟩) (by simp; omega)).trans d1
                    have d2 := (hb7.cell (p := ⟨pa, 1, none⟩) (by simp; omega)).trans d2
                    have HN9 := hide hNW9
                    clear hNW9 hN7
                    go_wp2_with fail
                    clear hZ7 hZ8 hZ9
                    go_roundw
                    case rel => exact ⟨d + 1, by omega, by go_num, by rw [HNEW.out]; exact HN9.out, by rw [HNEW.out]; exact hSO'.out⟩
                    case measure => simp [intOf]; omega
                  · have hfd : decide (f < lf) = false := decide_eq_false hfl
                    rw [hfd] at F7
                    have HNEW : Hid (rowP xs ys i bi (d + 1) = some ⟨ls, lh, lf⟩) := by show _ = _; rw [HST.out]; simp [betterP, hfl]
                    have hSO' := hide hsm.out
                    clear hfl hfd hsl
                    clear e1 e2 e3 e4 e5 e6 e7 e8 e9 e10 e11 e12 hZ7 hZ8 hZ9 HN9 n1 n2 n3 n4
                    go_wp2_with fail
                    refine (F7.out _).mono ?_
                    rintro e w7 ⟨rfl, hb7⟩
                    have hN7 := hide (HNZ.out.below hb7)
                    go_wp2_with fail
                    go_roundw
                    case rel => exact ⟨d + 1, by omega, by go_num, by rw [HNEW.out]; exact hN7.out, by rw [HNEW.out]; exact hsm.out⟩
                    case measure => simp [intOf]; omega
        · have hde : d = xs.length - (i + 1) := by omega
          have hnl : ¬ (i : Int) + 1 + d < (xs.length : Int) := by omega
          have HNEW : Hid (bestP xs ys (i + 1) = rowP xs ys i bi d) := by show _ = _; rw [HROW.out, hde]
          clear hde
          go_wp2_with fail
          go_roundw
          case rel => exact ⟨i + 1, by omega, by go_num, by rw [HNEW.out]; exact hnw.out, by rw [HNEW.out]; exact hsm.out⟩
          case measure => simp [intOf]; omega
    · obtain rfl : i = xs.length := by omega
      have hnl : ¬ (xs.length : Int) < (xs.length : Int) := by omega
      have hN := hnw.out
      have hbWr : Below W.heap.size W wr := hb1.trans (hN.1.mono hb1.size)
      have hWw1 := hb1.size
      obtain ⟨⟨r1, r2⟩, r3, r4⟩ := HRES.out.1.keep hbWr (by omega)
      obtain ⟨⟨r5, r6⟩, r7, r8⟩ := HRES.out.2.1.keep hbWr (by omega)
      obtain ⟨⟨r9, r10⟩, r11, r12⟩ := HRES.out.2.2.keep hbWr (by omega)
      obtain ⟨b, hb⟩ : ∃ b, bestP xs ys xs.length = b := ⟨_, rfl⟩
      rw [hb] at hN
      have HB := hide hb
      have k1 := hN.2.2.1.1.1
      have k2 := hN.2.2.1.1.2
      have k3 := hN.2.2.2.1.1.1
      have k4 := hN.2.2.2.1.1.2
      have k5 : wr.cell? ⟨w1.heap.size + 1 + 1, 0, none⟩ = some (.int .i64 (oF b).1) := hN.2.2.2.2.1.1
      have k6 : wr.cell? ⟨w1.heap.size + 1 + 1, 1, none⟩ = some (.int .i64 (oF b).2) := hN.2.2.2.2.1.2
      obtain ⟨o1, ho1⟩ : ∃ o, oS b = o := ⟨_, rfl⟩
      obtain ⟨o2, ho2⟩ : ∃ o, oH b = o := ⟨_, rfl⟩
      obtain ⟨o3, ho3⟩ : ∃ o, oF b = o := ⟨_, rfl⟩
      rw [ho1] at k1 k2
      rw [ho2] at k3 k4
      rw [ho3] at k5 k6
      have HO := hide (And.intro ho1 (And.intro ho2 ho3))
      obtain ⟨s1, s2⟩ := o1
      obtain ⟨h1, h2⟩ := o2
      obtain ⟨f1, f2⟩ := o3
      have k1 : wr.cell? ⟨w1.heap.size, 0, none⟩ = some (.int .i64 s1) := k1
      have k2 : wr.cell? ⟨w1.heap.size, 1, none⟩ = some (.int .i64 s2) := k2
      have k3 : wr.cell? ⟨w1.heap.size + 1, 0, none⟩ = some (.int .i64 h1) := k3
      have k4 : wr.cell? ⟨w1.heap.size + 1, 1, none⟩ = some (.int .i64 h2) := k4
      have k5 : wr.cell? ⟨w1.heap.size + 1 + 1, 0, none⟩ = some (.int .i64 f1) := k5
      have k6 : wr.cell? ⟨w1.heap.size + 1 + 1, 1, none⟩ = some (.int .i64 f2) := k6
      have hbw := hbW.trans (hbWr.mono hbW.size)
      have hsz : w.heap.size + 1 + 1 < wr.heap.size := by have := hbWr.size; omega
      have hsz1 : w.heap.size + 1 < wr.heap.size := by omega
      have hsz0 : w.heap.size < wr.heap.size := by omega
      go_wp2_with fail
      clear K HAX HAY HNB HL hx1 hy1 hx hy hxW hyW HNV hnw hsm HRES hbWr hbV hVs hb1 hbW hN hb ho1 ho2 ho3
      obtain ⟨q0, hq0⟩ : ∃ p, w1.heap.size = p := ⟨_, rfl⟩
      obtain ⟨q1, hq1⟩ : ∃ p, q0 + 1 = p := ⟨_, rfl⟩
      obtain ⟨q2, hq2⟩ : ∃ p, q1 + 1 = p := ⟨_, rfl⟩
      obtain ⟨p0, hp0⟩ : ∃ p, w.heap.size = p := ⟨_, rfl⟩
      obtain ⟨p1, hp1⟩ : ∃ p, p0 + 1 = p := ⟨_, rfl⟩
      obtain ⟨p2, hp2⟩ : ∃ p, p1 + 1 = p := ⟨_, rfl⟩
      have n1 : ¬ p0 = q0 := by omega
      have n2 : ¬ p0 = q1 := by omega
      have n3 : ¬ p0 = q2 := by omega
      have n4 : ¬ p1 = q0 := by omega
      have n5 : ¬ p1 = q1 := by omega
      have n6 : ¬ p1 = q2 := by omega
      have n7 : ¬ p2 = q0 := by omega
      have n8 : ¬ p2 = q1 := by omega
      have n9 : ¬ p2 = q2 := by omega
      have n10 : ¬ p0 = p1 := by omega
      have n11 : ¬ p0 = p2 := by omega
      have n12 : ¬ p1 = p2 := by omega
      have n13 : ¬ p1 = p0 := by omega
      have n14 : ¬ p2 = p0 := by omega
      have n15 : ¬ p2 = p1 := by omega
      rw [hq0, hq1, hq2, hp0, hp1, hp2]
      rw [hq0] at k1 k2 k3 k4 k5 k6
      rw [hq1] at k3 k4 k5 k6
      rw [hq2] at k5 k6
      rw [hp0] at r1 r2 r3 r4 r5 r6 r7 r8 r9 r10 r11 r12 hsz hsz0 hsz1 hbw
      rw [hp1] at r5 r6 r7 r8 r9 r10 r11 r12 hsz hsz1
      rw [hp2] at r9 r10 r11 r12 hsz
      have hB1 : p0 ≤ p1 := by omega
      have hB2 : p0 ≤ p2 := by omega
      clear hq0 hq1 hq2 hp1 hp2 hWs hWw1
      go_region
      go_wp2_with fail
      refine bodyPost_ret (v := .tuple #[.agg #[.int .i64 s1, .int .i64 s2], .agg #[.int .i64 h1, .int .i64 h2], .agg #[.int .i64 f1, .int .i64 f2], .bool true]) (by simp [results, Try.results27, go_sem, r1, r2, r5, r6, r9, r10, n10, n11, n12, n13, n14, n15]) rfl ⟨by rw [HB.out, HO.out.1, HO.out.2.1, HO.out.2.2], ?_⟩
      rw [hp0]
      exact ((((((hbw.setCell (Nat.le_refl p0) _).setCell (Nat.le_refl p0) _).setCell hB1 _).setCell hB1 _).setCell hB2 _).setCell hB2 _).drew
end Go.Proofs.Ytahogdcmnpidiaa
