/-
  Contracts: FourChance, FourBoth, FourWays of the program.
-/
import Derived.Test.YtgclgcfhcomplaaTog
namespace Go.Proofs.Ytgclgcfhcomplaa
open Go.RowKit

set_option maxHeartbeats 2000000 in
theorem both1_c (a b c d x : Nat) (X B C D : Int) (p : Nat) (w : World) (ha : a ≤ 8) (hb : b ≤ 8) (hc : c ≤ 8) (hd : d ≤ 8) (h1 : x ≤ a + b) (h2 : x ≤ a + c) (h3 : a ≤ d + x) (hX : X = x) (hB : B = (a : Int) + b - x) (hC : C = (a : Int) + c - x) (hD : D = (d : Int) - a + x)
    (hpl : p < w.heap.size) (hp0 : w.cell? ⟨p, 0, none⟩ = some (.int .i64 a)) (hp1 : w.cell? ⟨p, 1, none⟩ = some (.int .i64 b)) (hp2 : w.cell? ⟨p, 2, none⟩ = some (.int .i64 c)) (hp3 : w.cell? ⟨p, 3, none⟩ = some (.int .i64 d)) :
    Calls Try.prog 80 #[.agg #[.int .i64 (X), .int .i64 (B), .int .i64 (C), .int .i64 (D)], .pointer (some ⟨p, 0, none⟩)] w fun e w' => e = .returned (.bool (noMoreN a b c d x)) ∧ Below w.heap.size w w' := by
  have K1 := hide fun w => wayI_c a b c d x X B C D w ha hb hc hd h1 h2 h3 hX hB hC hD
  have K2 := hide fun w => waysI_c a b c d w (by omega) (by omega)
  have HN : Hid (noMoreN a b c d x = decide (wayX a b c d x ≤ waysN a b c d)) := rfl
  obtain ⟨Y, hY⟩ : ∃ Y, wayX a b c d x = Y := ⟨_, rfl⟩
  obtain ⟨Z, hZ⟩ : ∃ Y, waysN a b c d = Y := ⟨_, rfl⟩
  rw [hY] at K1 HN
  rw [hZ] at K2 HN
  clear hY hZ hX hB hC hD
  obtain ⟨W, hW, hbW, hWs, hW0, hW1, hW2, hW3⟩ := box4 w 24 (.int .i64 X) (.int .i64 B) (.int .i64 C) (.int .i64 D)
  obtain ⟨hP0, hP1, hP2, hP3⟩ := held4 hbW hpl hp0 hp1 hp2 hp3
  have HS : Hid (∀ wz : World, Below W.heap.size W wz → Below W.heap.size W wz ∧ wz.cell? ⟨w.heap.size, 0, none⟩ = some (.int .i64 X) ∧ wz.cell? ⟨w.heap.size, 1, none⟩ = some (.int .i64 B) ∧ wz.cell? ⟨w.heap.size, 2, none⟩ = some (.int .i64 C) ∧ wz.cell? ⟨w.heap.size, 3, none⟩ = some (.int .i64 D) ∧ wz.cell? ⟨p, 0, none⟩ = some (.int .i64 a) ∧ wz.cell? ⟨p, 1, none⟩ = some (.int .i64 b) ∧ wz.cell? ⟨p, 2, none⟩ = some (.int .i64 c) ∧ wz.cell? ⟨p, 3, none⟩ = some (.int .i64 d)) := fun wz hz => by
    obtain ⟨e1, e2, e3, e4⟩ := held4 hz (by omega) hW0 hW1 hW2 hW3
    obtain ⟨f1, f2, f3, f4⟩ := held4 hz (by omega) hP0 hP1 hP2 hP3
    exact ⟨hz, e1, e2, e3, e4, f1, f2, f3, f4⟩
  go_enter Try.func80, Try.ntmps80
  go_wp2_with fail
  clear hP0 hP1 hP2 hP3 hp0 hp1 hp2 hp3 hW0 hW1 hW2 hW3
  go_region_held3 (fun wz => Below W.heap.size W wz ∧ wz.cell? ⟨w.heap.size, 0, none⟩ = some (.int .i64 X) ∧ wz.cell? ⟨w.heap.size, 1, none⟩ = some (.int .i64 B) ∧ wz.cell? ⟨w.heap.size, 2, none⟩ = some (.int .i64 C) ∧ wz.cell? ⟨w.heap.size, 3, none⟩ = some (.int .i64 D) ∧ wz.cell? ⟨p, 0, none⟩ = some (.int .i64 a) ∧ wz.cell? ⟨p, 1, none⟩ = some (.int .i64 b) ∧ wz.cell? ⟨p, 2, none⟩ = some (.int .i64 c) ∧ wz.cell? ⟨p, 3, none⟩ = some (.int .i64 d))
    (first | exact HS.out _ (Below.drew (Below.refl _ _)) | (go_split_ands; exact HS.out _ (below_to' (by assumption) (by assumption))))
    (first | (go_at_call 81; with_reducible refine (K1.out _).mono ?_; rintro e wy1 ⟨rfl, hby1⟩) | (go_at_call 81; with_reducible refine (K2.out _).mono ?_; rintro e wy2 ⟨rfl, hby2⟩))
  all_goals go_wp2_with fail
  all_goals go_ret
  all_goals exact ⟨ret_bool HN.out.symm, hbW.trans ((below_to' (Below.drew (Below.refl _ _) |>.trans hby1) hby2).mono hbW.size)⟩

theorem natI {a : Int} (h : 0 ≤ a) : ((a.toNat : Nat) : Int) = a := Int.toNat_of_nonneg h

set_option maxHeartbeats 1000000 in
theorem FourChanceI_c (a b c d : Int) (w : World) : Calls Try.prog 41 #[.agg #[.int .i64 (a), .int .i64 (b), .int .i64 (c), .int .i64 (d)]] w fun e w' =>
    e = .returned (.tuple #[.int .i64 (togX (atLeastA a.toNat) a b c d), .int .i64 (togX (fun _ => true) a b c d)]) ∧ Below w.heap.size w w' := by
  have hmf : ∀ (fn : Fn) (first cap : Array Value) (w : World), (Instr.makeFunc fn first cap).run Try.prog w = .ok (.func fn first cap) w := fun _ _ _ _ => rfl
  obtain ⟨W, hW, hbW, hWs, hW0, hW1, hW2, hW3⟩ := box4 w 24 (.int .i64 a) (.int .i64 b) (.int .i64 c) (.int .i64 d)
  go_enter Try.func41, Try.ntmps41
  go_wp2_with fail
  refine (tog_c 85 #[.pointer (some ⟨w.heap.size, 0, none⟩)] (atLeastA a.toNat) a b c d _ callFuncChance1 ?_).mono ?_
  · intro x X B C D w' hok h1 h2 h3 hX hB hC hD hb'
    obtain ⟨⟨g1, g2⟩, _⟩ := okFour_iff.1 hok
    obtain ⟨t0, t1, t2, t3⟩ := held4 hb' (by omega) hW0 hW1 hW2 hW3
    exact chance1_c a.toNat x X B C D w.heap.size w' hX (by rw [natI g1]; exact t0) (by have := hb'.size; omega)
  rintro e w2 ⟨rfl, hb2⟩
  go_wp2_with fail
  go_ret2
  exact ⟨rfl, hbW.trans (hb2.mono hbW.size)⟩

set_option maxHeartbeats 1000000 in
theorem FourBothI_c (a b c d : Int) (w : World) : Calls Try.prog 36 #[.agg #[.int .i64 (a), .int .i64 (b), .int .i64 (c), .int .i64 (d)]] w fun e w' =>
    e = .returned (.tuple #[.int .i64 (togX (noMoreN a.toNat b.toNat c.toNat d.toNat) a b c d), .int .i64 (togX (fun _ => true) a b c d)]) ∧ Below w.heap.size w w' := by
  have hmf : ∀ (fn : Fn) (first cap : Array Value) (w : World), (Instr.makeFunc fn first cap).run Try.prog w = .ok (.func fn first cap) w := fun _ _ _ _ => rfl
  obtain ⟨W, hW, hbW, hWs, hW0, hW1, hW2, hW3⟩ := box4 w 24 (.int .i64 a) (.int .i64 b) (.int .i64 c) (.int .i64 d)
  go_enter Try.func36, Try.ntmps36
  go_wp2_with fail
  refine (tog_c 80 #[.pointer (some ⟨w.heap.size, 0, none⟩)] (noMoreN a.toNat b.toNat c.toNat d.toNat) a b c d _ callFuncBoth1 ?_).mono ?_
  · intro x X B C D w' hok h1 h2 h3 hX hB hC hD hb'
    obtain ⟨⟨g1, g2⟩, ⟨g3, g4⟩, ⟨g5, g6⟩, g7, g8⟩ := okFour_iff.1 hok
    obtain ⟨t0, t1, t2, t3⟩ := held4 hb' (by omega) hW0 hW1 hW2 hW3
    exact both1_c a.toNat b.toNat c.toNat d.toNat x X B C D w.heap.size w' (by omega) (by omega) (by omega) (by omega) (by omega) (by omega) (by omega) hX (by omega) (by omega) (by omega) (by have := hb'.size; omega) (by rw [natI g1]; exact t0) (by rw [natI g3]; exact t1) (by rw [natI g5]; exact t2) (by rw [natI g7]; exact t3)
  rintro e w2 ⟨rfl, hb2⟩
  go_wp2_with fail
  go_ret2
  exact ⟨rfl, hbW.trans (hb2.mono hbW.size)⟩

def fwX (a b c d : Int) : Int := if okFour a b c d then waysN a.toNat b.toNat c.toNat d.toNat else -1
def fwY (a b c d : Int) : Int := if okFour a b c d then pasc (a.toNat + b.toNat + c.toNat + d.toNat) (a.toNat + c.toNat) else -1
theorem fw_bad {a b c d : Int} (h : okFour a b c d = false) : fwX a b c d = -1 ∧ fwY a b c d = -1 := by simp [fwX, fwY, h]
theorem fw_ok {a b c d : Nat} (h : okFour a b c d = true) : fwX a b c d = waysN a b c d ∧ fwY a b c d = pasc (a + b + c + d) (a + c) := by simp [fwX, fwY, h]

set_option maxHeartbeats 2000000 in
theorem FourWaysI_c (a b c d : Int) (w : World) : Calls Try.prog 38 #[.agg #[.int .i64 (a), .int .i64 (b), .int .i64 (c), .int .i64 (d)]] w fun e w' =>
    e = .returned (.tuple #[.int .i64 (fwX a b c d), .int .i64 (fwY a b c d)]) ∧ Below w.heap.size w w' := by
  obtain ⟨W, hW, hbW, hWs, hW0, hW1, hW2, hW3⟩ := box4 w 24 (.int .i64 a) (.int .i64 b) (.int .i64 c) (.int .i64 d)
  cases hok : okFour a b c d
  · have HX := hide (fw_bad hok)
    have HK := hide hok
    clear hok
    go_enter Try.func38, Try.ntmps38
    go_wp2_with fail
    refine (fourI_c a b c d false _ HK.out).mono ?_
    rintro e w2 ⟨rfl, hb2⟩
    go_wp2_with fail
    go_ret2
    rw [HX.out.1, HX.out.2]
    exact ⟨rfl, hbW.trans (hb2.mono hbW.size)⟩
  · obtain ⟨⟨g1, g2⟩, ⟨g3, g4⟩, ⟨g5, g6⟩, g7, g8⟩ := okFour_iff.1 hok
    obtain ⟨a, rfl⟩ := Int.eq_ofNat_of_zero_le g1
    obtain ⟨b, rfl⟩ := Int.eq_ofNat_of_zero_le g3
    obtain ⟨c, rfl⟩ := Int.eq_ofNat_of_zero_le g5
    obtain ⟨d, rfl⟩ := Int.eq_ofNat_of_zero_le g7
    have HX := hide (fw_ok hok)
    have HK := hide hok
    have K1 := hide fun w => waysI_c a b c d w (by omega) (by omega)
    have K2 : Hid (∀ w, Calls Try.prog 83 #[.int .i64 ((a : Int) + b + c + d), .int .i64 ((a : Int) + c)] w fun e w' => e = .returned (.int .i64 (pasc (a + b + c + d) (a + c))) ∧ w = w') := fun w => by
      have := chooseI_c (a + b + c + d) (a + c) w (by omega) (by omega)
      rwa [show ((a + b + c + d : Nat) : Int) = (a : Int) + b + c + d from by omega, show ((a + c : Nat) : Int) = (a : Int) + c from by omega] at this
    have hw1 : IntKind.i64.wrap ((a : Int) + b) = (a : Int) + b := IntWalk.i64_in _ (by omega)
    have hw2 : IntKind.i64.wrap ((a : Int) + b + c) = (a : Int) + b + c := IntWalk.i64_in _ (by omega)
    have hw3 : IntKind.i64.wrap ((a : Int) + b + c + d) = (a : Int) + b + c + d := IntWalk.i64_in _ (by omega)
    have hw4 : IntKind.i64.wrap ((a : Int) + c) = (a : Int) + c := IntWalk.i64_in _ (by omega)
    obtain ⟨Y, hY⟩ : ∃ Y, waysN a b c d = Y := ⟨_, rfl⟩
    obtain ⟨Z, hZ⟩ : ∃ Y, pasc (a + b + c + d) (a + c) = Y := ⟨_, rfl⟩
    rw [hY] at K1 HX
    rw [hZ] at K2 HX
    clear hok hY hZ
    go_enter Try.func38, Try.ntmps38
    go_wp2_with fail
    refine (fourI_c a b c d true _ HK.out).mono ?_
    rintro e w2 ⟨rfl, hb2⟩
    have hbw2 := hbW.trans (hb2.mono hbW.size)
    have hsz2 := hb2.size
    obtain ⟨q0, q1, q2, q3⟩ := held4 hb2 (by omega) hW0 hW1 hW2 hW3
    have hgl : w.heap.size < w2.heap.size := by omega
    have HS : Hid (∀ wz : World, Below w2.heap.size w2 wz → Below w2.heap.size w2 wz ∧ wz.cell? ⟨w.heap.size, 0, none⟩ = some (.int .i64 a) ∧ wz.cell? ⟨w.heap.size, 1, none⟩ = some (.int .i64 b) ∧ wz.cell? ⟨w.heap.size, 2, none⟩ = some (.int .i64 c) ∧ wz.cell? ⟨w.heap.size, 3, none⟩ = some (.int .i64 d)) := fun wz hz => ⟨hz, held4 hz hgl q0 q1 q2 q3⟩
    clear hW0 hW1 hW2 hW3 hW hb2
    go_wp2_with fail
    clear q0 q1 q2 q3
    go_region_held3 (fun wz => Below w2.heap.size w2 wz ∧ wz.cell? ⟨w.heap.size, 0, none⟩ = some (.int .i64 a) ∧ wz.cell? ⟨w.heap.size, 1, none⟩ = some (.int .i64 b) ∧ wz.cell? ⟨w.heap.size, 2, none⟩ = some (.int .i64 c) ∧ wz.cell? ⟨w.heap.size, 3, none⟩ = some (.int .i64 d))
      (first | exact HS.out _ (Below.drew (Below.refl _ _)) | (go_split_ands; exact HS.out _ (by assumption)) | (go_split_ands; exact HS.out _ (below_to' (by assumption) (by assumption))))
      (first | (go_at_call 81; with_reducible refine (K1.out _).mono ?_; rintro e wy1 ⟨rfl, hby1⟩) | (go_at_call 83; with_reducible refine (K2.out _).mono ?_; rintro e wy2 ⟨rfl, rfl⟩))
    all_goals go_wp2_with fail
    all_goals go_ret2
    all_goals rw [HX.out.1, HX.out.2]
    all_goals exact ⟨rfl, hbw2.trans ((Below.drew (Below.refl _ _) |>.trans hby1).mono hbw2.size)⟩
end Go.Proofs.Ytgclgcfhcomplaa
