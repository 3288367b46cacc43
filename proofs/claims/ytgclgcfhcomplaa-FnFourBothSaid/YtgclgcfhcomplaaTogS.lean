/-
  Contracts: FourChance, FourBoth of the reference.
-/
import Derived.Test.YtgclgcfhcomplaaTog2
namespace Go.Proofs.Ytgclgcfhcomplaa
open Go.RowKit

set_option maxHeartbeats 4000000 in
theorem FourChanceS_c (a b c d : Int) (w : World) : Calls Try.prog 42 #[.agg #[.int .i64 (a), .int .i64 (b), .int .i64 (c), .int .i64 (d)]] w fun e w' =>
    e = .returned (.tuple #[.int .i64 (togX (atLeastA a.toNat) a b c d), .int .i64 (togX (fun _ => true) a b c d)]) ∧ Below w.heap.size w w' := by
  obtain ⟨W, hW, hbW, hWs, hW0, hW1, hW2, hW3⟩ := box4 w 24 (.int .i64 a) (.int .i64 b) (.int .i64 c) (.int .i64 d)
  cases hok : okFour a b c d
  · have HX := hide (togX_bad (may := atLeastA a.toNat) hok)
    have HY := hide (togX_bad (may := fun _ => true) hok)
    have HK := hide hok
    clear hok
    go_enter Try.func42, Try.ntmps42
    go_wp2_with fail
    refine (fourS_c a b c d false _ HK.out).mono ?_
    rintro e w2 ⟨rfl, hb2⟩
    go_wp2_with fail
    go_ret2
    rw [HX.out, HY.out]
    exact ⟨rfl, hbW.trans (hb2.mono hbW.size)⟩
  · obtain ⟨⟨g1, g2⟩, ⟨g3, g4⟩, ⟨g5, g6⟩, g7, g8⟩ := okFour_iff.1 hok
    obtain ⟨a, rfl⟩ := Int.eq_ofNat_of_zero_le g1
    obtain ⟨b, rfl⟩ := Int.eq_ofNat_of_zero_le g3
    obtain ⟨c, rfl⟩ := Int.eq_ofNat_of_zero_le g5
    obtain ⟨d, rfl⟩ := Int.eq_ofNat_of_zero_le g7
    have HX : Hid (togX (atLeastA a) a b c d = togN (atLeastA a) a b c d (lenF a b c d)) := togX_ok hok
    have HY := hide (togX_ok (may := fun _ => true) hok)
    have HF := hide (fourR_ok hok)
    have HK := hide hok
    clear hok
    go_enter Try.func42, Try.ntmps42
    go_wp2_with fail
    refine (fourS_c a b c d true _ HK.out).mono ?_
    rintro e w2 ⟨rfl, hb2⟩
    have hs2 := hb2.size
    obtain ⟨hv0, hv1, hv2, hv3⟩ := held4 hb2 (by omega) hW0 hW1 hW2 hW3
    have hbw2 := hbW.trans (hb2.mono hbW.size)
    go_wp2_with fail
    refine (FoursS_c a b c d _).mono ?_
    rw [HF.out]
    rintro e w3 ⟨vl, rfl, hsl, hb3⟩
    have hrl := hsl.rd
    have hs3 := hb3.size
    obtain ⟨hu0, hu1, hu2, hu3⟩ := held4 hb3 (by omega) hv0 hv1 hv2 hv3
    have hgl : w.heap.size < w3.heap.size := by omega
    have hbw3 : Below w.heap.size w w3 := below_to' hbw2 hb3
    have l1 : a ≤ 8 := by omega
    have l2 : b ≤ 8 := by omega
    have l3 : c ≤ 8 := by omega
    have l4 : d ≤ 8 := by omega
    have hN := lenF_bd a b c d
    have hN20 : lenF a b c d ≤ 20 := by omega
    have hlen := rowL_len (a - d) (lenF a b c d)
    have hat : ∀ i, i < lenF a b c d → atL (rowL (a - d) (lenF a b c d)) i = ((a - d + i : Nat) : Int) := fun i hi => rowL_at hi
    have hbdS := fun m => togN_bd (atLeastA a) (a := a) (b := b) (c := c) (d := d) (by omega) m
    have hbdA := fun m => togN_bd (fun _ => true) (a := a) (b := b) (c := c) (d := d) (by omega) m
    obtain ⟨N, hNe⟩ : ∃ N, lenF a b c d = N := ⟨_, rfl⟩
    rw [hNe] at hrl HX HY hN hN20 hlen hat
    simp only [hNe] at hbdS hbdA
    clear hNe hsl hb2 hb3 hv0 hv1 hv2 hv3 hW0 hW1 hW2 hW3 hW
    obtain ⟨A, cp, rfl, h2, h3, _⟩ := id hrl
    have h4 := hrl.at
    rw [hlen] at h2 h4 ⊢
    clear hlen hrl
    go_wp2_with fail
    go_loopw [5, 6, 7, 8] (fun s q x n wr => ∃ k : Nat, k ≤ N ∧ x = .int .i64 k ∧ s = .int .i64 (togN (atLeastA a) a b c d k) ∧ q = .int .i64 (togN (fun _ => true) a b c d k) ∧ Below w3.heap.size w3 wr) (fun _ _ x _ _ => N - (intOf x).toNat)
    case atStart => exact ⟨0, by omega, rfl, rfl, rfl, Below.refl _ _⟩
    case round =>
      obtain ⟨k, hk, rfl, rfl, rfl, hbel⟩ := hrel
      by_cases hlt : k < N
      · obtain ⟨g, off, rfl, hg, hcl⟩ := h4 (by omega)
        have hck := (hbel.cell (p := ⟨g, off + k, none⟩) hg).trans (hcl k hlt)
        obtain ⟨q0, q1, q2, q3⟩ := held4 hbel hgl hu0 hu1 hu2 hu3
        have hsz := hbel.size
        have hgw : g < wr.heap.size := by omega
        have hGw : w.heap.size < wr.heap.size := by omega
        have hik : (k : Int) < (N : Int) := by omega
        obtain ⟨x, hx⟩ : ∃ x, a - d + k = x := ⟨_, rfl⟩
        have hS := hbdS k
        have hA := hbdA k
        have hS1 := (hbdS (k + 1)).2 (by omega)
        have hA1 := (hbdA (k + 1)).2 (by omega)
        have HS := hide (togN_succ (atLeastA a) a b c d k)
        have HA := hide (togN_succ (fun _ => true) a b c d k)
        have hwn := wayX_nonneg a b c d x
        rw [hx] at HS HA
        rw [hat k hlt, hx] at hck
        have hA1' := hA1
        rw [HA.out, if_pos rfl] at hA1'
        rw [HS.out] at hS1
        obtain ⟨n1, n2, n3, m1, m2, m3, f1, f2, hx30'⟩ := tog_x hN hlt hx l2
        have hx30 := hx30' l1
        clear m1 m2 m3 hx30'
        have hkN : k ≤ N := hk
        obtain ⟨X, hX⟩ : ∃ X, (x : Int) = X := ⟨_, rfl⟩
        have K1 := hide fun w => shifted_c a b c d X w ⟨by omega, by omega⟩ ⟨by omega, by omega⟩ ⟨by omega, by omega⟩ ⟨by omega, by omega⟩ (hX ▸ hx30)
        have K2 := hide fun w => wayS_c a b c d x X ((b : Int) + a - X) ((c : Int) + a - X) ((d : Int) - a + X) w l1 l2 l3 l4 n1 n2 n3 hX.symm (by rw [← hX, f1]) (by rw [← hX, f2]) (by rw [← hX])
        have K3 := hide fun w => waysS_c a b c d w (by omega) (by omega)
        have HM : Hid ((atLeastA a) x = decide ((a : Int) ≤ X)) := by show _ = _; first | rfl | (rw [← hX]; simp [atLeastA])
        rw [hX] at hck
        obtain ⟨Y, hY⟩ : ∃ Y, wayX a b c d x = Y := ⟨_, rfl⟩
        obtain ⟨Z, hZ⟩ : ∃ Y, waysN a b c d = Y := ⟨_, rfl⟩
        rw [hY] at HS HA K2 hA1' hS1 hwn
        rw [hZ] at K3
        try rw [hY, hZ] at HM
        obtain ⟨S, hSe⟩ : ∃ Y, togN (atLeastA a) a b c d k = Y := ⟨_, rfl⟩
        obtain ⟨Q, hQe⟩ : ∃ Y, togN (fun _ => true) a b c d k = Y := ⟨_, rfl⟩
        rw [hSe] at HS hS hS1 ⊢
        rw [hQe] at HA hA hA1' ⊢
        have hQb := hA.2 hkN
        have hSb := hS.2 hkN
        have hQ0 := hA.1
        have hS0 := hS.1
        have HL : Hid (∀ wz : World, Below wr.heap.size wr wz → Below wr.heap.size wr wz ∧ wz.cell? ⟨g, off + k, none⟩ = some (.int .i64 X) ∧ wz.cell? ⟨w.heap.size, 0, none⟩ = some (.int .i64 a) ∧ wz.cell? ⟨w.heap.size, 1, none⟩ = some (.int .i64 b) ∧ wz.cell? ⟨w.heap.size, 2, none⟩ = some (.int .i64 c) ∧ wz.cell? ⟨w.heap.size, 3, none⟩ = some (.int .i64 d)) := fun wz hz => ⟨hz, (hz.cell (p := ⟨g, off + k, none⟩) hgw).trans hck, held4 hz hGw q0 q1 q2 q3⟩
        clear n1 n2 n3 f1 f2 hx30 hcl h4 hat hbdS hbdA hX hY hZ hSe hQe hA1 hx hA hS
        go_wp2_with fail
        clear q0 q1 q2 q3 hck
        go_region_held3 (fun wz => Below wr.heap.size wr wz ∧ wz.cell? ⟨g, off + k, none⟩ = some (.int .i64 X) ∧ wz.cell? ⟨w.heap.size, 0, none⟩ = some (.int .i64 a) ∧ wz.cell? ⟨w.heap.size, 1, none⟩ = some (.int .i64 b) ∧ wz.cell? ⟨w.heap.size, 2, none⟩ = some (.int .i64 c) ∧ wz.cell? ⟨w.heap.size, 3, none⟩ = some (.int .i64 d))
          (first | exact HL.out _ (Below.drew (Below.refl _ _)) | (go_split_ands; exact HL.out _ (below_to' (by assumption) (by assumption))))
          (first | (go_at_call 53; with_reducible refine (K1.out _).mono ?_; rintro e wy1 ⟨rfl, hby1⟩) | (go_at_call 82; with_reducible refine (K2.out _).mono ?_; rintro e wy2 ⟨rfl, hby2⟩))
        have hbz : Below wr.heap.size wr wy2 := below_to' (Below.trans (b := wr.drew) (Below.drew (Below.refl _ _)) hby1) hby2
        obtain ⟨_, hck, q0, q1, q2, q3⟩ := HL.out _ hbz
        by_cases cm : (a : Int) ≤ X
        · rw [HM.out, decide_eq_true cm] at HS hS1
          have hS1' : S + Y ≤ 4294967296 := by simpa using hS1
          clear hS1
          go_wp2_with fail
          go_quiet (fail)
          go_wp2_with fail
          go_roundw
          case rel => exact ⟨k + 1, by omega, by go_num, by rw [HS.out]; simp, by rw [HA.out]; simp, below_drewN (below_to' hbel hbz) _⟩
          case measure => simp [intOf]; omega
        · have hcd : decide ((a : Int) ≤ X) = false := decide_eq_false cm
          rw [HM.out, hcd] at HS
          clear hS1
          go_wp2_with fail
          go_quiet (fail)
          go_wp2_with fail
          go_roundw
          case rel => exact ⟨k + 1, by omega, by go_num, by rw [HS.out]; simp, by rw [HA.out]; simp, below_drewN (below_to' hbel hbz) _⟩
          case measure => simp [intOf]; omega
      · skip
        obtain rfl : k = N := by omega
        obtain ⟨S, hSe⟩ : ∃ Y, togN (atLeastA a) a b c d k = Y := ⟨_, rfl⟩
        obtain ⟨Q, hQe⟩ : ∃ Y, togN (fun _ => true) a b c d k = Y := ⟨_, rfl⟩
        rw [hSe] at HX ⊢
        rw [hQe] at HY ⊢
        clear h4 hat hbdS hbdA hSe hQe
        go_wp2_with fail
        go_ret2
        refine ⟨?_, hbw3.trans (hbel.mono hbw3.size)⟩
        show _ = Ending.returned (Value.tuple #[.int .i64 (togX (atLeastA a) a b c d), .int .i64 (togX (fun _ => true) a b c d)])
        rw [HX.out, HY.out]
        rfl

set_option maxHeartbeats 4000000 in
theorem FourBothS_c (a b c d : Int) (w : World) : Calls Try.prog 37 #[.agg #[.int .i64 (a), .int .i64 (b), .int .i64 (c), .int .i64 (d)]] w fun e w' =>
    e = .returned (.tuple #[.int .i64 (togX (noMoreN a.toNat b.toNat c.toNat d.toNat) a b c d), .int .i64 (togX (fun _ => true) a b c d)]) ∧ Below w.heap.size w w' := by
  obtain ⟨W, hW, hbW, hWs, hW0, hW1, hW2, hW3⟩ := box4 w 24 (.int .i64 a) (.int .i64 b) (.int .i64 c) (.int .i64 d)
  cases hok : okFour a b c d
  · have HX := hide (togX_bad (may := noMoreN a.toNat b.toNat c.toNat d.toNat) hok)
    have HY := hide (togX_bad (may := fun _ => true) hok)
    have HK := hide hok
    clear hok
    go_enter Try.func37, Try.ntmps37
    go_wp2_with fail
    refine (fourS_c a b c d false _ HK.out).mono ?_
    rintro e w2 ⟨rfl, hb2⟩
    go_wp2_with fail
    go_ret2
    rw [HX.out, HY.out]
    exact ⟨rfl, hbW.trans (hb2.mono hbW.size)⟩
  · obtain ⟨⟨g1, g2⟩, ⟨g3, g4⟩, ⟨g5, g6⟩, g7, g8⟩ := okFour_iff.1 hok
    obtain ⟨a, rfl⟩ := Int.eq_ofNat_of_zero_le g1
    obtain ⟨b, rfl⟩ := Int.eq_ofNat_of_zero_le g3
    obtain ⟨c, rfl⟩ := Int.eq_ofNat_of_zero_le g5
    obtain ⟨d, rfl⟩ := Int.eq_ofNat_of_zero_le g7
    have HX : Hid (togX (noMoreN a b c d) a b c d = togN (noMoreN a b c d) a b c d (lenF a b c d)) := togX_ok hok
    have HY := hide (togX_ok (may := fun _ => true) hok)
    have HF := hide (fourR_ok hok)
    have HK := hide hok
    clear hok
    go_enter Try.func37, Try.ntmps37
    go_wp2_with fail
    refine (fourS_c a b c d true _ HK.out).mono ?_
    rintro e w2 ⟨rfl, hb2⟩
    have hs2 := hb2.size
    obtain ⟨hv0, hv1, hv2, hv3⟩ := held4 hb2 (by omega) hW0 hW1 hW2 hW3
    have hbw2 := hbW.trans (hb2.mono hbW.size)
    go_wp2_with fail
    refine (FoursS_c a b c d _).mono ?_
    rw [HF.out]
    rintro e w3 ⟨vl, rfl, hsl, hb3⟩
    have hrl := hsl.rd
    have hs3 := hb3.size
    obtain ⟨hu0, hu1, hu2, hu3⟩ := held4 hb3 (by omega) hv0 hv1 hv2 hv3
    have hgl : w.heap.size < w3.heap.size := by omega
    have hbw3 : Below w.heap.size w w3 := below_to' hbw2 hb3
    have l1 : a ≤ 8 := by omega
    have l2 : b ≤ 8 := by omega
    have l3 : c ≤ 8 := by omega
    have l4 : d ≤ 8 := by omega
    have hN := lenF_bd a b c d
    have hN20 : lenF a b c d ≤ 20 := by omega
    have hlen := rowL_len (a - d) (lenF a b c d)
    have hat : ∀ i, i < lenF a b c d → atL (rowL (a - d) (lenF a b c d)) i = ((a - d + i : Nat) : Int) := fun i hi => rowL_at hi
    have hbdS := fun m => togN_bd (noMoreN a b c d) (a := a) (b := b) (c := c) (d := d) (by omega) m
    have hbdA := fun m => togN_bd (fun _ => true) (a := a) (b := b) (c := c) (d := d) (by omega) m
    obtain ⟨N, hNe⟩ : ∃ N, lenF a b c d = N := ⟨_, rfl⟩
    rw [hNe] at hrl HX HY hN hN20 hlen hat
    simp only [hNe] at hbdS hbdA
    clear hNe hsl hb2 hb3 hv0 hv1 hv2 hv3 hW0 hW1 hW2 hW3 hW
    obtain ⟨A, cp, rfl, h2, h3, _⟩ := id hrl
    have h4 := hrl.at
    rw [hlen] at h2 h4 ⊢
    clear hlen hrl
    go_wp2_with fail
    go_loopw [5, 6, 7, 8] (fun s q x n wr => ∃ k : Nat, k ≤ N ∧ x = .int .i64 k ∧ s = .int .i64 (togN (noMoreN a b c d) a b c d k) ∧ q = .int .i64 (togN (fun _ => true) a b c d k) ∧ Below w3.heap.size w3 wr) (fun _ _ x _ _ => N - (intOf x).toNat)
    case atStart => exact ⟨0, by omega, rfl, rfl, rfl, Below.refl _ _⟩
    case round =>
      obtain ⟨k, hk, rfl, rfl, rfl, hbel⟩ := hrel
      by_cases hlt : k < N
      · obtain ⟨g, off, rfl, hg, hcl⟩ := h4 (by omega)
        have hck := (hbel.cell (p := ⟨g, off + k, none⟩) hg).trans (hcl k hlt)
        obtain ⟨q0, q1, q2, q3⟩ := held4 hbel hgl hu0 hu1 hu2 hu3
        have hsz := hbel.size
        have hgw : g < wr.heap.size := by omega
        have hGw : w.heap.size < wr.heap.size := by omega
        have hik : (k : Int) < (N : Int) := by omega
        obtain ⟨x, hx⟩ : ∃ x, a - d + k = x := ⟨_, rfl⟩
        have hS := hbdS k
        have hA := hbdA k
        have hS1 := (hbdS (k + 1)).2 (by omega)
        have hA1 := (hbdA (k + 1)).2 (by omega)
        have HS := hide (togN_succ (noMoreN a b c d) a b c d k)
        have HA := hide (togN_succ (fun _ => true) a b c d k)
        have hwn := wayX_nonneg a b c d x
        rw [hx] at HS HA
        rw [hat k hlt, hx] at hck
        have hA1' := hA1
        rw [HA.out, if_pos rfl] at hA1'
        rw [HS.out] at hS1
        obtain ⟨n1, n2, n3, m1, m2, m3, f1, f2, hx30'⟩ := tog_x hN hlt hx l2
        have hx30 := hx30' l1
        clear m1 m2 m3 hx30'
        have hkN : k ≤ N := hk
        obtain ⟨X, hX⟩ : ∃ X, (x : Int) = X := ⟨_, rfl⟩
        have K1 := hide fun w => shifted_c a b c d X w ⟨by omega, by omega⟩ ⟨by omega, by omega⟩ ⟨by omega, by omega⟩ ⟨by omega, by omega⟩ (hX ▸ hx30)
        have K2 := hide fun w => wayS_c a b c d x X ((b : Int) + a - X) ((c : Int) + a - X) ((d : Int) - a + X) w l1 l2 l3 l4 n1 n2 n3 hX.symm (by rw [← hX, f1]) (by rw [← hX, f2]) (by rw [← hX])
        have K3 := hide fun w => waysS_c a b c d w (by omega) (by omega)
        have HM : Hid ((noMoreN a b c d) x = decide (wayX a b c d x ≤ waysN a b c d)) := by show _ = _; first | rfl | (rw [← hX]; simp [atLeastA])
        rw [hX] at hck
        obtain ⟨Y, hY⟩ : ∃ Y, wayX a b c d x = Y := ⟨_, rfl⟩
        obtain ⟨Z, hZ⟩ : ∃ Y, waysN a b c d = Y := ⟨_, rfl⟩
        rw [hY] at HS HA K2 hA1' hS1 hwn
        rw [hZ] at K3
        try rw [hY, hZ] at HM
        obtain ⟨S, hSe⟩ : ∃ Y, togN (noMoreN a b c d) a b c d k = Y := ⟨_, rfl⟩
        obtain ⟨Q, hQe⟩ : ∃ Y, togN (fun _ => true) a b c d k = Y := ⟨_, rfl⟩
        rw [hSe] at HS hS hS1 ⊢
        rw [hQe] at HA hA hA1' ⊢
        have hQb := hA.2 hkN
        have hSb := hS.2 hkN
        have hQ0 := hA.1
        have hS0 := hS.1
        have HL : Hid (∀ wz : World, Below wr.heap.size wr wz → Below wr.heap.size wr wz ∧ wz.cell? ⟨g, off + k, none⟩ = some (.int .i64 X) ∧ wz.cell? ⟨w.heap.size, 0, none⟩ = some (.int .i64 a) ∧ wz.cell? ⟨w.heap.size, 1, none⟩ = some (.int .i64 b) ∧ wz.cell? ⟨w.heap.size, 2, none⟩ = some (.int .i64 c) ∧ wz.cell? ⟨w.heap.size, 3, none⟩ = some (.int .i64 d)) := fun wz hz => ⟨hz, (hz.cell (p := ⟨g, off + k, none⟩) hgw).trans hck, held4 hz hGw q0 q1 q2 q3⟩
        clear n1 n2 n3 f1 f2 hx30 hcl h4 hat hbdS hbdA hX hY hZ hSe hQe hA1 hx hA hS
        go_wp2_with fail
        clear q0 q1 q2 q3 hck
        go_region_held3 (fun wz => Below wr.heap.size wr wz ∧ wz.cell? ⟨g, off + k, none⟩ = some (.int .i64 X) ∧ wz.cell? ⟨w.heap.size, 0, none⟩ = some (.int .i64 a) ∧ wz.cell? ⟨w.heap.size, 1, none⟩ = some (.int .i64 b) ∧ wz.cell? ⟨w.heap.size, 2, none⟩ = some (.int .i64 c) ∧ wz.cell? ⟨w.heap.size, 3, none⟩ = some (.int .i64 d))
          (first | exact HL.out _ (Below.drew (Below.refl _ _)) | (go_split_ands; exact HL.out _ (below_to' (by assumption) (by assumption))))
          (first | (go_at_call 53; with_reducible refine (K1.out _).mono ?_; rintro e wy1 ⟨rfl, hby1⟩) | (go_at_call 82; with_reducible refine (K2.out _).mono ?_; rintro e wy2 ⟨rfl, hby2⟩))
        have hbz : Below wr.heap.size wr wy2 := below_to' (Below.trans (b := wr.drew) (Below.drew (Below.refl _ _)) hby1) hby2
        obtain ⟨_, hck, q0, q1, q2, q3⟩ := HL.out _ hbz
        by_cases cm : Y ≤ Z
        · rw [HM.out, decide_eq_true cm] at HS hS1
          have hS1' : S + Y ≤ 4294967296 := by simpa using hS1
          clear hS1
          go_wp2_with fail
          refine (K3.out _).mono ?_
          rintro e w5 ⟨rfl, hb5⟩
          go_wp2_with fail
          go_roundw
          case rel => exact ⟨k + 1, by omega, by go_num, by rw [HS.out]; simp, by rw [HA.out]; simp, below_to' (below_to' hbel hbz) hb5⟩
          case measure => simp [intOf]; omega
        · rw [HM.out, decide_eq_false cm] at HS
          clear hS1
          go_wp2_with fail
          refine (K3.out _).mono ?_
          rintro e w5 ⟨rfl, hb5⟩
          go_wp2_with fail
          go_roundw
          case rel => exact ⟨k + 1, by omega, by go_num, by rw [HS.out]; simp, by rw [HA.out]; simp, below_to' (below_to' hbel hbz) hb5⟩
          case measure => simp [intOf]; omega
      · skip
        obtain rfl : k = N := by omega
        obtain ⟨S, hSe⟩ : ∃ Y, togN (noMoreN a b c d) a b c d k = Y := ⟨_, rfl⟩
        obtain ⟨Q, hQe⟩ : ∃ Y, togN (fun _ => true) a b c d k = Y := ⟨_, rfl⟩
        rw [hSe] at HX ⊢
        rw [hQe] at HY ⊢
        clear h4 hat hbdS hbdA hSe hQe
        go_wp2_with fail
        go_ret2
        refine ⟨?_, hbw3.trans (hbel.mono hbw3.size)⟩
        show _ = Ending.returned (Value.tuple #[.int .i64 (togX (noMoreN a b c d) a b c d), .int .i64 (togX (fun _ => true) a b c d)])
        rw [HX.out, HY.out]
        rfl
end Go.Proofs.Ytgclgcfhcomplaa
