/-
  The statements FnFourChance and FnFourBoth: for every code they return true and write nothing that was there.
-/
import Derived.Test.YtgclgcfhcomplaaTogS
import Derived.Test.YtgclgcfhcomplaaFourD
namespace Go.Proofs.Ytgclgcfhcomplaa
open Go.RowKit

set_option maxHeartbeats 2000000 in
theorem FnFourChance_c (A : Option Addr) (n c : Nat) (bs : List Int) (w : World) (hl : bs.length = n) (hnc : n ≤ c) (hc : c ≤ 9223372036854775807) (hr : Rd8 w w.heap.size A bs) :
    Calls Try.prog 10 #[.slice A n c] w fun e w' => e = .returned (.bool true) ∧ Below w.heap.size w w' := by
  by_cases hbig : 1048576 < n
  · go_enter Try.func10, Try.ntmps10
    go_wp2
    go_ret
    exact ⟨rfl, Below.refl _ _⟩
  · go_enter Try.func10, Try.ntmps10
    go_wp2_with fail
    refine (DrawFourChance_c A n c bs _ hl hnc hc hr).mono ?_
    rintro e w1 ⟨a, b, c0, d, rfl, ha, hb, hc0, hd, hb1⟩
    obtain ⟨W, hW, hbW1, hWs, hW0, hW1, hW2, hW3⟩ := box4 w1 24 (.int .i64 a) (.int .i64 b) (.int .i64 c0) (.int .i64 d)
    have hbW : Below w.heap.size w W := below_to' hb1 hbW1
    obtain ⟨G, hGe⟩ : ∃ G, w1.heap.size = G := ⟨_, rfl⟩
    rw [hGe] at hWs hW0 hW1 hW2 hW3
    cases hok : okFour a b c0 d
    · have HX := hide (togX_bad (may := atLeastA a.toNat) hok)
      have HY := hide (togX_bad (may := fun _ => true) hok)
      clear hok
      go_wp2_with fail
      refine (FourChanceI_c _ _ _ _ _).mono ?_
      rw [HX.out, HY.out]
      rintro e w2 ⟨rfl, hb2⟩
      obtain ⟨t0, t1, t2, t3⟩ := held4 hb2 (by omega) hW0 hW1 hW2 hW3
      go_wp2_with fail
      refine (FourChanceS_c _ _ _ _ _).mono ?_
      rw [HX.out, HY.out]
      rintro e w3 ⟨rfl, hb3⟩
      go_wp2_with fail
      go_ret
      exact ⟨rfl, by (repeat (first | exact Below.refl _ _ | assumption | refine Below.setCell ?_ (by first | (simp; done) | omega | (simp; omega) | (simp at *; omega)) _ | refine Below.drew ?_ | refine below_drewN ?_ _ | refine below_alloc' ?_ _ | refine below_to' ?_ (by assumption)))⟩
    · obtain ⟨⟨g1, g2⟩, ⟨g3, g4⟩, ⟨g5, g6⟩, g7, g8⟩ := okFour_iff.1 hok
      obtain ⟨a, rfl⟩ := Int.eq_ofNat_of_zero_le g1
      obtain ⟨b, rfl⟩ := Int.eq_ofNat_of_zero_le g3
      obtain ⟨c0, rfl⟩ := Int.eq_ofNat_of_zero_le g5
      obtain ⟨d, rfl⟩ := Int.eq_ofNat_of_zero_le g7
      have HX : Hid (togX (atLeastA (a : Int).toNat) a b c0 d = togN (atLeastA a) a b c0 d (lenF a b c0 d)) := togX_ok hok
      have HY := hide (togX_ok (may := fun _ => true) hok)
      have HF := hide (fw_ok hok)
      have HR := hide (fourR_ok hok)
      have hall := togN_all a b c0 d
      have hge := togN_ge (may := atLeastA a) (a := a) (b := b) (c := c0) (d := d) (by simp [atLeastA])
      have hle := togN_le (atLeastA a) a b c0 d
      have heq := fun h => chance_all (a := a) (b := b) (c := c0) (d := d) h
      have hbS := togN_bd (atLeastA a) (a := a) (b := b) (c := c0) (d := d) (by omega) (lenF a b c0 d)
      have hlen := rowL_len (a - d) (lenF a b c0 d)
      have hN := lenF_bd a b c0 d
      have hat : atL (rowL (a - d) (lenF a b c0 d)) 0 = ((a - d : Nat) : Int) := by rw [rowL_at (by omega), Nat.add_zero]
      rw [← hall] at HF
      obtain ⟨xs, hxs⟩ : ∃ xs, rowL (a - d) (lenF a b c0 d) = xs := ⟨_, rfl⟩
      rw [hxs] at HR hlen hat
      obtain ⟨S, hS⟩ : ∃ S, togN (atLeastA a) a b c0 d (lenF a b c0 d) = S := ⟨_, rfl⟩
      obtain ⟨Q, hQ⟩ : ∃ S, togN (fun _ => true) a b c0 d (lenF a b c0 d) = S := ⟨_, rfl⟩
      obtain ⟨Y, hY⟩ : ∃ S, waysN a b c0 d = S := ⟨_, rfl⟩
      rw [hS] at HX hge hle heq hbS
      rw [hQ] at HY HF hle heq
      rw [hY] at HF hge
      have hS0 := hbS.1
      have hsd : ¬ S < 0 := by omega
      have hl0 : 0 < xs.length := by omega
      clear hok hall hxs hS hQ hY hbS hlen hN
      go_wp2_with fail
      refine (FourChanceI_c _ _ _ _ _).mono ?_
      rw [HX.out, HY.out]
      rintro e w2 ⟨rfl, hb2⟩
      obtain ⟨t0, t1, t2, t3⟩ := held4 hb2 (by omega) hW0 hW1 hW2 hW3
      have hs2 := hb2.size
      go_wp2_with fail
      refine (FourChanceS_c _ _ _ _ _).mono ?_
      rw [HX.out, HY.out]
      rintro e w3 ⟨rfl, hb3⟩
      obtain ⟨t0, t1, t2, t3⟩ := held4 hb3 (by omega) t0 t1 t2 t3
      have hs3 := hb3.size
      go_wp2_with fail
      refine (FourWaysI_c _ _ _ _ _).mono ?_
      rw [HF.out.1, HF.out.2]
      rintro e w4 ⟨rfl, hb4⟩
      obtain ⟨t0, t1, t2, t3⟩ := held4 hb4 (by omega) t0 t1 t2 t3
      have hs4 := hb4.size
      go_wp2_with fail
      refine (FoursI_c _ _ _ _ _).mono ?_
      rw [HR.out]
      rintro e w5 ⟨v5, rfl, hs5, hb5⟩
      obtain ⟨t0, t1, t2, t3⟩ := held4 hb5 (by omega) t0 t1 t2 t3
      have hr5 := hs5.rd
      obtain ⟨A5, c5, rfl, hc5, hm5, _⟩ := id hr5
      obtain ⟨g, off, rfl, hg, hcl⟩ := hr5.at hl0
      have hcz := hcl 0 hl0
      rw [hat] at hcz
      simp only [Nat.add_zero] at hcz
      have hl0' : (0 : Int) < (xs.length : Int) := by omega
      have hx1 : ¬ S < Y := by omega
      have hx2 : ¬ Q < S := by omega
      have hx1' : Y ≤ S := hge
      have heq' : ¬ ((a - d : Nat) : Int) < (a : Int) → S = Q := fun h => heq (by omega)
      obtain ⟨y, hy⟩ : ∃ y, ((a - d : Nat) : Int) = y := ⟨_, rfl⟩
      rw [hy] at hcz heq'
      clear hy
      by_cases cm : y < (a : Int)
      · clear hcl hat heq
        go_wp2_with fail
        go_quiet (fail)
        go_wp2_with fail
        go_ret
        exact ⟨rfl, below_drewN (by (repeat (first | exact Below.refl _ _ | assumption | refine Below.setCell ?_ (by first | (simp; done) | omega | (simp; omega) | (simp at *; omega)) _ | refine Below.drew ?_ | refine below_drewN ?_ _ | refine below_alloc' ?_ _ | refine below_to' ?_ (by assumption)))) _⟩
      · have hSQ : (S == Q) = true := beq_iff_eq.2 (heq' cm)
        have hcm : decide (y < (a : Int)) = false := decide_eq_false cm
        clear hcl hat heq heq'
        go_wp2_with fail
        go_quiet (fail)
        go_wp2_with fail
        go_ret
        exact ⟨rfl, below_drewN (by (repeat (first | exact Below.refl _ _ | assumption | refine Below.setCell ?_ (by first | (simp; done) | omega | (simp; omega) | (simp at *; omega)) _ | refine Below.drew ?_ | refine below_drewN ?_ _ | refine below_alloc' ?_ _ | refine below_to' ?_ (by assumption)))) _⟩

set_option maxHeartbeats 2000000 in
theorem FnFourBoth_c (A : Option Addr) (n c : Nat) (bs : List Int) (w : World) (hl : bs.length = n) (hnc : n ≤ c) (hc : c ≤ 9223372036854775807) (hr : Rd8 w w.heap.size A bs) :
    Calls Try.prog 8 #[.slice A n c] w fun e w' => e = .returned (.bool true) ∧ Below w.heap.size w w' := by
  by_cases hbig : 1048576 < n
  · go_enter Try.func8, Try.ntmps8
    go_wp2
    go_ret
    exact ⟨rfl, Below.refl _ _⟩
  · go_enter Try.func8, Try.ntmps8
    go_wp2_with fail
    refine (DrawFourBoth_c A n c bs _ hl hnc hc hr).mono ?_
    rintro e w1 ⟨a, b, c0, d, rfl, ha, hb, hc0, hd, hb1⟩
    obtain ⟨W, hW, hbW1, hWs, hW0, hW1, hW2, hW3⟩ := box4 w1 24 (.int .i64 a) (.int .i64 b) (.int .i64 c0) (.int .i64 d)
    have hbW : Below w.heap.size w W := below_to' hb1 hbW1
    obtain ⟨G, hGe⟩ : ∃ G, w1.heap.size = G := ⟨_, rfl⟩
    rw [hGe] at hWs hW0 hW1 hW2 hW3
    cases hok : okFour a b c0 d
    · have HX := hide (togX_bad (may := noMoreN a.toNat b.toNat c0.toNat d.toNat) hok)
      have HY := hide (togX_bad (may := fun _ => true) hok)
      clear hok
      go_wp2_with fail
      refine (FourBothI_c _ _ _ _ _).mono ?_
      rw [HX.out, HY.out]
      rintro e w2 ⟨rfl, hb2⟩
      obtain ⟨t0, t1, t2, t3⟩ := held4 hb2 (by omega) hW0 hW1 hW2 hW3
      go_wp2_with fail
      refine (FourBothS_c _ _ _ _ _).mono ?_
      rw [HX.out, HY.out]
      rintro e w3 ⟨rfl, hb3⟩
      go_wp2_with fail
      go_ret
      exact ⟨rfl, by (repeat (first | exact Below.refl _ _ | assumption | refine Below.setCell ?_ (by first | (simp; done) | omega | (simp; omega) | (simp at *; omega)) _ | refine Below.drew ?_ | refine below_drewN ?_ _ | refine below_alloc' ?_ _ | refine below_to' ?_ (by assumption)))⟩
    · obtain ⟨⟨g1, g2⟩, ⟨g3, g4⟩, ⟨g5, g6⟩, g7, g8⟩ := okFour_iff.1 hok
      obtain ⟨a, rfl⟩ := Int.eq_ofNat_of_zero_le g1
      obtain ⟨b, rfl⟩ := Int.eq_ofNat_of_zero_le g3
      obtain ⟨c0, rfl⟩ := Int.eq_ofNat_of_zero_le g5
      obtain ⟨d, rfl⟩ := Int.eq_ofNat_of_zero_le g7
      have hok2 : okFour c0 d a b = true := okFour_iff.2 ⟨⟨g5, g6⟩, ⟨g7, g8⟩, ⟨g1, g2⟩, g3, g4⟩
      have HX : Hid (togX (noMoreN (a : Int).toNat (b : Int).toNat (c0 : Int).toNat (d : Int).toNat) a b c0 d = togN (noMoreN a b c0 d) a b c0 d (lenF a b c0 d)) := togX_ok hok
      have HX2 : Hid (togX (noMoreN (c0 : Int).toNat (d : Int).toNat (a : Int).toNat (b : Int).toNat) c0 d a b = togN (noMoreN c0 d a b) c0 d a b (lenF c0 d a b)) := togX_ok hok2
      have HY := hide (togX_ok (may := fun _ => true) hok)
      have HY2 := hide (togX_ok (may := fun _ => true) hok2)
      have HF := hide (fw_ok hok)
      have hall := togN_all a b c0 d
      have hge := togN_ge (may := noMoreN a b c0 d) (a := a) (b := b) (c := c0) (d := d) (noMore_self a b c0 d)
      have hle := togN_le (noMoreN a b c0 d) a b c0 d
      have hbS := togN_bd (noMoreN a b c0 d) (a := a) (b := b) (c := c0) (d := d) (by omega) (lenF a b c0 d)
      rw [both_swap] at HX2
      rw [all_swap] at HY2
      rw [← hall] at HF
      obtain ⟨S, hS⟩ : ∃ S, togN (noMoreN a b c0 d) a b c0 d (lenF a b c0 d) = S := ⟨_, rfl⟩
      obtain ⟨Q, hQ⟩ : ∃ S, togN (fun _ => true) a b c0 d (lenF a b c0 d) = S := ⟨_, rfl⟩
      obtain ⟨Y, hY⟩ : ∃ S, waysN a b c0 d = S := ⟨_, rfl⟩
      rw [hS] at HX HX2 hge hle hbS
      rw [hQ] at HY HY2 HF hle
      rw [hY] at HF hge
      have hS0 := hbS.1
      have hsd : ¬ S < 0 := by omega
      clear hok hok2 hall hS hQ hY hbS
      go_wp2_with fail
      refine (FourBothI_c _ _ _ _ _).mono ?_
      rw [HX.out, HY.out]
      rintro e w2 ⟨rfl, hb2⟩
      obtain ⟨t0, t1, t2, t3⟩ := held4 hb2 (by omega) hW0 hW1 hW2 hW3
      have hs2 := hb2.size
      go_wp2_with fail
      refine (FourBothS_c _ _ _ _ _).mono ?_
      rw [HX.out, HY.out]
      rintro e w3 ⟨rfl, hb3⟩
      obtain ⟨t0, t1, t2, t3⟩ := held4 hb3 (by omega) t0 t1 t2 t3
      have hs3 := hb3.size
      go_wp2_with fail
      refine (FourWaysI_c _ _ _ _ _).mono ?_
      rw [HF.out.1, HF.out.2]
      rintro e w4 ⟨rfl, hb4⟩
      obtain ⟨t0, t1, t2, t3⟩ := held4 hb4 (by omega) t0 t1 t2 t3
      have hs4 := hb4.size
      go_wp2_with fail
      refine (FourBothI_c _ _ _ _ _).mono ?_
      rw [HX2.out, HY2.out]
      rintro e w5 ⟨rfl, hb5⟩
      go_wp2_with fail
      go_ret
      exact ⟨ret_bool (by first | (simp; done) | (simp; omega)), by (repeat (first | exact Below.refl _ _ | assumption | refine Below.setCell ?_ (by first | (simp; done) | omega | (simp; omega) | (simp at *; omega)) _ | refine Below.drew ?_ | refine below_drewN ?_ _ | refine below_alloc' ?_ _ | refine below_to' ?_ (by assumption)))⟩
end Go.Proofs.Ytgclgcfhcomplaa
