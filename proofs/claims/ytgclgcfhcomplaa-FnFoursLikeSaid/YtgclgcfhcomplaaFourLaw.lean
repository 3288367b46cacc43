/-
  The statement FnFoursLike: for every code it returns true and writes nothing that was there.
-/
import Derived.Test.YtgclgcfhcomplaaFourD
import Derived.Test.YtgclgcfhcomplaaHelp
namespace Go.Proofs.Ytgclgcfhcomplaa
open Go.RowKit

theorem fours_e1 (a d N : Nat) (h : 1 ≤ N) : (((a - d + (N - 1) : Nat) : Int) - ((a - d : Nat) : Int) + 1 == (N : Int)) = true := beq_iff_eq.2 (by omega)
theorem fours_e2 (a d : Nat) : ((0 : Int) < (a : Int) - d → (((a - d : Nat) : Int) == (a : Int) - d) = true) ∧ (¬ (0 : Int) < (a : Int) - d → (((a - d : Nat) : Int) == 0) = true) :=
  ⟨fun h => beq_iff_eq.2 (by omega), fun h => beq_iff_eq.2 (by omega)⟩

set_option maxHeartbeats 2000000 in
theorem FnFoursLike_c (A : Option Addr) (n c : Nat) (bs : List Int) (w : World) (hl : bs.length = n) (hnc : n ≤ c) (hc : c ≤ 9223372036854775807) (hr : Rd8 w w.heap.size A bs) :
    Calls Try.prog 3 #[.slice A n c] w fun e w' => e = .returned (.bool true) ∧ Below w.heap.size w w' := by
  by_cases hbig : 1048576 < n
  · go_enter Try.func3, Try.ntmps3
    go_wp2
    go_ret
    exact ⟨rfl, Below.refl _ _⟩
  · go_enter Try.func3, Try.ntmps3
    go_wp2_with fail
    refine (DrawFoursLike_c A n c bs _ hl hnc hc hr).mono ?_
    rintro e w1 ⟨a, b, c0, d, rfl, ha, hb, hc0, hd, hb1⟩
    have hG := heap_alloc_new w1 (.cells #[.int .i64 a, .int .i64 b, .int .i64 c0, .int .i64 d] 24)
    have hbW := below_alloc' hb1 (.cells #[.int .i64 a, .int .i64 b, .int .i64 c0, .int .i64 d] 24)
    have hWs : (w1.alloc (.cells #[.int .i64 a, .int .i64 b, .int .i64 c0, .int .i64 d] 24)).heap.size = w1.heap.size + 1 := by simp
    obtain ⟨W, hW⟩ : ∃ W, w1.alloc (.cells #[.int .i64 a, .int .i64 b, .int .i64 c0, .int .i64 d] 24) = W := ⟨_, rfl⟩
    rw [hW] at hG hbW hWs
    obtain ⟨G, hGe⟩ : ∃ G, w1.heap.size = G := ⟨_, rfl⟩
    rw [hGe] at hG hWs
    have q0 : W.cell? ⟨G, 0, none⟩ = _ := blk_cell hG 0
    have q1 : W.cell? ⟨G, 1, none⟩ = _ := blk_cell hG 1
    have q2 : W.cell? ⟨G, 2, none⟩ = _ := blk_cell hG 2
    have q3 : W.cell? ⟨G, 3, none⟩ = _ := blk_cell hG 3
    simp at q0 q1 q2 q3
    cases hok : okFour a b c0 d
    · have HX := hide (fourR_bad hok)
      clear hok
      go_wp2_with fail
      refine (FoursI_c _ _ _ _ _).mono ?_
      rw [HX.out]
      rintro e w2 ⟨v2, rfl, hs2, hb2⟩
      have hr2 := hs2.rd
      obtain ⟨A2, c2, rfl, hc2, hm2, _⟩ := id hr2
      have hG2 := (hb2.block G (by omega)).trans hG
      have t0 : w2.cell? ⟨G, 0, none⟩ = _ := blk_cell hG2 0
      have t1 : w2.cell? ⟨G, 1, none⟩ = _ := blk_cell hG2 1
      have t2 : w2.cell? ⟨G, 2, none⟩ = _ := blk_cell hG2 2
      have t3 : w2.cell? ⟨G, 3, none⟩ = _ := blk_cell hG2 3
      simp at t0 t1 t2 t3
      go_wp2_with fail
      refine (FoursS_c _ _ _ _ _).mono ?_
      rw [HX.out]
      rintro e w3 ⟨v3, rfl, hs3, hb3⟩
      go_wp2_with fail
      refine (equalInts_c _ _ [] [] true _ (hr2.below hb3) hs3.rd (by simp)).mono ?_
      rintro e w4 ⟨rfl, hb4⟩
      have hb24 : Below w2.heap.size w2 w4 := below_to' hb3 hb4
      have t0 : w4.cell? ⟨G, 0, none⟩ = _ := (hb24.cell (blk_lt hG2)).trans t0
      have t1 : w4.cell? ⟨G, 1, none⟩ = _ := (hb24.cell (blk_lt hG2)).trans t1
      have t2 : w4.cell? ⟨G, 2, none⟩ = _ := (hb24.cell (blk_lt hG2)).trans t2
      have t3 : w4.cell? ⟨G, 3, none⟩ = _ := (hb24.cell (blk_lt hG2)).trans t3
      go_wp2_with fail
      refine (FoursS_c _ _ _ _ _).mono ?_
      rw [HX.out]
      rintro e w5 ⟨v5, rfl, hs5, hb5⟩
      go_wp2_with fail
      refine (equalInts_c _ _ [] [] true _ ((hr2.below hb24).below hb5) hs5.rd (by simp)).mono ?_
      rintro e w6 ⟨rfl, hb6⟩
      go_wp2_with fail
      go_ret
      exact ⟨rfl, by (repeat (first | exact Below.refl _ _ | assumption | refine Below.setCell ?_ (by first | (simp; done) | omega | (simp; omega) | (simp at *; omega)) _ | refine Below.drew ?_ | refine below_drewN ?_ _ | refine below_alloc' ?_ _ | refine below_to' ?_ (by assumption)))⟩
    · obtain ⟨⟨g1, g2⟩, ⟨g3, g4⟩, ⟨g5, g6⟩, g7, g8⟩ := okFour_iff.1 hok
      obtain ⟨a, rfl⟩ := Int.eq_ofNat_of_zero_le g1
      obtain ⟨b, rfl⟩ := Int.eq_ofNat_of_zero_le g3
      obtain ⟨c0, rfl⟩ := Int.eq_ofNat_of_zero_le g5
      obtain ⟨d, rfl⟩ := Int.eq_ofNat_of_zero_le g7
      have HX := hide (fourR_ok hok)
      obtain ⟨hN1, hN2, hN3, hN4, _⟩ := lenF_bd a b c0 d
      have hlen := rowL_len (a - d) (lenF a b c0 d)
      have hat : ∀ i, i < lenF a b c0 d → atL (rowL (a - d) (lenF a b c0 d)) i = ((a - d + i : Nat) : Int) := fun i hi => rowL_at hi
      obtain ⟨N, hNe⟩ : ∃ N, lenF a b c0 d = N := ⟨_, rfl⟩
      rw [hNe] at HX hN1 hN2 hN3 hN4 hlen hat
      obtain ⟨xs, hxs⟩ : ∃ xs, rowL (a - d) N = xs := ⟨_, rfl⟩
      rw [hxs] at HX hlen hat
      have HLen := hide hlen
      clear hok hNe hxs hlen
      go_wp2_with fail
      refine (FoursI_c _ _ _ _ _).mono ?_
      rw [HX.out]
      rintro e w2 ⟨v2, rfl, hs2, hb2⟩
      have hr2 := hs2.rd
      obtain ⟨A2, c2, rfl, hc2, hm2, _⟩ := id hr2
      have hlz : ((xs.length : Int) == 0) = false := beq_eq_false_iff_ne.2 (by rw [HLen.out]; omega)
      have hG2 := (hb2.block G (by omega)).trans hG
      have t0 : w2.cell? ⟨G, 0, none⟩ = _ := blk_cell hG2 0
      have t1 : w2.cell? ⟨G, 1, none⟩ = _ := blk_cell hG2 1
      have t2 : w2.cell? ⟨G, 2, none⟩ = _ := blk_cell hG2 2
      have t3 : w2.cell? ⟨G, 3, none⟩ = _ := blk_cell hG2 3
      simp at t0 t1 t2 t3
      go_wp2_with fail
      refine (FoursS_c _ _ _ _ _).mono ?_
      rw [HX.out]
      rintro e w3 ⟨v3, rfl, hs3, hb3⟩
      go_wp2_with fail
      refine (equalInts_c _ _ xs xs true _ (hr2.below hb3) hs3.rd (by simp)).mono ?_
      rintro e w4 ⟨rfl, hb4⟩
      have hb24 : Below w2.heap.size w2 w4 := below_to' hb3 hb4
      have hr4 := hr2.below hb24
      have t0 : w4.cell? ⟨G, 0, none⟩ = _ := (hb24.cell (blk_lt hG2)).trans t0
      have t1 : w4.cell? ⟨G, 1, none⟩ = _ := (hb24.cell (blk_lt hG2)).trans t1
      have t2 : w4.cell? ⟨G, 2, none⟩ = _ := (hb24.cell (blk_lt hG2)).trans t2
      have t3 : w4.cell? ⟨G, 3, none⟩ = _ := (hb24.cell (blk_lt hG2)).trans t3
      have hbw4 : Below w.heap.size w w4 := below_to' (below_to' hbW (by rwa [hW] at *)) hb24
      have K1 := hide fun m => isIn_c _ xs a (a - (a - d)) (w4.drewN m) (hr4.drewN m) (by rw [HLen.out]; omega) (by rw [hat _ (by omega)]; congr 1; omega)
      have K2 := hide fun m => ascends_c _ xs (w4.drewN m) (hr4.drewN m) (fun j hj => by rw [HLen.out] at hj; rw [hat _ (by omega), hat _ (by omega)]; omega)
      obtain ⟨g, off, rfl, hg, hcl⟩ := hr4.at (by rw [HLen.out]; omega)
      have hc1 := hcl 0 (by rw [HLen.out]; omega)
      have hc2 := hcl (N - 1) (by rw [HLen.out]; omega)
      have hy := hat 0 (by omega)
      have hz := hat (N - 1) (by omega)
      rw [hy] at hc1
      simp only [Nat.add_zero] at hc1
      rw [hz] at hc2
      rw [HLen.out] at K1 K2 hlz ⊢
      have hw1 : IntKind.i64.wrap ((N : Int) - 1) = ((N - 1 : Nat) : Int) := by rw [show (N : Int) - 1 = ((N - 1 : Nat) : Int) from by omega]; exact IntWalk.i64_in _ (by omega)
      have hi0 : 0 < N := by omega
      have hi0' : (0 : Int) < (N : Int) := by omega
      have hi1 : ((N - 1 : Nat) : Int) < (N : Int) := by omega
      have hE := fours_e1 a d N hN1
      obtain ⟨y, hye⟩ : ∃ y, ((a - d : Nat) : Int) = y := ⟨_, rfl⟩
      obtain ⟨z, hze⟩ : ∃ y, ((a - d + (N - 1) : Nat) : Int) = y := ⟨_, rfl⟩
      have hE2 := fours_e2 a d
      rw [hye] at hc1 hE hE2
      rw [hze] at hc2 hE
      have hw2 : IntKind.i64.wrap (z - y) = z - y := IntWalk.i64_in _ (by omega)
      have hw3 : IntKind.i64.wrap (z - y + 1) = z - y + 1 := IntWalk.i64_in _ (by omega)
      have hw4 : IntKind.i64.wrap ((a : Int) - d) = (a : Int) - d := IntWalk.i64_in _ (by omega)
      obtain ⟨i0, hi0e⟩ : ∃ i0, N - 1 = i0 := ⟨_, rfl⟩
      rw [hi0e] at hc2 hw1 hi1
      by_cases cm : (0 : Int) < (a : Int) - d
      · have hE3 := hE2.1 cm
        clear hat hcl hy hz hye hze hi0e hN1 hN2 hN3 hN4 hE2
        go_wp2_with fail
        go_quiet ((first | (go_at_call 16; exact quiet_eq (K1.out _)) | (go_at_call 17; exact Calls.quiet_of (K2.out _))))
        go_wp2_with fail
        go_ret
        exact ⟨rfl, below_drewN hbw4 _⟩
      · have cm' : decide ((0 : Int) < (a : Int) - d) = false := decide_eq_false cm
        have hE3 := hE2.2 cm
        clear hat hcl hy hz hye hze hi0e hN1 hN2 hN3 hN4 hE2
        go_wp2_with fail
        go_quiet ((first | (go_at_call 16; exact quiet_eq (K1.out _)) | (go_at_call 17; exact Calls.quiet_of (K2.out _))))
        go_wp2_with fail
        go_ret
        exact ⟨rfl, below_drewN hbw4 _⟩
end Go.Proofs.Ytgclgcfhcomplaa
