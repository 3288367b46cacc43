/-
  Contracts: the drawers of chapter 9's statements.
-/
import Derived.Test.YtgcpglefkkpdjaaDraw9
namespace Go.Proofs.Ytgcpglefkkpdjaa
open Go.RowKit

set_option maxHeartbeats 400000 in
theorem DrawRoomTried_c (A : Option Addr) (n c : Nat) (bs : List Int) (w : World) (hl : bs.length = n) (hnc : n ≤ c) (hc : c ≤ 9223372036854775807) (hr : Rd8 w w.heap.size A bs) :
    Calls Try.prog 29 #[.slice A n c] w fun e w' => ∃ v xs m, e = .returned (.tuple #[v, .int .i64 m]) ∧ Sl w' w.heap.size v xs ∧ xs.length ≤ 30 ∧ -1000 ≤ m ∧ m ≤ 1000 ∧ Below w.heap.size w w' := by
  go_enter Try.func29, Try.ntmps29
  go_wp2_with fail
  refine (newReader_c A n c bs _ hl hnc hc hr).mono ?_
  rintro e w1 ⟨R, bs', rfl, hbl, hR, ⟨A', c', hrd1⟩, hb1⟩
  have hRw := blk_lt hrd1.blk
  go_wp2_with fail
  refine (stepList_c R c' 0 A' bs' _ hrd1 (by omega) hbl).mono ?_
  rintro e w2 ⟨v, xs, p', rfl, hsl, hxl, hrd2, hp', hold2⟩
  have hb2 : Below w.heap.size w1 w2 := old_belowR hold2 hb1.size hR
  have hsz2 := hold2.size
  obtain ⟨A2, c2, rfl, hc2, hm2, hcell2⟩ := id hsl
  go_wp2_with fail
  refine (one_c R c' p' A' bs' [2, 3, 1, 4, 8, 0, 9] _ _ (hrd2.alloc _) (by omega) hbl (lit_sl _ rfl (by simp) rfl (by simp) (by omega)) (by simp)).mono ?_
  rintro e w3 ⟨⟨x, hx, rfl⟩, hrd3, hon3⟩
  have hx' : -1000 ≤ x ∧ x ≤ 1000 := by simp at hx; omega
  clear hx hcell2
  go_wp2_with fail
  go_ret2
  exact ⟨_, xs, x, rfl, (hsl.alloc _).only2 hon3 hRw hb1.size, hxl, hx'.1, hx'.2, (below_alloc' (hb1.trans hb2) _).trans (hon3.below hR)⟩
set_option maxHeartbeats 400000 in
theorem DrawLeastRoom_c (A : Option Addr) (n c : Nat) (bs : List Int) (w : World) (hl : bs.length = n) (hnc : n ≤ c) (hc : c ≤ 9223372036854775807) (hr : Rd8 w w.heap.size A bs) :
    Calls Try.prog 33 #[.slice A n c] w fun e w' => ∃ v xs m, e = .returned (.tuple #[v, .int .i64 m]) ∧ Sl w' w.heap.size v xs ∧ xs.length ≤ 30 ∧ -1000 ≤ m ∧ m ≤ 1000 ∧ Below w.heap.size w w' := by
  go_enter Try.func33, Try.ntmps33
  go_wp2_with fail
  refine (newReader_c A n c bs _ hl hnc hc hr).mono ?_
  rintro e w1 ⟨R, bs', rfl, hbl, hR, ⟨A', c', hrd1⟩, hb1⟩
  have hRw := blk_lt hrd1.blk
  go_wp2_with fail
  refine (stepList_c R c' 0 A' bs' _ hrd1 (by omega) hbl).mono ?_
  rintro e w2 ⟨v, xs, p', rfl, hsl, hxl, hrd2, hp', hold2⟩
  have hb2 : Below w.heap.size w1 w2 := old_belowR hold2 hb1.size hR
  have hsz2 := hold2.size
  obtain ⟨A2, c2, rfl, hc2, hm2, hcell2⟩ := id hsl
  go_wp2_with fail
  refine (one_c R c' p' A' bs' [2, 3, 1, 4, 8, 0, 9] _ _ (hrd2.alloc _) (by omega) hbl (lit_sl _ rfl (by simp) rfl (by simp) (by omega)) (by simp)).mono ?_
  rintro e w3 ⟨⟨x, hx, rfl⟩, hrd3, hon3⟩
  have hx' : -1000 ≤ x ∧ x ≤ 1000 := by simp at hx; omega
  clear hx hcell2
  go_wp2_with fail
  go_ret2
  exact ⟨_, xs, x, rfl, (hsl.alloc _).only2 hon3 hRw hb1.size, hxl, hx'.1, hx'.2, (below_alloc' (hb1.trans hb2) _).trans (hon3.below hR)⟩
set_option maxHeartbeats 400000 in
theorem DrawFewestPieces_c (A : Option Addr) (n c : Nat) (bs : List Int) (w : World) (hl : bs.length = n) (hnc : n ≤ c) (hc : c ≤ 9223372036854775807) (hr : Rd8 w w.heap.size A bs) :
    Calls Try.prog 36 #[.slice A n c] w fun e w' => ∃ v xs m, e = .returned (.tuple #[v, .int .i64 m]) ∧ Sl w' w.heap.size v xs ∧ xs.length ≤ 30 ∧ -1000 ≤ m ∧ m ≤ 1000 ∧ Below w.heap.size w w' := by
  go_enter Try.func36, Try.ntmps36
  go_wp2_with fail
  refine (newReader_c A n c bs _ hl hnc hc hr).mono ?_
  rintro e w1 ⟨R, bs', rfl, hbl, hR, ⟨A', c', hrd1⟩, hb1⟩
  have hRw := blk_lt hrd1.blk
  go_wp2_with fail
  refine (stepList_c R c' 0 A' bs' _ hrd1 (by omega) hbl).mono ?_
  rintro e w2 ⟨v, xs, p', rfl, hsl, hxl, hrd2, hp', hold2⟩
  have hb2 : Below w.heap.size w1 w2 := old_belowR hold2 hb1.size hR
  have hsz2 := hold2.size
  obtain ⟨A2, c2, rfl, hc2, hm2, hcell2⟩ := id hsl
  go_wp2_with fail
  refine (one_c R c' p' A' bs' [3, 5, 1, 0, 10, 60, 61, -1] _ _ (hrd2.alloc _) (by omega) hbl (lit_sl _ rfl (by simp) rfl (by simp) (by omega)) (by simp)).mono ?_
  rintro e w3 ⟨⟨x, hx, rfl⟩, hrd3, hon3⟩
  have hx' : -1000 ≤ x ∧ x ≤ 1000 := by simp at hx; omega
  clear hx hcell2
  go_wp2_with fail
  go_ret2
  exact ⟨_, xs, x, rfl, (hsl.alloc _).only2 hon3 hRw hb1.size, hxl, hx'.1, hx'.2, (below_alloc' (hb1.trans hb2) _).trans (hon3.below hR)⟩
set_option maxHeartbeats 400000 in
theorem DrawPieceMiss_c (A : Option Addr) (n c : Nat) (bs : List Int) (w : World) (hl : bs.length = n) (hnc : n ≤ c) (hc : c ≤ 9223372036854775807) (hr : Rd8 w w.heap.size A bs) :
    Calls Try.prog 27 #[.slice A n c] w fun e w' => ∃ v xs i k, e = .returned (.tuple #[v, .int .i64 i, .int .i64 k]) ∧ Sl w' w.heap.size v xs ∧ xs.length ≤ 30 ∧ -1000 ≤ i ∧ i ≤ 1000 ∧ -1000 ≤ k ∧ k ≤ 1000 ∧ Below w.heap.size w w' := by
  go_enter Try.func27, Try.ntmps27
  go_wp2_with fail
  refine (newReader_c A n c bs _ hl hnc hc hr).mono ?_
  rintro e w1 ⟨R, bs', rfl, hbl, hR, ⟨A', c', hrd1⟩, hb1⟩
  have hRw := blk_lt hrd1.blk
  go_wp2_with fail
  refine (stepList_c R c' 0 A' bs' _ hrd1 (by omega) hbl).mono ?_
  rintro e w2 ⟨v, xs, p', rfl, hsl, hxl, hrd2, hp', hold2⟩
  have hb2 : Below w.heap.size w1 w2 := old_belowR hold2 hb1.size hR
  have hsz2 := hold2.size
  obtain ⟨A2, c2, rfl, hc2, hm2, hcell2⟩ := id hsl
  clear hcell2
  go_wp2_with fail
  refine (pick_c R c' p' A' bs' xs.length _ hrd2 (by omega) (by omega) hbl).mono ?_
  rintro e w3 ⟨⟨x, rfl, hx⟩, hrd3, hon3⟩
  have hx' : 0 ≤ x ∧ x ≤ xs.length := by
    rcases Nat.eq_zero_or_pos xs.length with h0 | h0
    · have := hx.1 (by omega); omega
    · have := hx.2 (by omega); omega
  obtain ⟨hxa, hxb⟩ := hx'
  clear hx
  have hsz3 := hon3.size
  go_wp2_with fail
  refine (one_c R c' (p' + 1) A' bs' [x, x, 0, -1] _ _ (hrd3.alloc _) (by omega) hbl (lit_sl _ rfl (by first | rfl | omega | simp) rfl (by simp) (by omega)) (by simp)).mono ?_
  rintro e w4 ⟨⟨y, hy, rfl⟩, hrd4, hon4⟩
  have hy' : -1000 ≤ y ∧ y ≤ 1000 := by simp at hy; omega
  clear hy
  have hsz4 := hon4.size
  rw [size_alloc'] at hsz4
  go_wp2_with fail
  refine (pick_c R c' (p' + 1 + 1) A' bs' (xs.length - x) _ hrd4 (by omega) (by omega) hbl).mono ?_
  rintro e w5 ⟨⟨z, rfl, hz⟩, hrd5, hon5⟩
  have hz' : 0 ≤ z ∧ z ≤ xs.length := by
    by_cases h0 : (xs.length : Int) - x < 1
    · have := hz.1 h0; omega
    · have := hz.2 (by omega); omega
  obtain ⟨hza, hzb⟩ := hz'
  clear hz
  have hsz5 := hon5.size
  go_wp2_with fail
  refine (one_c R c' (p' + 1 + 1 + 1) A' bs' [x + z, x, (xs.length : Int) - 1, xs.length] _ _ (hrd5.alloc _) (by omega) hbl (lit_sl _ rfl (by first | rfl | omega | simp) rfl (by simp) (by omega)) (by simp)).mono ?_
  rintro e w6 ⟨⟨u, hu, rfl⟩, hrd6, hon6⟩
  have hu' : -1000 ≤ u ∧ u ≤ 1000 := by simp at hu; omega
  clear hu
  go_wp2_with fail
  go_ret3
  exact ⟨_, xs, y, u, rfl, (((((hsl.only hon3 hRw).alloc _).only hon4 hRw).only hon5 hRw).alloc _).only2 hon6 hRw hb1.size, hxl, hy'.1, hy'.2, hu'.1, hu'.2, ((below_alloc' ((below_alloc' ((hb1.trans hb2).trans (hon3.below hR)) _).trans (hon4.below hR) |>.trans (hon5.below hR)) _).trans (hon6.below hR))⟩
end Go.Proofs.Ytgcpglefkkpdjaa
