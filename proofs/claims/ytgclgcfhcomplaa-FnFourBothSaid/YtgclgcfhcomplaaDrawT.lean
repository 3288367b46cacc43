/-
  Contracts: what the statements on tries draw: numbers between bounds.
-/
import Derived.Test.YtgclgcfhcomplaaDraw
namespace Go.Proofs.Ytgclgcfhcomplaa
open Go.RowKit

theorem results_tmp4 {fn : Func} {t u v x : Tmp} (h : fn.results = #[.tmp t, .tmp u, .tmp v, .tmp x]) (tmps : Array Value) (P : Program) (w : World) :
    (results fn tmps).run P w = .ok (.tuple #[tmps.getD t undef, tmps.getD u undef, tmps.getD v undef, tmps.getD x undef]) w := by
  simp [results, h]
theorem results_tmp5 {fn : Func} {t u v x y : Tmp} (h : fn.results = #[.tmp t, .tmp u, .tmp v, .tmp x, .tmp y]) (tmps : Array Value) (P : Program) (w : World) :
    (results fn tmps).run P w = .ok (.tuple #[tmps.getD t undef, tmps.getD u undef, tmps.getD v undef, tmps.getD x undef, tmps.getD y undef]) w := by
  simp [results, h]
theorem old_trans' {R : Option Nat} {a b c : World} (h : a.grownBy b R) (k : b.grownBy c R) : a.grownBy c R :=
  ⟨k.os.trans h.os, k.tape.trans h.tape, k.output.trans h.output, Nat.le_trans h.size k.size, fun i hi hne => (k.block i (Nat.lt_of_lt_of_le hi h.size) hne).trans (h.block i hi hne)⟩

set_option maxHeartbeats 1000000 in
theorem aLevel_c (R c' p : Nat) (A' : Option Addr) (bs' : List Int) (w1 : World) (hrd1 : Rdr w1 R A' c' bs' p) (hp : p ≤ 900) (hbl : bs'.length ≤ 2000) :
    Calls Try.prog 54 #[.pointer (some ⟨R, 0, none⟩)] w1 fun e w' => ∃ a b, e = .returned (.tuple #[.int .i64 a, .int .i64 b]) ∧ (-2000 ≤ a ∧ a ≤ 2000) ∧ (-2000 ≤ b ∧ b ≤ 2000) ∧ Rdr w' R A' c' bs' (p + 3) ∧ w1.grownBy w' (some R) := by
  have hRl := blk_lt hrd1.blk
  have hold1 := old_refl w1 (some R)
  have hsz1 := hold1.size
  go_enter Try.func54, Try.ntmps54
  go_wp2_with fail
  refine (one_c R c' _ A' bs' [100, 20, 10, 2, 1, 0, 101] _ _ (hrd1.alloc _) (by omega) hbl (lit_sl _ rfl (by simp) rfl (by simp) (by omega)) (by simp)).mono ?_
  rintro e w2 ⟨⟨x2, hx2, rfl⟩, hrd2, hon2⟩
  have hold2 : w1.grownBy w2 (some R) := old_only (old_alloc hold1 _) hon2
  have hsz2 := hold2.size
  have hb2 : -2000 ≤ x2 ∧ x2 ≤ 2000 := by simp at hx2; omega
  have hb2' : 0 ≤ x2 ∧ x2 ≤ 101 := by simp at hx2; omega
  have hm2 : ¬ x2 < 0 := by omega
  clear hx2
  go_wp2_with fail
  refine (pick_c R c' _ A' bs' (x2 + 1) _ hrd2 (by omega) (by omega) hbl).mono ?_
  rintro e w3 ⟨⟨x3, rfl, hx3⟩, hrd3, hon3⟩
  have hold3 : w1.grownBy w3 (some R) := old_only hold2 hon3
  have hsz3 := hold3.size
  have hb3 : 0 ≤ x3 ∧ x3 ≤ 1000 := by have h1 := hx3.1; have h2 := hx3.2; omega
  clear hx3
  go_wp2_with fail
  refine (one_c R c' _ A' bs' [5, 1, 10, 0, x3, x2, x2 + 1] _ _ (hrd3.alloc _) (by omega) hbl (lit_sl _ rfl (by simp) rfl (by simp) (by omega)) (by simp)).mono ?_
  rintro e w4 ⟨⟨x4, hx4, rfl⟩, hrd4, hon4⟩
  have hold4 : w1.grownBy w4 (some R) := old_only (old_alloc hold3 _) hon4
  have hsz4 := hold4.size
  have hb4 : -2000 ≤ x4 ∧ x4 ≤ 2000 := by simp at hx4; omega
  clear hx4
  go_wp2_with fail
  go_ret2
  exact ⟨x4, x2, rfl, hb4, hb2, hrd4, hold4⟩

set_option maxHeartbeats 1000000 in
theorem DrawTailChance_c (A : Option Addr) (n c : Nat) (bs : List Int) (w : World) (hl : bs.length = n) (hnc : n ≤ c) (hc : c ≤ 9223372036854775807) (hr : Rd8 w w.heap.size A bs) :
    Calls Try.prog 84 #[.slice A n c] w fun e w' => ∃ x1 x2 x3 x4, e = .returned (.tuple #[.int .i64 x1, .int .i64 x2, .int .i64 x3, .int .i64 x4]) ∧ (-2000 ≤ x1 ∧ x1 ≤ 2000) ∧ (-2000 ≤ x2 ∧ x2 ≤ 2000) ∧ (-2000 ≤ x3 ∧ x3 ≤ 2000) ∧ (-2000 ≤ x4 ∧ x4 ≤ 2000) ∧ Below w.heap.size w w' := by
  go_enter Try.func84, Try.ntmps84
  go_wp2_with fail
  refine (newReader_c A n c bs _ hl hnc hc hr).mono ?_
  rintro e w1 ⟨R, bs', rfl, hbl, hR, ⟨A', c', hrd1⟩, hbw1⟩
  have hsz1 := hbw1.size
  have hRl := blk_lt hrd1.blk
  have hold1 := old_refl w1 (some R)
  go_wp2_with fail
  refine (one_c R c' _ A' bs' [6, 2, 10, 12, 3, 1, 0, 13] _ _ (hrd1.alloc _) (by omega) hbl (lit_sl _ rfl (by simp) rfl (by simp) (by omega)) (by simp)).mono ?_
  rintro e w2 ⟨⟨x2, hx2, rfl⟩, hrd2, hon2⟩
  have hold2 : w1.grownBy w2 (some R) := old_only (old_alloc hold1 _) hon2
  have hsz2 := hold2.size
  have hb2 : -2000 ≤ x2 ∧ x2 ≤ 2000 := by simp at hx2; omega
  have hb2' : 0 ≤ x2 ∧ x2 ≤ 101 := by simp at hx2; omega
  have hm2 : ¬ x2 < 0 := by omega
  clear hx2
  go_wp2_with fail
  refine (one_c R c' _ A' bs' [5, 4, 6, 10, 2, 1, 0, 11] _ _ (hrd2.alloc _) (by omega) hbl (lit_sl _ rfl (by simp) rfl (by simp) (by omega)) (by simp)).mono ?_
  rintro e w3 ⟨⟨x3, hx3, rfl⟩, hrd3, hon3⟩
  have hold3 : w1.grownBy w3 (some R) := old_only (old_alloc hold2 _) hon3
  have hsz3 := hold3.size
  have hb3 : -2000 ≤ x3 ∧ x3 ≤ 2000 := by simp at hx3; omega
  clear hx3
  go_wp2_with fail
  refine (pick_c R c' _ A' bs' (12) _ hrd3 (by omega) (by omega) hbl).mono ?_
  rintro e w4 ⟨⟨x4, rfl, hx4⟩, hrd4, hon4⟩
  have hold4 : w1.grownBy w4 (some R) := old_only hold3 hon4
  have hsz4 := hold4.size
  have hb4 : 0 ≤ x4 ∧ x4 ≤ 1000 := by have h1 := hx4.1; have h2 := hx4.2; omega
  clear hx4
  go_wp2_with fail
  refine (pick_c R c' _ A' bs' (x2 + 1) _ hrd4 (by omega) (by omega) hbl).mono ?_
  rintro e w5 ⟨⟨x5, rfl, hx5⟩, hrd5, hon5⟩
  have hold5 : w1.grownBy w5 (some R) := old_only hold4 hon5
  have hsz5 := hold5.size
  have hb5 : 0 ≤ x5 ∧ x5 ≤ 1000 := by have h1 := hx5.1; have h2 := hx5.2; omega
  clear hx5
  go_wp2_with fail
  refine (one_c R c' _ A' bs' [x5, 1, 0, x2, x2 + 1] _ _ (hrd5.alloc _) (by omega) hbl (lit_sl _ rfl (by simp) rfl (by simp) (by omega)) (by simp)).mono ?_
  rintro e w6 ⟨⟨x6, hx6, rfl⟩, hrd6, hon6⟩
  have hold6 : w1.grownBy w6 (some R) := old_only (old_alloc hold5 _) hon6
  have hsz6 := hold6.size
  have hb6 : -2000 ≤ x6 ∧ x6 ≤ 2000 := by simp at hx6; omega
  clear hx6
  go_wp2_with fail
  (try simp only [Exit.inBlock, Exit.then])
  refine bodyPost_ret (results_tmp4 rfl _ _ _) rfl ?_
  exact ⟨_, _, _, _, rfl, hb3, by omega, hb6, hb2, hbw1.trans (old_belowR hold6 hbw1.size hR)⟩

set_option maxHeartbeats 1000000 in
theorem DrawTwoSides_c (A : Option Addr) (n c : Nat) (bs : List Int) (w : World) (hl : bs.length = n) (hnc : n ≤ c) (hc : c ≤ 9223372036854775807) (hr : Rd8 w w.heap.size A bs) :
    Calls Try.prog 39 #[.slice A n c] w fun e w' => ∃ x1 x2 x3 x4, e = .returned (.tuple #[.int .i64 x1, .int .i64 x2, .int .i64 x3, .int .i64 x4]) ∧ (-2000 ≤ x1 ∧ x1 ≤ 2000) ∧ (-2000 ≤ x2 ∧ x2 ≤ 2000) ∧ (-2000 ≤ x3 ∧ x3 ≤ 2000) ∧ (-2000 ≤ x4 ∧ x4 ≤ 2000) ∧ Below w.heap.size w w' := by
  go_enter Try.func39, Try.ntmps39
  go_wp2_with fail
  refine (DrawTailChance_c A n c bs _ hl hnc hc hr).mono ?_
  rintro e w1 ⟨x1, x2, x3, x4, rfl, h1, h2, h3, h4, hb⟩
  go_wp2_with fail
  (try simp only [Exit.inBlock, Exit.then])
  refine bodyPost_ret (results_tmp4 rfl _ _ _) rfl ?_
  exact ⟨_, _, _, _, rfl, h1, h2, h3, h4, hb⟩

set_option maxHeartbeats 1000000 in
theorem DrawMiddlePlaces_c (A : Option Addr) (n c : Nat) (bs : List Int) (w : World) (hl : bs.length = n) (hnc : n ≤ c) (hc : c ≤ 9223372036854775807) (hr : Rd8 w w.heap.size A bs) :
    Calls Try.prog 18 #[.slice A n c] w fun e w' => ∃ x1 x2 x3, e = .returned (.tuple #[.int .i64 x1, .int .i64 x2, .int .i64 x3]) ∧ (-2000 ≤ x1 ∧ x1 ≤ 2000) ∧ (-2000 ≤ x2 ∧ x2 ≤ 2000) ∧ (-2000 ≤ x3 ∧ x3 ≤ 2000) ∧ Below w.heap.size w w' := by
  go_enter Try.func18, Try.ntmps18
  go_wp2_with fail
  refine (newReader_c A n c bs _ hl hnc hc hr).mono ?_
  rintro e w1 ⟨R, bs', rfl, hbl, hR, ⟨A', c', hrd1⟩, hbw1⟩
  have hsz1 := hbw1.size
  have hRl := blk_lt hrd1.blk
  have hold1 := old_refl w1 (some R)
  go_wp2_with fail
  refine (aLevel_c R c' _ A' bs' _ hrd1 (by omega) hbl).mono ?_
  rintro e w2 ⟨a, b, rfl, ha, hb, hrd2, hold2⟩
  have hsz2 := hold2.size
  go_wp2_with fail
  refine (one_c R c' _ A' bs' [6, 8, 10, 5, 4, 2, 1, 0, 11] _ _ (hrd2.alloc _) (by omega) hbl (lit_sl _ rfl (by simp) rfl (by simp) (by omega)) (by simp)).mono ?_
  rintro e w3 ⟨⟨x3, hx3, rfl⟩, hrd3, hon3⟩
  have hold3 : w1.grownBy w3 (some R) := old_only (old_alloc hold2 _) hon3
  have hsz3 := hold3.size
  have hb3 : -2000 ≤ x3 ∧ x3 ≤ 2000 := by simp at hx3; omega
  clear hx3
  go_wp2_with fail
  go_ret3
  exact ⟨_, _, _, rfl, hb3, ha, hb, hbw1.trans (old_belowR hold3 hbw1.size hR)⟩

set_option maxHeartbeats 1000000 in
theorem DrawLowBound_c (A : Option Addr) (n c : Nat) (bs : List Int) (w : World) (hl : bs.length = n) (hnc : n ≤ c) (hc : c ≤ 9223372036854775807) (hr : Rd8 w w.heap.size A bs) :
    Calls Try.prog 23 #[.slice A n c] w fun e w' => ∃ x1 x2 x3 x4 x5, e = .returned (.tuple #[.int .i64 x1, .int .i64 x2, .int .i64 x3, .int .i64 x4, .int .i64 x5]) ∧ (-2000 ≤ x1 ∧ x1 ≤ 2000) ∧ (-2000 ≤ x2 ∧ x2 ≤ 2000) ∧ (-2000 ≤ x3 ∧ x3 ≤ 2000) ∧ (-2000 ≤ x4 ∧ x4 ≤ 2000) ∧ (-2000 ≤ x5 ∧ x5 ≤ 2000) ∧ Below w.heap.size w w' := by
  go_enter Try.func23, Try.ntmps23
  go_wp2_with fail
  refine (newReader_c A n c bs _ hl hnc hc hr).mono ?_
  rintro e w1 ⟨R, bs', rfl, hbl, hR, ⟨A', c', hrd1⟩, hbw1⟩
  have hsz1 := hbw1.size
  have hRl := blk_lt hrd1.blk
  have hold1 := old_refl w1 (some R)
  go_wp2_with fail
  refine (one_c R c' _ A' bs' [5, 4, 6, 10, 2, 1, 0, 11] _ _ (hrd1.alloc _) (by omega) hbl (lit_sl _ rfl (by simp) rfl (by simp) (by omega)) (by simp)).mono ?_
  rintro e w2 ⟨⟨x2, hx2, rfl⟩, hrd2, hon2⟩
  have hold2 : w1.grownBy w2 (some R) := old_only (old_alloc hold1 _) hon2
  have hsz2 := hold2.size
  have hb2 : -2000 ≤ x2 ∧ x2 ≤ 2000 := by simp at hx2; omega
  have hb2' : 0 ≤ x2 ∧ x2 ≤ 11 := by simp at hx2; omega
  clear hx2
  go_wp2_with fail
  refine (aLevel_c R c' _ A' bs' _ hrd2 (by omega) hbl).mono ?_
  rintro e w3 ⟨a, b, rfl, ha, hb, hrd3, hold3'⟩
  have hold3 : w1.grownBy w3 (some R) := old_trans' hold2 hold3'
  have hsz3 := hold3.size
  by_cases hm2 : x2 < 1
  all_goals
    go_wp2_with fail
    refine (pick_c R c' _ A' bs' _ _ hrd3 (by omega) (by omega) hbl).mono ?_
    rintro e w4 ⟨⟨x4, rfl, hx4⟩, hrd4, hon4⟩
    have hold4 : w1.grownBy w4 (some R) := old_only hold3 hon4
    have hsz4 := hold4.size
    have hb4 : 0 ≤ x4 ∧ x4 ≤ 1000 := by have h1 := hx4.1; have h2 := hx4.2; omega
    clear hx4
    go_wp2_with fail
    refine (pick_c R c' _ A' bs' _ _ hrd4 (by omega) (by omega) hbl).mono ?_
    rintro e w5 ⟨⟨x5, rfl, hx5⟩, hrd5, hon5⟩
    have hold5 : w1.grownBy w5 (some R) := old_only hold4 hon5
    have hsz5 := hold5.size
    have hb5 : 0 ≤ x5 ∧ x5 ≤ 1000 := by have h1 := hx5.1; have h2 := hx5.2; omega
    clear hx5
    go_wp2_with fail
    refine (one_c R c' _ A' bs' [1 + x4, 1 + x5, 1, 0, x2] _ _ (hrd5.alloc _) (by omega) hbl (lit_sl _ rfl (by simp) rfl (by simp) (by omega)) (by simp)).mono ?_
    rintro e w6 ⟨⟨x6, hx6, rfl⟩, hrd6, hon6⟩
    have hold6 : w1.grownBy w6 (some R) := old_only (old_alloc hold5 _) hon6
    have hsz6 := hold6.size
    have hb6 : -2000 ≤ x6 ∧ x6 ≤ 2000 := by simp at hx6; omega
    clear hx6
    go_wp2_with fail
    refine (one_c R c' _ A' bs' [6, 10, 12, 3, 1, 0] _ _ (hrd6.alloc _) (by omega) hbl (lit_sl _ rfl (by simp) rfl (by simp) (by omega)) (by simp)).mono ?_
    rintro e w7 ⟨⟨x7, hx7, rfl⟩, hrd7, hon7⟩
    have hold7 : w1.grownBy w7 (some R) := old_only (old_alloc hold6 _) hon7
    have hsz7 := hold7.size
    have hb7 : -2000 ≤ x7 ∧ x7 ≤ 2000 := by simp at hx7; omega
    clear hx7
    go_wp2_with fail
    (try simp only [Exit.inBlock, Exit.then])
    refine bodyPost_ret (results_tmp5 rfl _ _ _) rfl ?_
    exact ⟨_, _, _, _, _, rfl, hb2, hb6, hb7, ha, hb, hbw1.trans (old_belowR hold7 hbw1.size hR)⟩

set_option maxHeartbeats 1000000 in
theorem DrawHighBound_c (A : Option Addr) (n c : Nat) (bs : List Int) (w : World) (hl : bs.length = n) (hnc : n ≤ c) (hc : c ≤ 9223372036854775807) (hr : Rd8 w w.heap.size A bs) :
    Calls Try.prog 32 #[.slice A n c] w fun e w' => ∃ x1 x2 x3 x4 x5, e = .returned (.tuple #[.int .i64 x1, .int .i64 x2, .int .i64 x3, .int .i64 x4, .int .i64 x5]) ∧ (-2000 ≤ x1 ∧ x1 ≤ 2000) ∧ (-2000 ≤ x2 ∧ x2 ≤ 2000) ∧ (-2000 ≤ x3 ∧ x3 ≤ 2000) ∧ (-2000 ≤ x4 ∧ x4 ≤ 2000) ∧ (-2000 ≤ x5 ∧ x5 ≤ 2000) ∧ Below w.heap.size w w' := by
  go_enter Try.func32, Try.ntmps32
  go_wp2_with fail
  refine (newReader_c A n c bs _ hl hnc hc hr).mono ?_
  rintro e w1 ⟨R, bs', rfl, hbl, hR, ⟨A', c', hrd1⟩, hbw1⟩
  have hsz1 := hbw1.size
  have hRl := blk_lt hrd1.blk
  have hold1 := old_refl w1 (some R)
  go_wp2_with fail
  refine (one_c R c' _ A' bs' [5, 4, 6, 10, 2, 1, 0, 11] _ _ (hrd1.alloc _) (by omega) hbl (lit_sl _ rfl (by simp) rfl (by simp) (by omega)) (by simp)).mono ?_
  rintro e w2 ⟨⟨x2, hx2, rfl⟩, hrd2, hon2⟩
  have hold2 : w1.grownBy w2 (some R) := old_only (old_alloc hold1 _) hon2
  have hsz2 := hold2.size
  have hb2 : -2000 ≤ x2 ∧ x2 ≤ 2000 := by simp at hx2; omega
  have hb2' : 0 ≤ x2 ∧ x2 ≤ 11 := by simp at hx2; omega
  clear hx2
  go_wp2_with fail
  refine (aLevel_c R c' _ A' bs' _ hrd2 (by omega) hbl).mono ?_
  rintro e w3 ⟨a, b, rfl, ha, hb, hrd3, hold3'⟩
  have hold3 : w1.grownBy w3 (some R) := old_trans' hold2 hold3'
  have hsz3 := hold3.size
  by_cases hm2 : x2 < 1
  all_goals
    go_wp2_with fail
    refine (pick_c R c' _ A' bs' _ _ hrd3 (by omega) (by omega) hbl).mono ?_
    rintro e w4 ⟨⟨x4, rfl, hx4⟩, hrd4, hon4⟩
    have hold4 : w1.grownBy w4 (some R) := old_only hold3 hon4
    have hsz4 := hold4.size
    have hb4 : 0 ≤ x4 ∧ x4 ≤ 1000 := by have h1 := hx4.1; have h2 := hx4.2; omega
    clear hx4
    go_wp2_with fail
    refine (pick_c R c' _ A' bs' _ _ hrd4 (by omega) (by omega) hbl).mono ?_
    rintro e w5 ⟨⟨x5, rfl, hx5⟩, hrd5, hon5⟩
    have hold5 : w1.grownBy w5 (some R) := old_only hold4 hon5
    have hsz5 := hold5.size
    have hb5 : 0 ≤ x5 ∧ x5 ≤ 1000 := by have h1 := hx5.1; have h2 := hx5.2; omega
    clear hx5
    go_wp2_with fail
    refine (one_c R c' _ A' bs' [x4, x5, 0, x2, -1] _ _ (hrd5.alloc _) (by omega) hbl (lit_sl _ rfl (by simp) rfl (by simp) (by omega)) (by simp)).mono ?_
    rintro e w6 ⟨⟨x6, hx6, rfl⟩, hrd6, hon6⟩
    have hold6 : w1.grownBy w6 (some R) := old_only (old_alloc hold5 _) hon6
    have hsz6 := hold6.size
    have hb6 : -2000 ≤ x6 ∧ x6 ≤ 2000 := by simp at hx6; omega
    clear hx6
    go_wp2_with fail
    refine (one_c R c' _ A' bs' [6, 10, 12, 3, 1, 0] _ _ (hrd6.alloc _) (by omega) hbl (lit_sl _ rfl (by simp) rfl (by simp) (by omega)) (by simp)).mono ?_
    rintro e w7 ⟨⟨x7, hx7, rfl⟩, hrd7, hon7⟩
    have hold7 : w1.grownBy w7 (some R) := old_only (old_alloc hold6 _) hon7
    have hsz7 := hold7.size
    have hb7 : -2000 ≤ x7 ∧ x7 ≤ 2000 := by simp at hx7; omega
    clear hx7
    go_wp2_with fail
    (try simp only [Exit.inBlock, Exit.then])
    refine bodyPost_ret (results_tmp5 rfl _ _ _) rfl ?_
    exact ⟨_, _, _, _, _, rfl, hb2, hb6, hb7, ha, hb, hbw1.trans (old_belowR hold7 hbw1.size hR)⟩
end Go.Proofs.Ytgclgcfhcomplaa
