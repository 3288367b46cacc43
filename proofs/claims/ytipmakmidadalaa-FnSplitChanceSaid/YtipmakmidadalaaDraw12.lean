/-
  Contracts: what the statements on data draw: one or two lists of at most 30 numbers.
-/
import Derived.Test.YtipmakmidadalaaDraw
import Derived.Deep.LoopGhost
namespace Go.Proofs.Ytipmakmidadalaa
open Go.RowKit

theorem old_trans {R : Option Nat} {a b c : World} (h : a.grownBy b R) (k : b.grownBy c R) : a.grownBy c R :=
  ⟨k.os.trans h.os, k.tape.trans h.tape, k.output.trans h.output, Nat.le_trans h.size k.size, fun i hi hne => (k.block i (Nat.lt_of_lt_of_le hi h.size) hne).trans (h.block i hi hne)⟩
theorem Sl.grown {R B : Nat} {w w' : World} {v : Value} {xs : List Int} (h : Sl w B v xs) (ho : w.grownBy w' (some R)) (hR : R < B) : Sl w' B v xs :=
  h.keep ho.size fun g hg hl => ho.block g hl (by simp; omega)

set_option maxHeartbeats 1000000 in
theorem dataOf_c (R c p n : Nat) (A : Option Addr) (bs : List Int) (w : World) (h : Rdr w R A c bs p) (hp : p ≤ 1000) (hbl : bs.length ≤ 2000) (hn : n ≤ 10) :
    Calls Try.prog 47 #[.pointer (some ⟨R, 0, none⟩), .int .i64 n] w fun e w' => ∃ v xs p', e = .returned v ∧ Sl w' w.heap.size v xs ∧ xs.length ≤ 30 ∧ Rdr w' R A c bs p' ∧ p' ≤ p + 20 ∧ w.grownBy w' (some R) := by
  have hR := blk_lt h.blk
  go_enter Try.func47, Try.ntmps47
  go_wp2_with fail
  refine (one_c R c p A bs [3, 10, 40, 200] _ _ ((h.alloc _).alloc _) (by omega) hbl (lit_sl _ rfl (by simp) rfl (by simp) (by simp; omega)) (by simp)).mono ?_
  rintro e w1 ⟨⟨x, hx, rfl⟩, hrd1, hon1⟩
  have hx' : 0 ≤ x ∧ x ≤ 200 := by simp at hx; omega
  clear hx
  have hown1 : Own w1 w.heap.size 3 (.slice (some ⟨w.heap.size, 0, none⟩) 0 0) [] := ((lit_own (w := w) [] rfl rfl rfl (by simp) (Nat.le_refl _)).alloc _).only' hon1 hR
  have hold1 : w.grownBy w1 (some R) := old_only (old_alloc (old_alloc (old_refl w _) _) _) hon1
  go_wp2_with fail
  go_loopg [5] n (fun gk lst wr => ∃ (ys : List Int) (q : Nat), Own wr w.heap.size 3 lst ys ∧ ys.length + gk = n ∧ Rdr wr R A c bs q ∧ q ≤ p + 1 + ys.length ∧ w.grownBy wr (some R))
  case atStart => exact ⟨[], p + 1, hown1, by simp, hrd1, by simp, hold1⟩
  case round =>
    obtain ⟨ys, q, hown, hlen, hrd, hq, hold⟩ := hrel
    obtain ⟨A', c', rfl, hc', hm', _⟩ := hown.sl
    have HL := hide hlen
    by_cases hlt : ys.length < n
    · clear hlen
      go_wp2_with fail
      refine (pick_c R c q A bs _ _ hrd (by omega) (by omega) hbl).mono ?_
      rintro e w2 ⟨⟨x1, rfl, hx1⟩, hrd2, hon2⟩
      obtain ⟨hx1a, hx1b⟩ := hx1.2 (by omega)
      clear hx1
      have hown2 := hown.only' hon2 hR
      have hold2 := old_only hold hon2
      have hsz2 := hold2.size
      have hmd : x1.tmod 401 = x1 % 401 := Int.tmod_eq_emod_of_nonneg hx1a
      go_wp2_with (at_builtin; refine wpList_push_int _ rfl (.tmp 15) (.tmp 24) rfl ints w.heap.size _ ys _ _ 1 rfl rfl hown2 hsz2 (by omega) ?_; intro v5 w5 hown5 hb5 hg5 hat5 hk5 hlt5)
      have hold5 := old_below hold2 hb5
      have hrd5 := hrd2.below hb5 hR
      go_roundg (gk - 1)
      case measure => have := HL.out; omega
      case rel => exact ⟨_, q + 1, hown5, by have := HL.out; simp; omega, hrd5, by simp; omega, hold5⟩
    · go_wp2_with fail
      refine (pick_c R c q A bs 40 _ hrd (by omega) (by omega) hbl).mono ?_
      rintro e w2 ⟨⟨x1, rfl, hx1⟩, hrd2, hon2⟩
      obtain ⟨hx1a, hx1b⟩ := hx1.2 (by omega)
      clear hx1
      have hown2 := hown.only' hon2 hR
      have hold2 := old_only hold hon2
      have hsz2 := hold2.size
      by_cases h0 : x1 = 0
      · subst h0
        go_wp2_with fail
        refine (one_c R c (q + 1) A bs [201, -201] _ _ (hrd2.alloc _) (by omega) hbl (lit_sl _ rfl (by simp) rfl (by simp) (by omega)) (by simp)).mono ?_
        rintro e w3 ⟨⟨y, hy, rfl⟩, hrd3, hon3⟩
        have hown3 := (hown2.alloc _).only' hon3 hR
        have hold3 := old_only (old_alloc hold2 _) hon3
        have hsz3 := hold3.size
        go_wp2_with (at_builtin; refine wpList_push_int _ rfl (.tmp 30) (.tmp 34) rfl ints w.heap.size _ ys y _ 1 rfl rfl hown3 hsz3 (by omega) ?_; intro v5 w5 hown5 hb5 hg5 hat5 hk5 hlt5)
        go_ret
        exact ⟨_, _, q + 1 + 1, rfl, hown5.sl, by simp; omega, hrd3.below hb5 hR, by omega, old_below hold3 hb5⟩
      · have hb0 : (x1 == 0) = false := beq_eq_false_iff_ne.2 h0
        by_cases h1 : x1 = 1
        · subst h1
          go_wp2_with (at_builtin; refine wpList_push_ints _ rfl (.tmp 38) (.tmp 39) rfl ints w.heap.size _ ys [1, 2, 3, 4, 5, 6, 7, 8, 9, 10, 11] _ _ 11 11 rfl rfl hown2 hsz2 (by omega) rfl rfl (by simp) (by simp) ?_; intro v5 w5 hown5 hb5 hg5 hat5 hk5 hlt5)
          go_ret
          exact ⟨_, _, q + 1, rfl, hown5.sl, by simp; omega, hrd2.below hb5 hR, by omega, old_below hold2 hb5⟩
        · have hb1 : (x1 == 1) = false := beq_eq_false_iff_ne.2 h1
          go_wp2_with fail
          go_ret
          exact ⟨_, _, q + 1, rfl, hown2.sl, by omega, hrd2, by omega, hold2⟩

set_option maxHeartbeats 1000000 in
theorem someData_c (R c p : Nat) (A : Option Addr) (bs : List Int) (w : World) (h : Rdr w R A c bs p) (hp : p ≤ 900) (hbl : bs.length ≤ 2000) :
    Calls Try.prog 49 #[.pointer (some ⟨R, 0, none⟩)] w fun e w' => ∃ v xs p', e = .returned v ∧ Sl w' w.heap.size v xs ∧ xs.length ≤ 30 ∧ Rdr w' R A c bs p' ∧ p' ≤ p + 30 ∧ w.grownBy w' (some R) := by
  have hR := blk_lt h.blk
  go_enter Try.func49, Try.ntmps49
  go_wp2_with fail
  refine (one_c R c p A bs [4, 5, 6, 3, 2, 8, 1, 0, 10] _ _ (h.alloc _) (by omega) hbl (lit_sl _ rfl (by simp) rfl (by simp) (by omega)) (by simp)).mono ?_
  rintro e w1 ⟨⟨x, hx, rfl⟩, hrd1, hon1⟩
  have hx' : 0 ≤ x ∧ x ≤ 10 := by simp at hx; omega
  clear hx
  obtain ⟨n, rfl⟩ := Int.eq_ofNat_of_zero_le hx'.1
  have hold1 : w.grownBy w1 (some R) := old_only (old_alloc (old_refl w _) _) hon1
  have hsz1 := hold1.size
  go_wp2_with fail
  refine (dataOf_c R c (p + 1) n A bs _ hrd1 (by omega) hbl (by omega)).mono ?_
  rintro e w2 ⟨v, xs, p', rfl, hsl, hxl, hrd2, hp', hold2⟩
  go_wp2_with fail
  go_ret
  exact ⟨_, xs, p', rfl, hsl.low hsz1, hxl, hrd2, by omega, old_trans hold1 hold2⟩

set_option maxHeartbeats 1000000 in
theorem twoSamples_c (R c p : Nat) (A : Option Addr) (bs : List Int) (w : World) (h : Rdr w R A c bs p) (hp : p ≤ 900) (hbl : bs.length ≤ 2000) :
    Calls Try.prog 57 #[.pointer (some ⟨R, 0, none⟩)] w fun e w' => ∃ v xs u ys p', e = .returned (.tuple #[v, u]) ∧ Sl w' w.heap.size v xs ∧ xs.length ≤ 30 ∧ Sl w' w.heap.size u ys ∧ ys.length ≤ 30 ∧ Rdr w' R A c bs p' ∧ p' ≤ p + 60 ∧ w.grownBy w' (some R) := by
  have hR := blk_lt h.blk
  go_enter Try.func57, Try.ntmps57
  go_wp2_with fail
  refine (one_c R c p A bs [3, 2, 4, 1, 5, 0] _ _ (h.alloc _) (by omega) hbl (lit_sl _ rfl (by simp) rfl (by simp) (by omega)) (by simp)).mono ?_
  rintro e w1 ⟨⟨x, hx, rfl⟩, hrd1, hon1⟩
  have hx' : 0 ≤ x ∧ x ≤ 10 := by simp at hx; omega
  clear hx
  obtain ⟨n, rfl⟩ := Int.eq_ofNat_of_zero_le hx'.1
  have hold1 : w.grownBy w1 (some R) := old_only (old_alloc (old_refl w _) _) hon1
  have hsz1 := hold1.size
  go_wp2_with fail
  refine (dataOf_c R c (p + 1) n A bs _ hrd1 (by omega) hbl (by omega)).mono ?_
  rintro e w2 ⟨v, xs, p', rfl, hsl, hxl, hrd2, hp', hold2⟩
  have hsz2 := hold2.size
  have hR2 := blk_lt hrd2.blk
  go_wp2_with fail
  refine (one_c R c p' A bs [3, 4, 2, 1, 5, 0, 6] _ _ (hrd2.alloc _) (by omega) hbl (lit_sl _ rfl (by simp) rfl (by simp) (by omega)) (by simp)).mono ?_
  rintro e w3 ⟨⟨y, hy, rfl⟩, hrd3, hon3⟩
  have hy' : 0 ≤ y ∧ y ≤ 10 := by simp at hy; omega
  clear hy
  obtain ⟨m, rfl⟩ := Int.eq_ofNat_of_zero_le hy'.1
  have hsl3 := (hsl.alloc _).only hon3 (by omega)
  have hold3 : w2.grownBy w3 (some R) := old_only (old_alloc (old_refl w2 _) _) hon3
  have hsz3 := hold3.size
  go_wp2_with fail
  refine (dataOf_c R c (p' + 1) m A bs _ hrd3 (by omega) hbl (by omega)).mono ?_
  rintro e w4 ⟨u, ys, p2, rfl, hsl4, hyl, hrd4, hp2, hold4⟩
  have hslf := hsl3.grown hold4 (by omega)
  go_wp2_with fail
  go_ret2
  exact ⟨_, xs, _, ys, p2, rfl, hslf.low hsz1, hxl, hsl4.low (by omega), hyl, hrd4, by omega, old_trans (old_trans hold1 hold2) (old_trans hold3 hold4)⟩

set_option maxHeartbeats 400000 in
theorem DrawRanksOf_c (A : Option Addr) (n c : Nat) (bs : List Int) (w : World) (hl : bs.length = n) (hnc : n ≤ c) (hc : c ≤ 9223372036854775807) (hr : Rd8 w w.heap.size A bs) :
    Calls Try.prog 20 #[.slice A n c] w fun e w' => ∃ v xs, e = .returned v ∧ Sl w' w.heap.size v xs ∧ xs.length ≤ 30 ∧ Below w.heap.size w w' := by
  go_enter Try.func20, Try.ntmps20
  go_wp2_with fail
  refine (newReader_c A n c bs _ hl hnc hc hr).mono ?_
  rintro e w1 ⟨R, bs', rfl, hbl, hR, ⟨A', c', hrd1⟩, hb1⟩
  go_wp2_with fail
  refine (someData_c R c' 0 A' bs' _ hrd1 (by omega) hbl).mono ?_
  rintro e w2 ⟨v, xs, p', rfl, hsl, hxl, hrd2, hp', hold2⟩
  have hb2 : Below w.heap.size w1 w2 := old_belowR hold2 hb1.size hR
  go_wp2_with fail
  go_ret
  exact ⟨_, xs, rfl, hsl.low hb1.size, hxl, hb1.trans hb2⟩
set_option maxHeartbeats 400000 in
theorem DrawFlipChance_c (A : Option Addr) (n c : Nat) (bs : List Int) (w : World) (hl : bs.length = n) (hnc : n ≤ c) (hc : c ≤ 9223372036854775807) (hr : Rd8 w w.heap.size A bs) :
    Calls Try.prog 25 #[.slice A n c] w fun e w' => ∃ v xs, e = .returned v ∧ Sl w' w.heap.size v xs ∧ xs.length ≤ 30 ∧ Below w.heap.size w w' := by
  go_enter Try.func25, Try.ntmps25
  go_wp2_with fail
  refine (newReader_c A n c bs _ hl hnc hc hr).mono ?_
  rintro e w1 ⟨R, bs', rfl, hbl, hR, ⟨A', c', hrd1⟩, hb1⟩
  go_wp2_with fail
  refine (someData_c R c' 0 A' bs' _ hrd1 (by omega) hbl).mono ?_
  rintro e w2 ⟨v, xs, p', rfl, hsl, hxl, hrd2, hp', hold2⟩
  have hb2 : Below w.heap.size w1 w2 := old_belowR hold2 hb1.size hR
  go_wp2_with fail
  go_ret
  exact ⟨_, xs, rfl, hsl.low hb1.size, hxl, hb1.trans hb2⟩
set_option maxHeartbeats 400000 in
theorem DrawSignedRanks_c (A : Option Addr) (n c : Nat) (bs : List Int) (w : World) (hl : bs.length = n) (hnc : n ≤ c) (hc : c ≤ 9223372036854775807) (hr : Rd8 w w.heap.size A bs) :
    Calls Try.prog 34 #[.slice A n c] w fun e w' => ∃ v xs, e = .returned v ∧ Sl w' w.heap.size v xs ∧ xs.length ≤ 30 ∧ Below w.heap.size w w' := by
  go_enter Try.func34, Try.ntmps34
  go_wp2_with fail
  refine (newReader_c A n c bs _ hl hnc hc hr).mono ?_
  rintro e w1 ⟨R, bs', rfl, hbl, hR, ⟨A', c', hrd1⟩, hb1⟩
  go_wp2_with fail
  refine (someData_c R c' 0 A' bs' _ hrd1 (by omega) hbl).mono ?_
  rintro e w2 ⟨v, xs, p', rfl, hsl, hxl, hrd2, hp', hold2⟩
  have hb2 : Below w.heap.size w1 w2 := old_belowR hold2 hb1.size hR
  go_wp2_with fail
  go_ret
  exact ⟨_, xs, rfl, hsl.low hb1.size, hxl, hb1.trans hb2⟩

set_option maxHeartbeats 400000 in
theorem DrawWinsOf_c (A : Option Addr) (n c : Nat) (bs : List Int) (w : World) (hl : bs.length = n) (hnc : n ≤ c) (hc : c ≤ 9223372036854775807) (hr : Rd8 w w.heap.size A bs) :
    Calls Try.prog 29 #[.slice A n c] w fun e w' => ∃ v xs u ys, e = .returned (.tuple #[v, u]) ∧ Sl w' w.heap.size v xs ∧ xs.length ≤ 30 ∧ Sl w' w.heap.size u ys ∧ ys.length ≤ 30 ∧ Below w.heap.size w w' := by
  go_enter Try.func29, Try.ntmps29
  go_wp2_with fail
  refine (newReader_c A n c bs _ hl hnc hc hr).mono ?_
  rintro e w1 ⟨R, bs', rfl, hbl, hR, ⟨A', c', hrd1⟩, hb1⟩
  go_wp2_with fail
  refine (twoSamples_c R c' 0 A' bs' _ hrd1 (by omega) hbl).mono ?_
  rintro e w2 ⟨v, xs, u, ys, p', rfl, hsl, hxl, hsu, hyl, hrd2, hp', hold2⟩
  have hb2 : Below w.heap.size w1 w2 := old_belowR hold2 hb1.size hR
  go_wp2_with fail
  go_ret2
  exact ⟨_, xs, _, ys, rfl, hsl.low hb1.size, hxl, hsu.low hb1.size, hyl, hb1.trans hb2⟩
set_option maxHeartbeats 400000 in
theorem DrawSplitChance_c (A : Option Addr) (n c : Nat) (bs : List Int) (w : World) (hl : bs.length = n) (hnc : n ≤ c) (hc : c ≤ 9223372036854775807) (hr : Rd8 w w.heap.size A bs) :
    Calls Try.prog 38 #[.slice A n c] w fun e w' => ∃ v xs u ys, e = .returned (.tuple #[v, u]) ∧ Sl w' w.heap.size v xs ∧ xs.length ≤ 30 ∧ Sl w' w.heap.size u ys ∧ ys.length ≤ 30 ∧ Below w.heap.size w w' := by
  go_enter Try.func38, Try.ntmps38
  go_wp2_with fail
  refine (newReader_c A n c bs _ hl hnc hc hr).mono ?_
  rintro e w1 ⟨R, bs', rfl, hbl, hR, ⟨A', c', hrd1⟩, hb1⟩
  go_wp2_with fail
  refine (twoSamples_c R c' 0 A' bs' _ hrd1 (by omega) hbl).mono ?_
  rintro e w2 ⟨v, xs, u, ys, p', rfl, hsl, hxl, hsu, hyl, hrd2, hp', hold2⟩
  have hb2 : Below w.heap.size w1 w2 := old_belowR hold2 hb1.size hR
  go_wp2_with fail
  go_ret2
  exact ⟨_, xs, _, ys, rfl, hsl.low hb1.size, hxl, hsu.low hb1.size, hyl, hb1.trans hb2⟩

set_option maxHeartbeats 1000000 in
theorem DrawAgreeOf_c (A : Option Addr) (n c : Nat) (bs : List Int) (w : World) (hl : bs.length = n) (hnc : n ≤ c) (hc : c ≤ 9223372036854775807) (hr : Rd8 w w.heap.size A bs) :
    Calls Try.prog 16 #[.slice A n c] w fun e w' => ∃ v xs u ys, e = .returned (.tuple #[v, u]) ∧ Sl w' w.heap.size v xs ∧ xs.length ≤ 30 ∧ Sl w' w.heap.size u ys ∧ ys.length ≤ 30 ∧ Below w.heap.size w w' := by
  go_enter Try.func16, Try.ntmps16
  go_wp2_with fail
  refine (newReader_c A n c bs _ hl hnc hc hr).mono ?_
  rintro e w1 ⟨R, bs', rfl, hbl, hR, ⟨A', c', hrd1⟩, hb1⟩
  have hsz1 := hb1.size
  have hRl := blk_lt hrd1.blk
  go_wp2_with fail
  refine (one_c R c' 0 A' bs' [4, 5, 6, 3, 2, 8, 1, 0] _ _ (hrd1.alloc _) (by omega) hbl (lit_sl _ rfl (by simp) rfl (by simp) (by omega)) (by simp)).mono ?_
  rintro e w2 ⟨⟨x, hx, rfl⟩, hrd2, hon2⟩
  have hx' : 0 ≤ x ∧ x ≤ 10 := by simp at hx; omega
  clear hx
  obtain ⟨k, rfl⟩ := Int.eq_ofNat_of_zero_le hx'.1
  have hold2 : w1.grownBy w2 (some R) := old_only (old_alloc (old_refl w1 _) _) hon2
  have hsz2 := hold2.size
  go_wp2_with fail
  refine (dataOf_c R c' (0 + 1) k A' bs' _ hrd2 (by omega) hbl (by omega)).mono ?_
  rintro e w3 ⟨v, xs, p3, rfl, hsl3, hxl, hrd3, hp3, hold3⟩
  have hsz3 := hold3.size
  go_wp2_with fail
  refine (dataOf_c R c' p3 k A' bs' _ hrd3 (by omega) hbl (by omega)).mono ?_
  rintro e w4 ⟨u, ys, p4, rfl, hsl4, hyl, hrd4, hp4, hold4⟩
  have hsz4 := hold4.size
  have hv4 := hsl3.grown hold4 (by omega)
  go_wp2_with fail
  refine (pick_c R c' p4 A' bs' 24 _ hrd4 (by omega) (by omega) hbl).mono ?_
  rintro e w5 ⟨⟨x1, rfl, hx1⟩, hrd5, hon5⟩
  have hv5 := hv4.only hon5 (by omega)
  have hu5 := hsl4.only hon5 (by omega)
  have hold5 : w1.grownBy w5 (some R) := old_only (old_trans (old_trans hold2 hold3) hold4) hon5
  have hsz5 := hold5.size
  by_cases h0 : x1 = 0
  · subst h0
    go_wp2_with fail
    refine (someData_c R c' (p4 + 1) A' bs' _ hrd5 (by omega) hbl).mono ?_
    rintro e w6 ⟨u6, zs, p6, rfl, hsl6, hzl, hrd6, hp6, hold6⟩
    have hv6 := hv5.grown hold6 (by omega)
    have hb6 : Below w.heap.size w1 w6 := old_belowR (old_trans hold5 hold6) hb1.size hR
    go_wp2_with fail
    go_ret2
    exact ⟨_, xs, _, zs, rfl, hv6.low (by omega), hxl, hsl6.low (by omega), hzl, hb1.trans hb6⟩
  · have hb0 : (x1 == 0) = false := beq_eq_false_iff_ne.2 h0
    have hb5 : Below w.heap.size w1 w5 := old_belowR hold5 hb1.size hR
    go_wp2_with fail
    go_ret2
    exact ⟨_, xs, _, ys, rfl, hv5.low (by omega), hxl, hu5.low (by omega), hyl, hb1.trans hb5⟩
set_option maxHeartbeats 1000000 in
theorem DrawRankGap_c (A : Option Addr) (n c : Nat) (bs : List Int) (w : World) (hl : bs.length = n) (hnc : n ≤ c) (hc : c ≤ 9223372036854775807) (hr : Rd8 w w.heap.size A bs) :
    Calls Try.prog 35 #[.slice A n c] w fun e w' => ∃ v xs u ys, e = .returned (.tuple #[v, u]) ∧ Sl w' w.heap.size v xs ∧ xs.length ≤ 30 ∧ Sl w' w.heap.size u ys ∧ ys.length ≤ 30 ∧ Below w.heap.size w w' := by
  go_enter Try.func35, Try.ntmps35
  go_wp2_with fail
  refine (newReader_c A n c bs _ hl hnc hc hr).mono ?_
  rintro e w1 ⟨R, bs', rfl, hbl, hR, ⟨A', c', hrd1⟩, hb1⟩
  have hsz1 := hb1.size
  have hRl := blk_lt hrd1.blk
  go_wp2_with fail
  refine (one_c R c' 0 A' bs' [4, 5, 6, 3, 2, 8, 1, 0] _ _ (hrd1.alloc _) (by omega) hbl (lit_sl _ rfl (by simp) rfl (by simp) (by omega)) (by simp)).mono ?_
  rintro e w2 ⟨⟨x, hx, rfl⟩, hrd2, hon2⟩
  have hx' : 0 ≤ x ∧ x ≤ 10 := by simp at hx; omega
  clear hx
  obtain ⟨k, rfl⟩ := Int.eq_ofNat_of_zero_le hx'.1
  have hold2 : w1.grownBy w2 (some R) := old_only (old_alloc (old_refl w1 _) _) hon2
  have hsz2 := hold2.size
  go_wp2_with fail
  refine (dataOf_c R c' (0 + 1) k A' bs' _ hrd2 (by omega) hbl (by omega)).mono ?_
  rintro e w3 ⟨v, xs, p3, rfl, hsl3, hxl, hrd3, hp3, hold3⟩
  have hsz3 := hold3.size
  go_wp2_with fail
  refine (dataOf_c R c' p3 k A' bs' _ hrd3 (by omega) hbl (by omega)).mono ?_
  rintro e w4 ⟨u, ys, p4, rfl, hsl4, hyl, hrd4, hp4, hold4⟩
  have hsz4 := hold4.size
  have hv4 := hsl3.grown hold4 (by omega)
  go_wp2_with fail
  refine (pick_c R c' p4 A' bs' 24 _ hrd4 (by omega) (by omega) hbl).mono ?_
  rintro e w5 ⟨⟨x1, rfl, hx1⟩, hrd5, hon5⟩
  have hv5 := hv4.only hon5 (by omega)
  have hu5 := hsl4.only hon5 (by omega)
  have hold5 : w1.grownBy w5 (some R) := old_only (old_trans (old_trans hold2 hold3) hold4) hon5
  have hsz5 := hold5.size
  by_cases h0 : x1 = 0
  · subst h0
    go_wp2_with fail
    refine (someData_c R c' (p4 + 1) A' bs' _ hrd5 (by omega) hbl).mono ?_
    rintro e w6 ⟨u6, zs, p6, rfl, hsl6, hzl, hrd6, hp6, hold6⟩
    have hv6 := hv5.grown hold6 (by omega)
    have hb6 : Below w.heap.size w1 w6 := old_belowR (old_trans hold5 hold6) hb1.size hR
    go_wp2_with fail
    go_ret2
    exact ⟨_, xs, _, zs, rfl, hv6.low (by omega), hxl, hsl6.low (by omega), hzl, hb1.trans hb6⟩
  · have hb0 : (x1 == 0) = false := beq_eq_false_iff_ne.2 h0
    have hb5 : Below w.heap.size w1 w5 := old_belowR hold5 hb1.size hR
    go_wp2_with fail
    go_ret2
    exact ⟨_, xs, _, ys, rfl, hv5.low (by omega), hxl, hu5.low (by omega), hyl, hb1.trans hb5⟩
end Go.Proofs.Ytipmakmidadalaa
