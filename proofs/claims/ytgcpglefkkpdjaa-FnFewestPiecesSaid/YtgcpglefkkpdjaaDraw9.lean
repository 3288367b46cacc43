/-
  Contracts: what chapter 9's statements draw: some list of at most 30 numbers, and a number.
-/
import Derived.Test.YtgcpglefkkpdjaaDraw
import Derived.Deep.LoopGhost
namespace Go.Proofs.Ytgcpglefkkpdjaa
open Go.RowKit

set_option maxHeartbeats 1000000 in
theorem stepList_c (R c p : Nat) (A : Option Addr) (bs : List Int) (w : World) (h : Rdr w R A c bs p) (hp : p ≤ 1000) (hbl : bs.length ≤ 2000) :
    Calls Try.prog 56 #[.pointer (some ⟨R, 0, none⟩)] w fun e w' => ∃ v xs p', e = .returned v ∧ Sl w' w.heap.size v xs ∧ xs.length ≤ 30 ∧ Rdr w' R A c bs p' ∧ p' ≤ p + 100 ∧ w.grownBy w' (some R) := by
  have hR := blk_lt h.blk
  go_enter Try.func56, Try.ntmps56
  go_wp2_with fail
  refine (one_c R c p A bs [5, 6, 4, 7, 3, 8, 2, 1, 0] _ _ ((h.alloc _).alloc _) (by omega) hbl (lit_sl _ rfl (by simp) rfl (by simp) (by omega)) (by simp)).mono ?_
  rintro e w1 ⟨⟨x, hx, rfl⟩, hrd1, hon1⟩
  have hx' : 0 ≤ x ∧ x ≤ 8 := by simp at hx; omega
  clear hx
  obtain ⟨n, rfl⟩ := Int.eq_ofNat_of_zero_le hx'.1
  have hown1 : Own w1 w.heap.size 3 (.slice (some ⟨w.heap.size, 0, none⟩) 0 0) [] := ((lit_own (w := w) [] rfl rfl rfl (by simp) (Nat.le_refl _)).alloc _).only' hon1 hR
  have hold1 : w.grownBy w1 (some R) := old_only (old_alloc (old_alloc (old_refl w _) _) _) hon1
  go_wp2_with fail
  go_loopg [3, 4] n (fun gk lst at_ wr => ∃ (ys : List Int) (a : Int) (q : Nat), Own wr w.heap.size 3 lst ys ∧ ys.length + gk = n ∧ at_ = .int .i64 a ∧ -15 ≤ a ∧ a ≤ 15 ∧ Rdr wr R A c bs q ∧ q ≤ p + 1 + 3 * ys.length ∧ w.grownBy wr (some R))
  case atStart => exact ⟨[], 0, p + 1, hown1, by simp, rfl, by omega, by omega, hrd1, by simp, hold1⟩
  case round =>
    obtain ⟨ys, a, q, hown, hlen, rfl, ha1, ha2, hrd, hq, hold⟩ := hrel
    obtain ⟨A', c', rfl, hc', hm', _⟩ := hown.sl
    have HL := hide hlen
    by_cases hlt : ys.length < n
    · clear hlen
      go_wp2_with fail
      refine (pick_c R c q A bs 3 _ hrd (by omega) (by omega) hbl).mono ?_
      rintro e w2 ⟨⟨x1, rfl, hx1⟩, hrd2, hon2⟩
      obtain ⟨hx1a, hx1b⟩ := hx1.2 (by omega)
      clear hx1
      have hown2 := hown.only' hon2 hR
      have hold2 := old_only hold hon2
      by_cases h0 : x1 = 0
      · subst h0
        go_wp2_with fail
        refine (pick_c R c (q + 1) A bs 31 _ hrd2 (by omega) (by omega) hbl).mono ?_
        rintro e w3 ⟨⟨x2, rfl, hx2⟩, hrd3, hon3⟩
        obtain ⟨hx2a, hx2b⟩ := hx2.2 (by omega)
        clear hx2
        have hown3 := hown2.only' hon3 hR
        have hold3 := old_only hold2 hon3
        go_wp2_with fail
        refine (pick_c R c (q + 1 + 1) A bs 4 _ hrd3 (by omega) (by omega) hbl).mono ?_
        rintro e w4 ⟨⟨x3, rfl, hx3⟩, hrd4, hon4⟩
        obtain ⟨hx3a, hx3b⟩ := hx3.2 (by omega)
        clear hx3
        have hown4 := hown3.only' hon4 hR
        have hold4 := old_only hold3 hon4
        have hsz4 := hold4.size
        go_wp2_with (at_builtin; refine wpList_push_int _ rfl (.tmp 20) (.tmp 25) rfl ints w.heap.size _ ys ((x2 - 15) + x3) _ 1 rfl rfl hown4 hsz4 (by omega) ?_; intro v5 w5 hown5 hb5 hg5 hat5 hk5 hlt5)
        have hold5 := old_below hold4 hb5
        have hrd5 := hrd4.below hb5 hR
        go_roundg (gk - 1)
        case measure => have := HL.out; omega
        case rel => exact ⟨ys ++ [(x2 - 15) + x3], (x2 - 15), (q + 1 + 1) + 1, hown5, by have := HL.out; simp; omega, rfl, by omega, by omega, hrd5, by simp; omega, hold5⟩
      · have hb0 : (x1 == 0) = false := beq_eq_false_iff_ne.2 h0
        go_wp2_with fail
        refine (pick_c R c (q + 1) A bs 4 _ hrd2 (by omega) (by omega) hbl).mono ?_
        rintro e w4 ⟨⟨x3, rfl, hx3⟩, hrd4, hon4⟩
        obtain ⟨hx3a, hx3b⟩ := hx3.2 (by omega)
        clear hx3
        have hown4 := hown2.only' hon4 hR
        have hold4 := old_only hold2 hon4
        have hsz4 := hold4.size
        go_wp2_with (at_builtin; refine wpList_push_int _ rfl (.tmp 20) (.tmp 25) rfl ints w.heap.size _ ys (a + x3) _ 1 rfl rfl hown4 hsz4 (by omega) ?_; intro v5 w5 hown5 hb5 hg5 hat5 hk5 hlt5)
        have hold5 := old_below hold4 hb5
        have hrd5 := hrd4.below hb5 hR
        go_roundg (gk - 1)
        case measure => have := HL.out; omega
        case rel => exact ⟨ys ++ [a + x3], a, (q + 1) + 1, hown5, by have := HL.out; simp; omega, rfl, by omega, by omega, hrd5, by simp; omega, hold5⟩
    · go_wp2_with fail
      refine (pick_c R c q A bs 40 _ hrd (by omega) (by omega) hbl).mono ?_
      rintro e w2 ⟨⟨x1, rfl, hx1⟩, hrd2, hon2⟩
      obtain ⟨hx1a, hx1b⟩ := hx1.2 (by omega)
      clear hx1
      have hown2 := hown.only' hon2 hR
      have hold2 := old_only hold hon2
      have hsz2 := hold2.size
      by_cases h0 : x1 = 0
      · subst h0
        go_wp2_with (at_builtin; refine wpList_push_ints _ rfl (.tmp 31) (.tmp 32) rfl ints w.heap.size _ ys [31] _ _ 1 1 rfl rfl hown2 hsz2 (by omega) rfl rfl (by simp) (by simp) ?_; intro v5 w5 hown5 hb5 hg5 hat5 hk5 hlt5)
        go_ret
        exact ⟨_, _, q + 1, rfl, hown5.sl, by simp; omega, hrd2.below hb5 hR, by omega, old_below hold2 hb5⟩
      · have hb0 : (x1 == 0) = false := beq_eq_false_iff_ne.2 h0
        by_cases h1 : x1 = 1
        · subst h1
          go_wp2_with (at_builtin; refine wpList_push_ints _ rfl (.tmp 36) (.tmp 37) rfl ints w.heap.size _ ys [1, 1, 1, 1, 1, 1, 1, 1, 1] _ _ 9 9 rfl rfl hown2 hsz2 (by omega) rfl rfl (by simp) (by simp) ?_; intro v5 w5 hown5 hb5 hg5 hat5 hk5 hlt5)
          go_ret
          exact ⟨_, _, q + 1, rfl, hown5.sl, by simp; omega, hrd2.below hb5 hR, by omega, old_below hold2 hb5⟩
        · have hb1 : (x1 == 1) = false := beq_eq_false_iff_ne.2 h1
          go_wp2_with fail
          go_ret
          exact ⟨_, _, q + 1, rfl, hown2.sl, by omega, hrd2, by omega, hold2⟩
end Go.Proofs.Ytgcpglefkkpdjaa
