/-
  Contracts: numbers with weights that the statements draw.
-/
import Derived.Test.YtahogdcmnpidiaaCloud
import Derived.Test.YtahogdcmnpidiaaLoads
namespace Go.Proofs.Ytahogdcmnpidiaa
open Go.RowKit

set_option maxHeartbeats 4000000 in
theorem someLoads_c (R c p : Nat) (A : Option Addr) (bs : List Int) (w : World) (h : Rdr w R A c bs p) (hp : p ≤ 100) (hbl : bs.length ≤ 2000) :
    Calls Try.prog 78 #[.pointer (some ⟨R, 0, none⟩)] w fun e w' => ∃ v xs u ys p', e = .returned (.tuple #[v, u]) ∧ Sl w' w.heap.size v xs ∧ xs.length ≤ 30 ∧ Sl w' w.heap.size u ys ∧ ys.length ≤ 30 ∧ (allB (-100) 100 xs = true ∧ allB (-100) 100 ys = true) ∧ Rdr w' R A c bs p' ∧ p' ≤ p + 200 ∧ w.grownBy w' (some R) := by
  have hR := blk_lt h.blk
  go_enter Try.func78, Try.ntmps78
  go_wp2_with fail
  refine (one_c R c p A bs [4, 5, 6, 3, 8, 2, 1, 0] _ _ (((h.alloc _).alloc _).alloc _) (by omega) hbl (lit_sl _ rfl (by simp) rfl (by simp) (by simp; omega)) (by simp)).mono ?_
  rintro e w2 ⟨⟨n0, hn0, rfl⟩, hrd2, hon2⟩
  have hn0' : 0 ≤ n0 ∧ n0 ≤ 8 := by simp at hn0; omega
  have hownX2 : Own w2 w.heap.size 3 (.slice (some ⟨w.heap.size, 0, none⟩) 0 0) [] := (((lit_own (w := w) [] rfl rfl rfl (by simp) (Nat.le_refl _)).alloc _).alloc _).only' hon2 hR
  have hownY2 : Own w2 w.heap.size 3 (.slice (some ⟨w.heap.size + 1, 0, none⟩) 0 0) [] := ((lit_own (w := w.alloc _) [] rfl (by simp) rfl (by simp) (by omega)).alloc _).only' hon2 hR
  have hold2 : w.grownBy w2 (some R) := old_only (old_alloc (old_alloc (old_alloc (old_refl w _) _) _) _) hon2
  have hsz2 := hold2.size
  obtain ⟨n, rfl⟩ := Int.eq_ofNat_of_zero_le hn0'.1
  clear hn0 hon2
  go_wp2_with fail
  go_loopg [4, 5] n (fun gk sx sy wr => ∃ (xs ys : List Int) (q : Nat), Own wr w.heap.size 3 sx xs ∧ Own wr w.heap.size 3 sy ys ∧ Apart sx sy ∧ Hid (xs.length + gk = n ∧ ys.length = xs.length) ∧ xs.length ≤ 8 ∧ ys.length ≤ 8 ∧ Hid (allB (-100) 100 xs = true ∧ allB (-100) 100 ys = true) ∧ Rdr wr R A c bs q ∧ q ≤ p + 1 + 5 * xs.length ∧ w.grownBy wr (some R))
  case atStart => exact ⟨[], [], p + 1, hownX2, hownY2, by intro g; simp [Value.ownBlock]; omega, ⟨by simp, rfl⟩, by simp, by simp, ⟨rfl, rfl⟩, hrd2, by simp, hold2⟩
  case round =>
    obtain ⟨xs, ys, q, hownx, howny, hap, hlen, hx7, hy7, hall, hrd, hq, hold⟩ := hrel
    obtain ⟨Ax, cx, rfl, hcx, hmx, _⟩ := hownx.sl
    by_cases hlt : (xs.length : Int) < (n : Int)
    · go_wp2_with fail
      refine (pick_c R c q A bs 13 _ hrd (by omega) (by omega) hbl).mono ?_
      rintro e w3 ⟨⟨x, rfl, hx⟩, hrd3, hon3⟩
      have hx' : 0 ≤ x ∧ x < 13 := hx.2 (by omega)
      have hownx3 := hownx.only' hon3 hR
      have howny3 := howny.only' hon3 hR
      have hold3 := old_only hold hon3
      clear hx hon3
      go_wp2_with fail
      refine (pick_c R c (q + 1) A bs 4 _ hrd3 (by omega) (by omega) hbl).mono ?_
      rintro e w4 ⟨⟨z, rfl, hz⟩, hrd4, hon4⟩
      have hownx4 := hownx3.only' hon4 hR
      have howny4 := howny3.only' hon4 hR
      have hold4 := old_only hold3 hon4
      have hsz4 := hold4.size
      clear hz hon4
      by_cases h0 : z = 0
      · subst h0
        go_wp2_with fail
        refine (pick_c R c (q + 1 + 1) A bs 61 _ hrd4 (by omega) (by omega) hbl).mono ?_
        rintro e w5 ⟨⟨y, rfl, hy⟩, hrd5, hon5⟩
        have hy' : 0 ≤ y ∧ y < 61 := hy.2 (by omega)
        have hownx5 := hownx4.only' hon5 hR
        have howny5 := howny4.only' hon5 hR
        have hold5 := old_only hold4 hon5
        have hsz5 := hold5.size
        clear hy hon5
        go_wp2_with (at_builtin; refine wpList_push_int _ rfl (.tmp 26) (.tmp 28) rfl ints w.heap.size _ xs (y - 30) _ 1 rfl rfl hownx5 hsz5 (by omega) ?_; intro v7 w7 hown7 hb7 hg7 hat7 hk7 hlt7; have howny7 := howny5.keep hg7 hap.ne; have hap7 := hap.grow (n := w5.heap.size + 1) hat7 (fun g hz => by have := World.ownsRow.lt howny5 g hz; omega); have hold7 := old_below hold5 hb7; have hrd7 := hrd5.below hb7 hR)
        refine (pick_c R c (q + 1 + 1 + 1) A bs 5 _ hrd7 (by omega) (by omega) hbl).mono ?_
        rintro e w8 ⟨⟨t, rfl, ht⟩, hrd8, hon8⟩
        have ht' : 0 ≤ t ∧ t < 5 := ht.2 (by omega)
        have hownx8 := hown7.only' hon8 hR
        have howny8 := howny7.only' hon8 hR
        have hold8 := old_only hold7 hon8
        clear ht hon8
        go_wp2_with fail
        refine (one_c R c (q + 1 + 1 + 1 + 1) A bs [1, 1, 2, 1 + t] _ _ (hrd8.alloc _) (by omega) hbl (lit_sl _ rfl (by simp) rfl (by simp) (by have := hold8.size; omega)) (by simp)).mono ?_
        rintro e w9 ⟨⟨s, hs, rfl⟩, hrd9, hon9⟩
        have hs' : 0 ≤ s ∧ s ≤ 6 := by simp at hs; omega
        have hownx9 := (hownx8.alloc _).only' hon9 hR
        have howny9 := (howny8.alloc _).only' hon9 hR
        have hold9 := old_only (old_alloc hold8 _) hon9
        have hsz9 := hold9.size
        clear hs hon9
        go_wp2_with (at_builtin; refine wpList_push_int _ rfl (.tmp 30) (.tmp 37) rfl ints w.heap.size _ ys s _ 1 rfl rfl howny9 hsz9 (by omega) ?_; intro va wa howna hba hga hata hka hlta)
        have hownxa := hownx9.keep hga hap7.symm.ne
        have hapa : Apart v7 va := (hap7.symm.grow (n := w9.heap.size + 1) hata (fun g hz => by have := World.ownsRow.lt hownx9 g hz; omega)).symm
        have holda := old_below hold9 hba
        go_roundg (gk - 1)
        case measure => have := hlen.out.1; omega
        case rel => exact ⟨_, _, q + 1 + 1 + 1 + 1 + 1, hownxa, howna, hapa, ⟨by have := hlen.out.1; simp; omega, by simp; exact hlen.out.2⟩, by have := hlen.out; simp; omega, by have := hlen.out; simp; omega, ⟨allB_snoc' hall.out.1 (by omega), allB_snoc' hall.out.2 (by omega)⟩, hrd9.below hba hR, by simp; omega, holda⟩
      · have hb0 : (z == 0) = false := beq_eq_false_iff_ne.2 h0
        go_wp2_with (at_builtin; refine wpList_push_int _ rfl (.tmp 26) (.tmp 28) rfl ints w.heap.size _ xs (x - 6) _ 1 rfl rfl hownx4 hsz4 (by omega) ?_; intro v7 w7 hown7 hb7 hg7 hat7 hk7 hlt7; have howny7 := howny4.keep hg7 hap.ne; have hap7 := hap.grow (n := w4.heap.size + 1) hat7 (fun g hz => by have := World.ownsRow.lt howny4 g hz; omega); have hold7 := old_below hold4 hb7; have hrd7 := hrd4.below hb7 hR)
        refine (pick_c R c (q + 1 + 1) A bs 5 _ hrd7 (by omega) (by omega) hbl).mono ?_
        rintro e w8 ⟨⟨t, rfl, ht⟩, hrd8, hon8⟩
        have ht' : 0 ≤ t ∧ t < 5 := ht.2 (by omega)
        have hownx8 := hown7.only' hon8 hR
        have howny8 := howny7.only' hon8 hR
        have hold8 := old_only hold7 hon8
        clear ht hon8
        go_wp2_with fail
        refine (one_c R c (q + 1 + 1 + 1) A bs [1, 1, 2, 1 + t] _ _ (hrd8.alloc _) (by omega) hbl (lit_sl _ rfl (by simp) rfl (by simp) (by have := hold8.size; omega)) (by simp)).mono ?_
        rintro e w9 ⟨⟨s, hs, rfl⟩, hrd9, hon9⟩
        have hs' : 0 ≤ s ∧ s ≤ 6 := by simp at hs; omega
        have hownx9 := (hownx8.alloc _).only' hon9 hR
        have howny9 := (howny8.alloc _).only' hon9 hR
        have hold9 := old_only (old_alloc hold8 _) hon9
        have hsz9 := hold9.size
        clear hs hon9
        go_wp2_with (at_builtin; refine wpList_push_int _ rfl (.tmp 30) (.tmp 37) rfl ints w.heap.size _ ys s _ 1 rfl rfl howny9 hsz9 (by omega) ?_; intro va wa howna hba hga hata hka hlta)
        have hownxa := hownx9.keep hga hap7.symm.ne
        have hapa : Apart v7 va := (hap7.symm.grow (n := w9.heap.size + 1) hata (fun g hz => by have := World.ownsRow.lt hownx9 g hz; omega)).symm
        have holda := old_below hold9 hba
        go_roundg (gk - 1)
        case measure => have := hlen.out.1; omega
        case rel => exact ⟨_, _, q + 1 + 1 + 1 + 1, hownxa, howna, hapa, ⟨by have := hlen.out.1; simp; omega, by simp; exact hlen.out.2⟩, by have := hlen.out; simp; omega, by have := hlen.out; simp; omega, ⟨allB_snoc' hall.out.1 (by omega), allB_snoc' hall.out.2 (by omega)⟩, hrd9.below hba hR, by simp; omega, holda⟩
    · go_wp2_with fail
      refine (pick_c R c q A bs 40 _ hrd (by omega) (by omega) hbl).mono ?_
      rintro e w3 ⟨⟨z, rfl, hz⟩, hrd3, hon3⟩
      have hownx3 := hownx.only' hon3 hR
      have howny3 := howny.only' hon3 hR
      have hold3 := old_only hold hon3
      have hsz3 := hold3.size
      clear hz hon3
      by_cases h0 : z = 0
      · subst h0
        go_wp2_with (at_builtin; refine wpList_push_int _ rfl (.tmp 44) (.tmp 45) rfl ints w.heap.size _ ys 1 _ 1 rfl rfl howny3 hsz3 (by omega) ?_; intro v5 w5 hown5 hb5 hg5 hat5 hk5 hlt5)
        go_ret2
        exact ⟨_, xs, _, _, q + 1, rfl, (hownx3.keep hg5 hap.symm.ne).sl, by omega, hown5.sl, by simp; omega, ⟨hall.out.1, allB_snoc' hall.out.2 (by omega)⟩, hrd3.below hb5 hR, by omega, old_below hold3 hb5⟩
      have hb0 : (z == 0) = false := beq_eq_false_iff_ne.2 h0
      by_cases h1 : z = 1
      · subst h1
        go_wp2_with (at_builtin; first
          | (refine wpList_push_int _ rfl (.tmp 49) (.tmp 50) rfl ints w.heap.size _ xs 31 _ 1 rfl rfl hownx3 hsz3 (by omega) ?_; intro v7 w7 hown7 hb7 hg7 hat7 hk7 hlt7; have howny7 := howny3.keep hg7 hap.ne; have hap7 := hap.grow (n := w3.heap.size + 1) hat7 (fun g hz => by have := World.ownsRow.lt howny3 g hz; omega); have hsz7 := (old_below hold3 hb7).size)
          | (refine wpList_push_int _ rfl (.tmp 52) (.tmp 53) rfl ints w.heap.size _ ys 1 _ 1 rfl rfl howny7 hsz7 (by omega) ?_; intro v8 w8 hown8 hb8 hg8 hat8 hk8 hlt8))
        have hownx8 := hown7.keep hg8 hap7.symm.ne
        go_ret2
        exact ⟨_, _, _, _, q + 1, rfl, hownx8.sl, by simp; omega, hown8.sl, by simp; omega, ⟨allB_snoc' hall.out.1 (by omega), allB_snoc' hall.out.2 (by omega)⟩, (hrd3.below hb7 hR).below hb8 hR, by omega, old_below (old_below hold3 hb7) hb8⟩
      have hb1 : (z == 1) = false := beq_eq_false_iff_ne.2 h1
      by_cases h2 : z = 2
      · subst h2
        go_wp2_with (at_builtin; refine wpList_push_int _ rfl (.tmp 57) (.tmp 58) rfl ints w.heap.size _ xs 1 _ 1 rfl rfl hownx3 hsz3 (by omega) ?_; intro v7 w7 hown7 hb7 hg7 hat7 hk7 hlt7; have howny7 := howny3.keep hg7 hap.ne; have hap7 := hap.grow (n := w3.heap.size + 1) hat7 (fun g hz => by have := World.ownsRow.lt howny3 g hz; omega); have hold7 := old_below hold3 hb7; have hrd7 := hrd3.below hb7 hR)
        refine (one_c R c (q + 1) A bs [0, 6] _ _ (hrd7.alloc _) (by omega) hbl (lit_sl _ rfl (by simp) rfl (by simp) (by have := hold7.size; omega)) (by simp)).mono ?_
        rintro e w8 ⟨⟨y, hy, rfl⟩, hrd8, hon8⟩
        have hy' : 0 ≤ y ∧ y ≤ 6 := by simp at hy; omega
        have hownx8 := (hown7.alloc _).only' hon8 hR
        have howny8 := (howny7.alloc _).only' hon8 hR
        have hold8 := old_only (old_alloc hold7 _) hon8
        have hsz8 := hold8.size
        clear hy
        go_wp2_with (at_builtin; refine wpList_push_int _ rfl (.tmp 60) (.tmp 64) rfl ints w.heap.size _ ys y _ 1 rfl rfl howny8 hsz8 (by omega) ?_; intro v9 w9 hown9 hb9 hg9 hat9 hk9 hlt9)
        have hownx9 := hownx8.keep hg9 hap7.symm.ne
        go_ret2
        exact ⟨_, _, _, _, q + 1 + 1, rfl, hownx9.sl, by simp; omega, hown9.sl, by simp; omega, ⟨allB_snoc' hall.out.1 (by omega), allB_snoc' hall.out.2 (by omega)⟩, hrd8.below hb9 hR, by omega, old_below hold8 hb9⟩
      have hb2 : (z == 2) = false := beq_eq_false_iff_ne.2 h2
      go_wp2_with fail
      go_ret2
      exact ⟨_, xs, _, ys, q + 1, rfl, hownx3.sl, by omega, howny3.sl, by omega, hall.out, hrd3, by omega, hold3⟩
end Go.Proofs.Ytahogdcmnpidiaa
