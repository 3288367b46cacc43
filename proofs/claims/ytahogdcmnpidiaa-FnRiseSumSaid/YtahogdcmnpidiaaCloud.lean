/-
  Contracts: what the statements on points draw.
-/
import Derived.Test.YtahogdcmnpidiaaPlace
import Derived.Test.YtahogdcmnpidiaaDraw
import Derived.Deep.LoopGhost
namespace Go.Proofs.Ytahogdcmnpidiaa
open Go.RowKit

/-- Two slices of the call's own do not share a block. -/
def Apart (s z : Value) : Prop := ∀ g, s.ownBlock = some g → z.ownBlock ≠ some g
theorem Apart.symm {s z : Value} (h : Apart s z) : Apart z s := fun g hz hs => h g hs hz
theorem Apart.grow {s s' z : Value} {n : Nat} (h : Apart s z) (hs : s'.ownBlock = s.ownBlock ∨ s'.ownBlock = some n) (hz : ∀ g, z.ownBlock = some g → g < n) : Apart s' z := by
  intro g hg hzg
  rcases hs with e | e
  · exact h g (e ▸ hg) hzg
  · have := hz g hzg
    rw [e] at hg
    simp at hg
    omega
theorem Apart.ne {s z : Value} (h : Apart s z) : z.ownBlock = none ∨ z.ownBlock ≠ s.ownBlock := by
  cases hz : z.ownBlock with
  | none => exact .inl rfl
  | some g => exact .inr fun e => h g e.symm hz
theorem own_shape {w : World} {B e : Nat} {v : Value} {xs : List Int} (h : Own w B e v xs) (h0 : 0 < xs.length) : ∃ g c, v = .slice (some ⟨g, 0, none⟩) xs.length c ∧ xs.length ≤ c := by
  obtain ⟨hl, h1 | ⟨g, cap, cur, hv, _, _, hn, _⟩⟩ := h
  · have := h1.2; omega
  · exact ⟨g, cap, hv, hn⟩
theorem allB_snoc' {lo hi x : Int} {xs : List Int} (h : allB lo hi xs = true) (hx : lo ≤ x ∧ x ≤ hi) : allB lo hi (xs ++ [x]) = true := by
  rw [allB_snoc, h]
  simpa using hx
theorem allB_set {lo hi x : Int} {xs : List Int} {i : Nat} (h : allB lo hi xs = true) (hx : lo ≤ x ∧ x ≤ hi) : allB lo hi (xs.set i x) = true := allB_iff.2 fun y hy => by
  rcases List.mem_or_eq_of_mem_set hy with h1 | h1
  · exact allB_iff.1 h y h1
  · subst h1; exact hx
theorem old_tr {R : Option Nat} {a b c : World} (h : a.grownBy b R) (k : b.grownBy c R) : a.grownBy c R :=
  ⟨k.os.trans h.os, k.tape.trans h.tape, k.output.trans h.output, Nat.le_trans h.size k.size, fun i hi hne => (k.block i (Nat.lt_of_lt_of_le hi h.size) hne).trans (h.block i hi hne)⟩

set_option maxHeartbeats 4000000 in
theorem someCloud_c (R c p : Nat) (A : Option Addr) (bs : List Int) (w : World) (h : Rdr w R A c bs p) (hp : p ≤ 100) (hbl : bs.length ≤ 2000) :
    Calls Try.prog 65 #[.pointer (some ⟨R, 0, none⟩)] w fun e w' => ∃ v xs u ys p', e = .returned (.tuple #[v, u]) ∧ Sl w' w.heap.size v xs ∧ xs.length ≤ 30 ∧ Sl w' w.heap.size u ys ∧ ys.length ≤ 30 ∧ (allB (-100) 100 xs = true ∧ allB (-100) 100 ys = true) ∧ Rdr w' R A c bs p' ∧ p' ≤ p + 200 ∧ w.grownBy w' (some R) := by
  have hR := blk_lt h.blk
  go_enter Try.func65, Try.ntmps65
  go_wp2_with fail
  refine (pick_c R c p A bs 3 _ ((h.alloc _).alloc _) (by omega) (by omega) hbl).mono ?_
  rintro e w1 ⟨⟨a0, rfl, ha0⟩, hrd1, hon1⟩
  have ha0' : 0 ≤ a0 ∧ a0 < 3 := ha0.2 (by omega)
  have hownX1 : Own w1 w.heap.size 3 (.slice (some ⟨w.heap.size, 0, none⟩) 0 0) [] := ((lit_own (w := w) [] rfl rfl rfl (by simp) (Nat.le_refl _)).alloc _).only' hon1 hR
  have hownY1 : Own w1 w.heap.size 3 (.slice (some ⟨w.heap.size + 1, 0, none⟩) 0 0) [] := (lit_own (w := w.alloc _) [] rfl (by simp) rfl (by simp) (by omega)).only' hon1 hR
  have hold1 : w.grownBy w1 (some R) := old_only (old_alloc (old_alloc (old_refl w _) _) _) hon1
  have hsz1 := hold1.size
  clear ha0 hon1
  go_wp2_with fail
  refine (one_c R c (p + 1) A bs [4, 5, 3, 6, 2, 7, 1, 0] _ _ (hrd1.alloc _) (by omega) hbl (lit_sl _ rfl (by simp) rfl (by simp) (by omega)) (by simp)).mono ?_
  rintro e w2 ⟨⟨n0, hn0, rfl⟩, hrd2, hon2⟩
  have hn0' : 0 ≤ n0 ∧ n0 ≤ 7 := by simp at hn0; omega
  have hownX2 := (hownX1.alloc _).only' hon2 hR
  have hownY2 := (hownY1.alloc _).only' hon2 hR
  have hold2 : w.grownBy w2 (some R) := old_only (old_alloc hold1 _) hon2
  have hsz2 := hold2.size
  obtain ⟨n, rfl⟩ := Int.eq_ofNat_of_zero_le hn0'.1
  clear hn0 hon2 hownX1 hownY1 hrd1 hold1
  go_wp2_with fail
  go_loopg [4, 5, 8, 9] n (fun gk sx sy x y wr => ∃ (xs ys : List Int) (q : Nat), Own wr w.heap.size 3 sx xs ∧ Own wr w.heap.size 3 sy ys ∧ Apart sx sy ∧ Hid (xs.length + gk = n ∧ ys.length = xs.length) ∧ xs.length ≤ 7 ∧ ys.length ≤ 7 ∧ Hid (allB (-100) 100 xs = true ∧ allB (-100) 100 ys = true) ∧ Rdr wr R A c bs q ∧ q ≤ p + 2 + 4 * xs.length ∧ w.grownBy wr (some R))
  case atStart => exact ⟨[], [], p + 2, hownX2, hownY2, by intro g; simp [Value.ownBlock]; omega, ⟨by simp, rfl⟩, by simp, by simp, ⟨rfl, rfl⟩, hrd2, by simp, hold2⟩
  case round =>
    obtain ⟨xs, ys, q, hownx, howny, hap, hlen, hx7, hy7, hall, hrd, hq, hold⟩ := hrel
    obtain ⟨Ax, cx, rfl, hcx, hmx, _⟩ := hownx.sl
    by_cases hlt : (xs.length : Int) < (n : Int)
    · go_wp2_with fail
      refine (pick_c R c q A bs 11 _ hrd (by omega) (by omega) hbl).mono ?_
      rintro e w3 ⟨⟨x, rfl, hx⟩, hrd3, hon3⟩
      have hx' : 0 ≤ x ∧ x < 11 := hx.2 (by omega)
      have hownx3 := hownx.only' hon3 hR
      have howny3 := howny.only' hon3 hR
      have hold3 := old_only hold hon3
      clear hx hon3
      go_wp2_with fail
      refine (pick_c R c (q + 1) A bs 25 _ hrd3 (by omega) (by omega) hbl).mono ?_
      rintro e w4 ⟨⟨y, rfl, hy⟩, hrd4, hon4⟩
      have hy' : 0 ≤ y ∧ y < 25 := hy.2 (by omega)
      have hownx4 := hownx3.only' hon4 hR
      have howny4 := howny3.only' hon4 hR
      have hold4 := old_only hold3 hon4
      clear hy hon4
      go_wp2_with fail
      refine (pick_c R c (q + 1 + 1) A bs 2 _ hrd4 (by omega) (by omega) hbl).mono ?_
      rintro e w5 ⟨⟨z, rfl, hz⟩, hrd5, hon5⟩
      have hownx5 := hownx4.only' hon5 hR
      have howny5 := howny4.only' hon5 hR
      have hold5 := old_only hold4 hon5
      have hsz5 := hold5.size
      clear hz hon5
      by_cases h0 : z = 0
      · subst h0
        have hmul : -12 ≤ (a0 - 1) * (x - 5) ∧ (a0 - 1) * (x - 5) ≤ 12 := by
          have := mul_abs_bd (a := a0 - 1) (x := x - 5) (m := 1) (n := 5) (by omega) (by omega) (by omega) (by omega)
          omega
        go_wp2_with fail
        refine (pick_c R c (q + 1 + 1 + 1) A bs 4 _ hrd5 (by omega) (by omega) hbl).mono ?_
        rintro e w6 ⟨⟨t, rfl, ht⟩, hrd6, hon6⟩
        have ht' : 0 ≤ t ∧ t < 4 := ht.2 (by omega)
        have hownx6 := hownx5.only' hon6 hR
        have howny6 := howny5.only' hon6 hR
        have hold6 := old_only hold5 hon6
        have hsz6 := hold6.size
        clear ht hon6
        go_wp2_with (at_builtin; first
          | (refine wpList_push_int _ rfl (.tmp 38) (.tmp 40) rfl ints w.heap.size _ xs (x - 5) _ 1 rfl rfl hownx6 hsz6 (by omega) ?_; intro v7 w7 hown7 hb7 hg7 hat7 hk7 hlt7; have howny7 := howny6.keep hg7 hap.ne; have hap7 := hap.grow (n := w6.heap.size + 1) hat7 (fun g hz => by have := World.ownsRow.lt howny6 g hz; omega); have hsz7 := (old_below hold6 hb7).size)
          | (refine wpList_push_int _ rfl (.tmp 42) (.tmp 44) rfl ints w.heap.size _ ys ((a0 - 1) * (x - 5) + t - 1) _ 1 rfl rfl howny7 hsz7 (by omega) ?_; intro v8 w8 hown8 hb8 hg8 hat8 hk8 hlt8))
        have hownx8 := hown7.keep hg8 hap7.symm.ne
        have hap8 : Apart v7 v8 := (hap7.symm.grow (n := w7.heap.size + 1) hat8 (fun g hz => by have := World.ownsRow.lt hown7 g hz; omega)).symm
        have hold8 := old_below (old_below hold6 hb7) hb8
        go_roundg (gk - 1)
        case measure => have := hlen.out.1; omega
        case rel => exact ⟨_, _, q + 1 + 1 + 1 + 1, hownx8, hown8, hap8, ⟨by have := hlen.out.1; simp; omega, by simp; exact hlen.out.2⟩, by have := hlen.out; simp; omega, by have := hlen.out; simp; omega, ⟨allB_snoc' hall.out.1 (by omega), allB_snoc' hall.out.2 (by omega)⟩, (hrd6.below hb7 hR).below hb8 hR, by simp; omega, hold8⟩
      · have hb0 : (z == 0) = false := beq_eq_false_iff_ne.2 h0
        have hrd6 := hrd5
        have hownx6 := hownx5
        have howny6 := howny5
        have hold6 := hold5
        have hsz6 := hsz5
        go_wp2_with (at_builtin; first
          | (refine wpList_push_int _ rfl (.tmp 38) (.tmp 40) rfl ints w.heap.size _ xs (x - 5) _ 1 rfl rfl hownx6 hsz6 (by omega) ?_; intro v7 w7 hown7 hb7 hg7 hat7 hk7 hlt7; have howny7 := howny6.keep hg7 hap.ne; have hap7 := hap.grow (n := w5.heap.size + 1) hat7 (fun g hz => by have := World.ownsRow.lt howny6 g hz; omega); have hsz7 := (old_below hold6 hb7).size)
          | (refine wpList_push_int _ rfl (.tmp 42) (.tmp 44) rfl ints w.heap.size _ ys (y - 12) _ 1 rfl rfl howny7 hsz7 (by omega) ?_; intro v8 w8 hown8 hb8 hg8 hat8 hk8 hlt8))
        have hownx8 := hown7.keep hg8 hap7.symm.ne
        have hap8 : Apart v7 v8 := (hap7.symm.grow (n := w7.heap.size + 1) hat8 (fun g hz => by have := World.ownsRow.lt hown7 g hz; omega)).symm
        have hold8 := old_below (old_below hold6 hb7) hb8
        go_roundg (gk - 1)
        case measure => have := hlen.out.1; omega
        case rel => exact ⟨_, _, q + 1 + 1 + 1, hownx8, hown8, hap8, ⟨by have := hlen.out.1; simp; omega, by simp; exact hlen.out.2⟩, by have := hlen.out; simp; omega, by have := hlen.out; simp; omega, ⟨allB_snoc' hall.out.1 (by omega), allB_snoc' hall.out.2 (by omega)⟩, (hrd6.below hb7 hR).below hb8 hR, by simp; omega, hold8⟩
    · go_wp2_with fail
      refine (pick_c R c q A bs 30 _ hrd (by omega) (by omega) hbl).mono ?_
      rintro e w3 ⟨⟨z, rfl, hz⟩, hrd3, hon3⟩
      have hownx3 := hownx.only' hon3 hR
      have howny3 := howny.only' hon3 hR
      have hold3 := old_only hold hon3
      have hsz3 := hold3.size
      clear hz hon3
      by_cases h0 : z = 0
      · subst h0
        go_wp2_with (at_builtin; refine wpList_push_int _ rfl (.tmp 51) (.tmp 52) rfl ints w.heap.size _ ys 0 _ 1 rfl rfl howny3 hsz3 (by omega) ?_; intro v5 w5 hown5 hb5 hg5 hat5 hk5 hlt5)
        go_ret2
        exact ⟨_, xs, _, _, q + 1, rfl, (hownx3.keep hg5 hap.symm.ne).sl, by omega, hown5.sl, by simp; omega, ⟨hall.out.1, allB_snoc' hall.out.2 (by omega)⟩, hrd3.below hb5 hR, by omega, old_below hold3 hb5⟩
      · have hb0 : (z == 0) = false := beq_eq_false_iff_ne.2 h0
        by_cases h1 : z = 1
        · subst h1
          by_cases hl0 : 0 < xs.length
          · obtain ⟨g, cc, hge, hcc⟩ := own_shape hownx3 hl0
            injection hge with e1 e2 e3
            subst e1 e3
            have hl0' : (0 : Int) < (xs.length : Int) := by omega
            go_wp2_with fail
            refine (one_c R c (q + 1) A bs [13, -13, 12] _ _ (hrd3.alloc _) (by omega) hbl (lit_sl _ rfl (by simp) rfl (by simp) (by omega)) (by simp)).mono ?_
            rintro e w4 ⟨⟨x8, hx8, rfl⟩, hrd4, hon4⟩
            have hownx4 := (hownx3.alloc _).only' hon4 hR
            have howny4 := (howny3.alloc _).only' hon4 hR
            have hold4 := old_only (old_alloc hold3 _) hon4
            have k0 := hownx4.cell (j := 0) hl0
            have f0 := hownx4.frozen 0
            have hgl := hownx4.lt
            have hset := hownx4.set 0 x8
            have hyset := howny4.setOther (p := ⟨g, 0, none⟩) (fun e => hap g rfl e) (.int .i64 x8)
            have hx8' : -100 ≤ x8 ∧ x8 ≤ 100 := by simp at hx8; omega
            clear hx8
            go_wp2_with fail
            go_ret2
            exact ⟨_, xs.set 0 x8, _, ys, q + 1 + 1, rfl, by have := hset.sl; simpa using this, by simp; omega, hyset.sl, by omega, ⟨allB_set hall.out.1 (by omega), hall.out.2⟩, hrd4.keep fun k hk => Below.heap_setCell _ _ _ _ (by simp; omega), by omega, old_below hold4 (Below.setCell (Below.refl _ _) (by exact hgl.1) _)⟩
          · have hl0' : ¬ (0 : Int) < (xs.length : Int) := by omega
            go_wp2_with fail
            go_ret2
            exact ⟨_, xs, _, ys, q + 1, rfl, hownx3.sl, by omega, howny3.sl, by omega, hall.out, hrd3, by omega, hold3⟩
        · have hb1 : (z == 1) = false := beq_eq_false_iff_ne.2 h1
          go_wp2_with fail
          go_ret2
          exact ⟨_, xs, _, ys, q + 1, rfl, hownx3.sl, by omega, howny3.sl, by omega, hall.out, hrd3, by omega, hold3⟩
end Go.Proofs.Ytahogdcmnpidiaa
