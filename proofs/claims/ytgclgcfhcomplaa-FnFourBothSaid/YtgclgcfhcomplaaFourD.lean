/-
  Contracts: what the statements on tables of four draw; whether a number is in a list; whether a list ascends.
-/
import Derived.Test.YtgclgcfhcomplaaFourI
import Derived.Test.YtgclgcfhcomplaaDrawT
namespace Go.Proofs.Ytgclgcfhcomplaa
open Go.RowKit

theorem blk_only {R g : Nat} {w w' : World} {o : Obj} (h : w.heap[g]? = some o) (hon : Only R w w') (hne : g ≠ R) : w'.heap[g]? = some o := (hon.block g hne).trans h
theorem blk_alloc {g : Nat} {w : World} {o o' : Obj} (h : w.heap[g]? = some o) : (w.alloc o').heap[g]? = some o := (Below.heap_alloc w o' g (blk_lt h)).trans h

theorem rd8_alloc {w : World} {A : Option Addr} {bs : List Int} (h : Rd8 w w.heap.size A bs) (o : Obj) : Rd8 (w.alloc o) (w.alloc o).heap.size A bs := by
  refine ⟨h.1, fun hp => ?_⟩
  obtain ⟨g, off, h1, h2, h3⟩ := h.2 hp
  exact ⟨g, off, h1, by simp; omega, fun j hj => (World.cell?_alloc_lt _ _ _ h2).trans (h3 j hj)⟩

set_option maxHeartbeats 2000000 in
theorem aFour_c (R c' p : Nat) (A' : Option Addr) (bs' : List Int) (w1 : World) (hrd1 : Rdr w1 R A' c' bs' p) (hp : p ≤ 900) (hbl : bs'.length ≤ 2000) :
    Calls Try.prog 46 #[.pointer (some ⟨R, 0, none⟩)] w1 fun e w' => ∃ a b c d : Int, e = .returned (.agg #[.int .i64 (a), .int .i64 (b), .int .i64 (c), .int .i64 (d)]) ∧ (-100 ≤ a ∧ a ≤ 100) ∧ (-100 ≤ b ∧ b ≤ 100) ∧ (-100 ≤ c ∧ c ≤ 100) ∧ (-100 ≤ d ∧ d ≤ 100) ∧ w1.grownBy w' (some R) := by
  have hRl := blk_lt hrd1.blk
  have hG0 := heap_alloc_new w1 (.cells #[.int .i64 0, .int .i64 0, .int .i64 0, .int .i64 0] 24)
  have hne1 : w1.heap.size ≠ R := by omega
  have hold0 := old_alloc (old_refl w1 (some R)) (.cells #[.int .i64 0, .int .i64 0, .int .i64 0, .int .i64 0] 24)
  go_enter Try.func46, Try.ntmps46
  go_wp2_with fail
  refine (pick_c R c' _ A' bs' 6 _ (hrd1.alloc _) (by omega) (by omega) hbl).mono ?_
  rintro e w2 ⟨⟨x2, rfl, hx2⟩, hrd2, hon2⟩
  have hG2 := blk_only hG0 hon2 hne1
  have hold2 := old_only hold0 hon2
  have hx2' : 0 ≤ x2 ∧ x2 < 6 := hx2.2 (by omega)
  clear hx2 hG0
  go_wp2_with fail
  refine (pick_c R c' _ A' bs' 6 _ hrd2 (by omega) (by omega) hbl).mono ?_
  rintro e w3 ⟨⟨x3, rfl, hx3⟩, hrd3, hon3⟩
  have hG3 := blk_only hG2 hon3 hne1
  have hold3 := old_only hold2 hon3
  have hx3' : 0 ≤ x3 ∧ x3 < 6 := hx3.2 (by omega)
  clear hx3 hG2
  go_wp2_with fail
  refine (pick_c R c' _ A' bs' 6 _ hrd3 (by omega) (by omega) hbl).mono ?_
  rintro e w4 ⟨⟨x4, rfl, hx4⟩, hrd4, hon4⟩
  have hG4 := blk_only hG3 hon4 hne1
  have hold4 := old_only hold3 hon4
  have hx4' : 0 ≤ x4 ∧ x4 < 6 := hx4.2 (by omega)
  clear hx4 hG3
  go_wp2_with fail
  refine (pick_c R c' _ A' bs' 9 _ hrd4 (by omega) (by omega) hbl).mono ?_
  rintro e w5 ⟨⟨x5, rfl, hx5⟩, hrd5, hon5⟩
  have hG5 := blk_only hG4 hon5 hne1
  have hold5 := old_only hold4 hon5
  have hx5' : 0 ≤ x5 ∧ x5 < 9 := hx5.2 (by omega)
  have hsz5 := hold5.size
  clear hx5 hG4
  have hT := heap_alloc_new w5 (.cells #[.int .i64 x2, .int .i64 x3, .int .i64 x4, .int .i64 x5] 24)
  have hold6 := old_alloc hold5 (.cells #[.int .i64 x2, .int .i64 x3, .int .i64 x4, .int .i64 x5] 24)
  have hG6 := blk_alloc (o' := .cells #[.int .i64 x2, .int .i64 x3, .int .i64 x4, .int .i64 x5] 24) hG5
  have hne5 : w5.heap.size ≠ R := by omega
  have hlt1 := blk_lt hG5
  have hne15 : w5.heap.size ≠ w1.heap.size := by omega
  clear hG5
  go_wp2_with fail
  refine (pick_c R c' _ A' bs' 30 _ (hrd5.alloc _) (by omega) (by omega) hbl).mono ?_
  rintro e w7 ⟨⟨x7, rfl, hx7⟩, hrd7, hon7⟩
  have hT7 := blk_only hT hon7 hne5
  have hG7 := blk_only hG6 hon7 hne1
  have hold7 := old_only hold6 hon7
  have hsz7 := hold7.size
  clear hx7 hT hG6
  obtain ⟨g, hg⟩ : ∃ g, w5.heap.size = g := ⟨_, rfl⟩
  have hg1 : w1.heap.size ≤ g := by omega
  rw [hg] at hT7 hne5 hne15 ⊢
  clear hg
  by_cases h0 : x7 = 0
  · subst h0
    go_wp2_with fail
    refine (one_c R c' _ A' bs' [-1, 9] _ _ (hrd7.alloc _) (by omega) hbl (lit_sl _ rfl (by simp) rfl (by simp) (by omega)) (by simp)).mono ?_
    rintro e w8 ⟨⟨x8, hx8, rfl⟩, hrd8, hon8⟩
    have hx8' : -1 ≤ x8 ∧ x8 ≤ 9 := by simp at hx8; omega
    have hT8 := blk_only (blk_alloc hT7) hon8 hne5
    have hG8 := blk_only (blk_alloc hG7) hon8 hne1
    have hold8 := old_only (old_alloc hold7 _) hon8
    have t0 : w8.cell? ⟨g, 0, none⟩ = _ := blk_cell hT8 0
    have t1 : w8.cell? ⟨g, 1, none⟩ = _ := blk_cell hT8 1
    have t2 : w8.cell? ⟨g, 2, none⟩ = _ := blk_cell hT8 2
    have t3 : w8.cell? ⟨g, 3, none⟩ = _ := blk_cell hT8 3
    have f1 : w8.frozen? ⟨g, 1, none⟩ = false := blk_frozen hT8 1
    have s0 : w8.cell? ⟨w1.heap.size, 0, none⟩ = _ := blk_cell hG8 0
    have s1 : w8.cell? ⟨w1.heap.size, 1, none⟩ = _ := blk_cell hG8 1
    have s2 : w8.cell? ⟨w1.heap.size, 2, none⟩ = _ := blk_cell hG8 2
    have s3 : w8.cell? ⟨w1.heap.size, 3, none⟩ = _ := blk_cell hG8 3
    have k0 : w8.frozen? ⟨w1.heap.size, 0, none⟩ = false := blk_frozen hG8 0
    have k1 : w8.frozen? ⟨w1.heap.size, 1, none⟩ = false := blk_frozen hG8 1
    have k2 : w8.frozen? ⟨w1.heap.size, 2, none⟩ = false := blk_frozen hG8 2
    have k3 : w8.frozen? ⟨w1.heap.size, 3, none⟩ = false := blk_frozen hG8 3
    clear hx8 hT7 hG7 hT8 hG8
    simp at t0 t1 t2 t3 s0 s1 s2 s3
    go_wp2_with fail
    refine bodyPost_ret (v := .agg #[.int .i64 (x2), .int .i64 (x8), .int .i64 (x4), .int .i64 (x5)]) (by simp [results, Try.results46, go_sem, s0, s1, s2, s3, hne15]) rfl ⟨x2, x8, x4, x5, rfl, by omega, by omega, by omega, by omega, old_below hold8 (by (repeat (first | exact Below.refl _ _ | assumption | refine Below.setCell ?_ (by first | (simp; done) | omega | (simp; omega) | (simp at *; omega)) _ | refine Below.drew ?_ | refine below_drewN ?_ _ | refine below_alloc' ?_ _ | refine below_to' ?_ (by assumption))))⟩
  · have hb0 : (x7 == 0) = false := beq_eq_false_iff_ne.2 h0
    have t0 : w7.cell? ⟨g, 0, none⟩ = _ := blk_cell hT7 0
    have t1 : w7.cell? ⟨g, 1, none⟩ = _ := blk_cell hT7 1
    have t2 : w7.cell? ⟨g, 2, none⟩ = _ := blk_cell hT7 2
    have t3 : w7.cell? ⟨g, 3, none⟩ = _ := blk_cell hT7 3
    have s0 : w7.cell? ⟨w1.heap.size, 0, none⟩ = _ := blk_cell hG7 0
    have s1 : w7.cell? ⟨w1.heap.size, 1, none⟩ = _ := blk_cell hG7 1
    have s2 : w7.cell? ⟨w1.heap.size, 2, none⟩ = _ := blk_cell hG7 2
    have s3 : w7.cell? ⟨w1.heap.size, 3, none⟩ = _ := blk_cell hG7 3
    have k0 : w7.frozen? ⟨w1.heap.size, 0, none⟩ = false := blk_frozen hG7 0
    have k1 : w7.frozen? ⟨w1.heap.size, 1, none⟩ = false := blk_frozen hG7 1
    have k2 : w7.frozen? ⟨w1.heap.size, 2, none⟩ = false := blk_frozen hG7 2
    have k3 : w7.frozen? ⟨w1.heap.size, 3, none⟩ = false := blk_frozen hG7 3
    clear hT7 hG7
    simp at t0 t1 t2 t3 s0 s1 s2 s3
    go_wp2_with fail
    refine bodyPost_ret (v := .agg #[.int .i64 (x2), .int .i64 (x3), .int .i64 (x4), .int .i64 (x5)]) (by simp [results, Try.results46, go_sem, s0, s1, s2, s3, hne15]) rfl ⟨x2, x3, x4, x5, rfl, by omega, by omega, by omega, by omega, old_below hold7 (by (repeat (first | exact Below.refl _ _ | assumption | refine Below.setCell ?_ (by first | (simp; done) | omega | (simp; omega) | (simp at *; omega)) _ | refine Below.drew ?_ | refine below_drewN ?_ _ | refine below_alloc' ?_ _ | refine below_to' ?_ (by assumption))))⟩

set_option maxHeartbeats 1000000 in
theorem DrawFoursLike_c (A : Option Addr) (n c : Nat) (bs : List Int) (w : World) (hl : bs.length = n) (hnc : n ≤ c) (hc : c ≤ 9223372036854775807) (hr : Rd8 w w.heap.size A bs) :
    Calls Try.prog 12 #[.slice A n c] w fun e w' => ∃ a b c d : Int, e = .returned (.agg #[.int .i64 (a), .int .i64 (b), .int .i64 (c), .int .i64 (d)]) ∧ (-100 ≤ a ∧ a ≤ 100) ∧ (-100 ≤ b ∧ b ≤ 100) ∧ (-100 ≤ c ∧ c ≤ 100) ∧ (-100 ≤ d ∧ d ≤ 100) ∧ Below w.heap.size w w' := by
  have hr' : Rd8 (w.alloc (.cells #[.int .i64 0, .int .i64 0, .int .i64 0, .int .i64 0] 24)) (w.alloc (.cells #[.int .i64 0, .int .i64 0, .int .i64 0, .int .i64 0] 24)).heap.size A bs := rd8_alloc hr _
  have hG := heap_alloc_new w (.cells #[.int .i64 0, .int .i64 0, .int .i64 0, .int .i64 0] 24)
  have hbW : Below w.heap.size w (w.alloc (.cells #[.int .i64 0, .int .i64 0, .int .i64 0, .int .i64 0] 24)) := (Below.refl _ _).alloc (Nat.le_refl _) _
  have hWs : (w.alloc (.cells #[.int .i64 0, .int .i64 0, .int .i64 0, .int .i64 0] 24)).heap.size = w.heap.size + 1 := by simp
  obtain ⟨W, hW⟩ : ∃ W, w.alloc (.cells #[.int .i64 0, .int .i64 0, .int .i64 0, .int .i64 0] 24) = W := ⟨_, rfl⟩
  rw [hW] at hr' hG hbW hWs
  go_enter Try.func12, Try.ntmps12
  go_wp2_with fail
  refine (newReader_c A n c bs _ hl hnc hc hr').mono ?_
  rintro e w1 ⟨R, bs', rfl, hbl, hR, ⟨A', c', hrd1⟩, hb1⟩
  have hG1 := (hb1.block w.heap.size (by omega)).trans hG
  have hsz1 := hb1.size
  go_wp2_with fail
  refine (aFour_c R c' _ A' bs' _ hrd1 (by omega) hbl).mono ?_
  rintro e w2 ⟨a, b, c0, d, rfl, ha, hb, hc0, hd, hold⟩
  have hG2 := (hold.block w.heap.size (by omega) (by simp; omega)).trans hG1
  have hbw2 : Below w.heap.size w w2 := (hbW.trans (hb1.mono (by omega))).trans (old_belowR hold (by omega) (by omega))
  have s0 : w2.cell? ⟨w.heap.size, 0, none⟩ = _ := blk_cell hG2 0
  have s1 : w2.cell? ⟨w.heap.size, 1, none⟩ = _ := blk_cell hG2 1
  have s2 : w2.cell? ⟨w.heap.size, 2, none⟩ = _ := blk_cell hG2 2
  have s3 : w2.cell? ⟨w.heap.size, 3, none⟩ = _ := blk_cell hG2 3
  have k0 : w2.frozen? ⟨w.heap.size, 0, none⟩ = false := blk_frozen hG2 0
  have k1 : w2.frozen? ⟨w.heap.size, 1, none⟩ = false := blk_frozen hG2 1
  have k2 : w2.frozen? ⟨w.heap.size, 2, none⟩ = false := blk_frozen hG2 2
  have k3 : w2.frozen? ⟨w.heap.size, 3, none⟩ = false := blk_frozen hG2 3
  clear hG hG1 hG2 hW
  simp at s0 s1 s2 s3
  go_wp2_with fail
  refine bodyPost_ret (v := .agg #[.int .i64 (a), .int .i64 (b), .int .i64 (c0), .int .i64 (d)]) (by simp [results, Try.results12, go_sem, s0, s1, s2, s3]) rfl ⟨a, b, c0, d, rfl, ha, hb, hc0, hd, by (repeat (first | exact Below.refl _ _ | assumption | refine Below.setCell ?_ (by first | (simp; done) | omega | (simp; omega) | (simp at *; omega)) _ | refine Below.drew ?_ | refine below_drewN ?_ _ | refine below_alloc' ?_ _ | refine below_to' ?_ (by assumption)))⟩

set_option maxHeartbeats 1000000 in
theorem DrawFourBoth_c (A : Option Addr) (n c : Nat) (bs : List Int) (w : World) (hl : bs.length = n) (hnc : n ≤ c) (hc : c ≤ 9223372036854775807) (hr : Rd8 w w.heap.size A bs) :
    Calls Try.prog 35 #[.slice A n c] w fun e w' => ∃ a b c d : Int, e = .returned (.agg #[.int .i64 (a), .int .i64 (b), .int .i64 (c), .int .i64 (d)]) ∧ (-100 ≤ a ∧ a ≤ 100) ∧ (-100 ≤ b ∧ b ≤ 100) ∧ (-100 ≤ c ∧ c ≤ 100) ∧ (-100 ≤ d ∧ d ≤ 100) ∧ Below w.heap.size w w' := by
  have hr' : Rd8 (w.alloc (.cells #[.int .i64 0, .int .i64 0, .int .i64 0, .int .i64 0] 24)) (w.alloc (.cells #[.int .i64 0, .int .i64 0, .int .i64 0, .int .i64 0] 24)).heap.size A bs := rd8_alloc hr _
  have hG := heap_alloc_new w (.cells #[.int .i64 0, .int .i64 0, .int .i64 0, .int .i64 0] 24)
  have hbW : Below w.heap.size w (w.alloc (.cells #[.int .i64 0, .int .i64 0, .int .i64 0, .int .i64 0] 24)) := (Below.refl _ _).alloc (Nat.le_refl _) _
  have hWs : (w.alloc (.cells #[.int .i64 0, .int .i64 0, .int .i64 0, .int .i64 0] 24)).heap.size = w.heap.size + 1 := by simp
  obtain ⟨W, hW⟩ : ∃ W, w.alloc (.cells #[.int .i64 0, .int .i64 0, .int .i64 0, .int .i64 0] 24) = W := ⟨_, rfl⟩
  rw [hW] at hr' hG hbW hWs
  go_enter Try.func35, Try.ntmps35
  go_wp2_with fail
  refine (newReader_c A n c bs _ hl hnc hc hr').mono ?_
  rintro e w1 ⟨R, bs', rfl, hbl, hR, ⟨A', c', hrd1⟩, hb1⟩
  have hG1 := (hb1.block w.heap.size (by omega)).trans hG
  have hsz1 := hb1.size
  go_wp2_with fail
  refine (aFour_c R c' _ A' bs' _ hrd1 (by omega) hbl).mono ?_
  rintro e w2 ⟨a, b, c0, d, rfl, ha, hb, hc0, hd, hold⟩
  have hG2 := (hold.block w.heap.size (by omega) (by simp; omega)).trans hG1
  have hbw2 : Below w.heap.size w w2 := (hbW.trans (hb1.mono (by omega))).trans (old_belowR hold (by omega) (by omega))
  have s0 : w2.cell? ⟨w.heap.size, 0, none⟩ = _ := blk_cell hG2 0
  have s1 : w2.cell? ⟨w.heap.size, 1, none⟩ = _ := blk_cell hG2 1
  have s2 : w2.cell? ⟨w.heap.size, 2, none⟩ = _ := blk_cell hG2 2
  have s3 : w2.cell? ⟨w.heap.size, 3, none⟩ = _ := blk_cell hG2 3
  have k0 : w2.frozen? ⟨w.heap.size, 0, none⟩ = false := blk_frozen hG2 0
  have k1 : w2.frozen? ⟨w.heap.size, 1, none⟩ = false := blk_frozen hG2 1
  have k2 : w2.frozen? ⟨w.heap.size, 2, none⟩ = false := blk_frozen hG2 2
  have k3 : w2.frozen? ⟨w.heap.size, 3, none⟩ = false := blk_frozen hG2 3
  clear hG hG1 hG2 hW
  simp at s0 s1 s2 s3
  go_wp2_with fail
  refine bodyPost_ret (v := .agg #[.int .i64 (a), .int .i64 (b), .int .i64 (c0), .int .i64 (d)]) (by simp [results, Try.results35, go_sem, s0, s1, s2, s3]) rfl ⟨a, b, c0, d, rfl, ha, hb, hc0, hd, by (repeat (first | exact Below.refl _ _ | assumption | refine Below.setCell ?_ (by first | (simp; done) | omega | (simp; omega) | (simp at *; omega)) _ | refine Below.drew ?_ | refine below_drewN ?_ _ | refine below_alloc' ?_ _ | refine below_to' ?_ (by assumption)))⟩

set_option maxHeartbeats 1000000 in
theorem DrawFourChance_c (A : Option Addr) (n c : Nat) (bs : List Int) (w : World) (hl : bs.length = n) (hnc : n ≤ c) (hc : c ≤ 9223372036854775807) (hr : Rd8 w w.heap.size A bs) :
    Calls Try.prog 40 #[.slice A n c] w fun e w' => ∃ a b c d : Int, e = .returned (.agg #[.int .i64 (a), .int .i64 (b), .int .i64 (c), .int .i64 (d)]) ∧ (-100 ≤ a ∧ a ≤ 100) ∧ (-100 ≤ b ∧ b ≤ 100) ∧ (-100 ≤ c ∧ c ≤ 100) ∧ (-100 ≤ d ∧ d ≤ 100) ∧ Below w.heap.size w w' := by
  have hr' : Rd8 (w.alloc (.cells #[.int .i64 0, .int .i64 0, .int .i64 0, .int .i64 0] 24)) (w.alloc (.cells #[.int .i64 0, .int .i64 0, .int .i64 0, .int .i64 0] 24)).heap.size A bs := rd8_alloc hr _
  have hG := heap_alloc_new w (.cells #[.int .i64 0, .int .i64 0, .int .i64 0, .int .i64 0] 24)
  have hbW : Below w.heap.size w (w.alloc (.cells #[.int .i64 0, .int .i64 0, .int .i64 0, .int .i64 0] 24)) := (Below.refl _ _).alloc (Nat.le_refl _) _
  have hWs : (w.alloc (.cells #[.int .i64 0, .int .i64 0, .int .i64 0, .int .i64 0] 24)).heap.size = w.heap.size + 1 := by simp
  obtain ⟨W, hW⟩ : ∃ W, w.alloc (.cells #[.int .i64 0, .int .i64 0, .int .i64 0, .int .i64 0] 24) = W := ⟨_, rfl⟩
  rw [hW] at hr' hG hbW hWs
  go_enter Try.func40, Try.ntmps40
  go_wp2_with fail
  refine (newReader_c A n c bs _ hl hnc hc hr').mono ?_
  rintro e w1 ⟨R, bs', rfl, hbl, hR, ⟨A', c', hrd1⟩, hb1⟩
  have hG1 := (hb1.block w.heap.size (by omega)).trans hG
  have hsz1 := hb1.size
  go_wp2_with fail
  refine (aFour_c R c' _ A' bs' _ hrd1 (by omega) hbl).mono ?_
  rintro e w2 ⟨a, b, c0, d, rfl, ha, hb, hc0, hd, hold⟩
  have hG2 := (hold.block w.heap.size (by omega) (by simp; omega)).trans hG1
  have hbw2 : Below w.heap.size w w2 := (hbW.trans (hb1.mono (by omega))).trans (old_belowR hold (by omega) (by omega))
  have s0 : w2.cell? ⟨w.heap.size, 0, none⟩ = _ := blk_cell hG2 0
  have s1 : w2.cell? ⟨w.heap.size, 1, none⟩ = _ := blk_cell hG2 1
  have s2 : w2.cell? ⟨w.heap.size, 2, none⟩ = _ := blk_cell hG2 2
  have s3 : w2.cell? ⟨w.heap.size, 3, none⟩ = _ := blk_cell hG2 3
  have k0 : w2.frozen? ⟨w.heap.size, 0, none⟩ = false := blk_frozen hG2 0
  have k1 : w2.frozen? ⟨w.heap.size, 1, none⟩ = false := blk_frozen hG2 1
  have k2 : w2.frozen? ⟨w.heap.size, 2, none⟩ = false := blk_frozen hG2 2
  have k3 : w2.frozen? ⟨w.heap.size, 3, none⟩ = false := blk_frozen hG2 3
  clear hG hG1 hG2 hW
  simp at s0 s1 s2 s3
  go_wp2_with fail
  refine bodyPost_ret (v := .agg #[.int .i64 (a), .int .i64 (b), .int .i64 (c0), .int .i64 (d)]) (by simp [results, Try.results40, go_sem, s0, s1, s2, s3]) rfl ⟨a, b, c0, d, rfl, ha, hb, hc0, hd, by (repeat (first | exact Below.refl _ _ | assumption | refine Below.setCell ?_ (by first | (simp; done) | omega | (simp; omega) | (simp at *; omega)) _ | refine Below.drew ?_ | refine below_drewN ?_ _ | refine below_alloc' ?_ _ | refine below_to' ?_ (by assumption)))⟩

set_option maxHeartbeats 1000000 in
theorem isIn_c (v : Value) (xs : List Int) (x : Int) (k : Nat) (w : World) (hr : Rd w v xs) (hk : k < xs.length) (hx : atL xs k = x) :
    Calls Try.prog 16 #[v, .int .i64 x] w fun e w' => e = .returned (.bool true) ∧ w = w' := by
  obtain ⟨A, cp, rfl, h2, h3, _⟩ := id hr
  obtain ⟨g, off, rfl, hg, hcl⟩ := hr.at (by omega)
  go_enter Try.func16, Try.ntmps16
  go_wp2_with fail
  go_loop [5] (fun i => ∃ j : Nat, j ≤ k ∧ i = .int .i64 j) (fun i => xs.length - (intOf i).toNat)
  case atStart => exact ⟨0, by omega, rfl⟩
  case round =>
    obtain ⟨j, hj, rfl⟩ := hrel
    have hcj := hcl j (by omega)
    have hjl : (j : Int) < (xs.length : Int) := by omega
    by_cases c : atL xs j = x
    · rw [c] at hcj
      clear hcl hr hx
      go_wp2_with fail
      go_ret
      exact ⟨rfl, rfl⟩
    · have hlt : j < k := by
        rcases Nat.lt_or_ge j k with h | h
        · exact h
        · obtain rfl : j = k := by omega
          exact absurd hx c
      have hb : (atL xs j == x) = false := beq_eq_false_iff_ne.2 c
      obtain ⟨y, hy⟩ : ∃ y, atL xs j = y := ⟨_, rfl⟩
      rw [hy] at hcj hb
      clear hcl hr hx c hy
      go_wp2_with fail
      go_round
      case rel => exact ⟨j + 1, by omega, by go_num⟩
      case measure => simp [intOf]; omega

set_option maxHeartbeats 1000000 in
theorem ascends_c (v : Value) (xs : List Int) (w : World) (hr : Rd w v xs) (ha : ∀ j, j + 1 < xs.length → atL xs j < atL xs (j + 1)) :
    Calls Try.prog 17 #[v] w fun e w' => e = .returned (.bool true) ∧ ∃ m, w' = w.drewN m := by
  obtain ⟨A, cp, rfl, h2, h3, _⟩ := id hr
  have hat := hr.at
  have HA := hide ha
  clear ha hr
  go_enter Try.func17, Try.ntmps17
  go_wp2_with fail
  go_loopw [3] (fun i wr => ∃ j : Nat, 1 ≤ j ∧ j ≤ xs.length + 1 ∧ i = .int .i64 j ∧ ∃ m, wr = w.drewN m) (fun i _ => xs.length + 1 - (intOf i).toNat)
  case atStart => exact ⟨1, by omega, by omega, rfl, 0, rfl⟩
  case round =>
    obtain ⟨j, hj1, hj, rfl, m, hm⟩ := hrel
    have hcw : ∀ p, wr.cell? p = w.cell? p := by subst hm; exact fun _ => rfl
    have HM := hide hm
    clear hm
    by_cases hlt : j < xs.length
    · obtain ⟨g, off, rfl, hg, hcl⟩ := hat (by omega)
      have hc1 := (hcw _).trans (hcl (j - 1) (by omega))
      have hc2 := (hcw _).trans (hcl j hlt)
      have hlt2 := HA.out (j - 1) (by omega)
      rw [show j - 1 + 1 = j from by omega] at hlt2
      obtain ⟨y, hy⟩ : ∃ y, atL xs (j - 1) = y := ⟨_, rfl⟩
      obtain ⟨z, hz⟩ : ∃ y, atL xs j = y := ⟨_, rfl⟩
      rw [hy] at hc1 hlt2
      rw [hz] at hc2 hlt2
      have hw1 : IntKind.i64.wrap ((j : Int) - 1) = ((j - 1 : Nat) : Int) := by rw [show (j : Int) - 1 = ((j - 1 : Nat) : Int) from by omega]; exact IntWalk.i64_in _ (by omega)
      have hd : decide (z ≤ y) = false := decide_eq_false (by omega)
      have hi1 : (j : Int) < (xs.length : Int) := by omega
      have hi2 : ((j - 1 : Nat) : Int) < (xs.length : Int) := by omega
      obtain ⟨i0, hi0⟩ : ∃ i0, j - 1 = i0 := ⟨_, rfl⟩
      rw [hi0] at hc1 hw1 hi2
      clear hcl hat hy hz hcw hi0
      go_wp2_with fail
      go_quiet (fail)
      go_wp2_with fail
      go_roundw
      case rel => exact ⟨j + 1, by omega, by omega, by go_num, m + nq, by rw [HM.out, World.drewN_drewN]⟩
      case measure => simp [intOf]; omega
    · have hd : ¬ (j : Int) < (xs.length : Int) := by omega
      clear hat hcw
      go_wp2_with fail
      go_ret
      exact ⟨rfl, m, HM.out⟩
end Go.Proofs.Ytgclgcfhcomplaa
