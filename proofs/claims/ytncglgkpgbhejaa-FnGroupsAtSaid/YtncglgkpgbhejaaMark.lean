/-
  Marks over slices of slices: what the statements' helpers write and read back.
-/
import Derived.Test.YtncglgkpgbhejaaSS
namespace Go.Proofs.Ytncglgkpgbhejaa
open Go.RowKit

theorem Above.trans {T : Nat} {a b c : World} (h : Above T a b) (h2 : Above T b c) : Above T a c := ⟨h2.1.trans h.1, fun g hg => (h2.2 g hg).trans (h.2 g hg)⟩
theorem Above.mono {T U : Nat} {a b : World} (h : Above T a b) (hT : T ≤ U) : Above U a b := ⟨h.1, fun g hg => h.2 g (by omega)⟩
theorem RdSS.rdAbove {T : Nat} {w w' : World} {v : Value} {xs : List Int} (h : Sl w T v xs) (ha : Above T w w') : Sl w' T v xs := h.above ha (Nat.le_refl _)
theorem Sl.keepB {w w' : World} {B C : Nat} {v : Value} {xs : List Int} (h : Sl w B v xs) (hv : 0 < xs.length → ∀ g, v.ownBlock = some g → g < C) (hb : Below C w w') : Sl w' B v xs := by
  obtain ⟨A, c, rfl, h2, h3, h4⟩ := h
  refine ⟨A, c, rfl, h2, h3, fun hn => ?_⟩
  obtain ⟨g, off, rfl, h6, h7, h8, h9⟩ := h4 hn
  have hg : g < C := hv hn g rfl
  exact ⟨g, off, rfl, h6, Nat.lt_of_lt_of_le h7 hb.size, fun j hj => (hb.cell (p := ⟨g, off + j, none⟩) hg).trans (h8 j hj), fun j hj => (hb.frozen (p := ⟨g, off + j, none⟩) hg).trans (h9 j hj)⟩

/-- Row j. -/
def rwj (xss : List (List Int)) (j : Nat) : List Int := xss.getD j []
/-- How many numbers lie in the first rows. -/
def offs (xss : List (List Int)) : Nat → Nat
  | 0 => 0
  | j + 1 => offs xss j + (rwj xss j).length
theorem offs_le {xss : List (List Int)} {M : Nat} (h : ∀ j, j < xss.length → (rwj xss j).length ≤ M) : ∀ j, j ≤ xss.length → offs xss j ≤ j * M
  | 0, _ => by simp [offs]
  | j + 1, hj => by
    have h1 := offs_le h j (by omega)
    have h2 := h j (by omega)
    rw [Nat.succ_mul]
    simp only [offs]
    omega
def markSS (k0 : Int) (xss : List (List Int)) : List (List Int) := (List.range xss.length).map fun j => marks (k0 + offs xss j) (rwj xss j).length
theorem markSS_len (k0 : Int) (xss : List (List Int)) : (markSS k0 xss).length = xss.length := by simp [markSS]
theorem markSS_row {k0 : Int} {xss : List (List Int)} {j : Nat} (hj : j < xss.length) : (markSS k0 xss).getD j [] = marks (k0 + offs xss j) (rwj xss j).length := by
  simp [markSS, List.getD, hj]

/-- The shape of rows of the call's own, without what they hold. -/
structure RowsAt (w : World) (B : Nat) (n : Nat) (g : Nat) (us : List Value) (bl : Nat → Nat) : Prop where
  own : OwnV w B 28 (.slice (some ⟨g, 0, none⟩) n n) us
  len : us.length = n
  low : g < bl 0
  top : bl n ≤ w.heap.size
  mono : ∀ j, j < n → bl j ≤ bl (j + 1)
theorem RowsAt.le' {w : World} {B n g : Nat} {us : List Value} {bl : Nat → Nat} (h : RowsAt w B n g us bl) (j : Nat) : ∀ d, j + d ≤ n → bl j ≤ bl (j + d)
  | 0, _ => Nat.le_refl _
  | d + 1, hd => Nat.le_trans (RowsAt.le' h j d (by omega)) (h.mono (j + d) (by omega))
theorem RowsAt.le {w : World} {B n g : Nat} {us : List Value} {bl : Nat → Nat} (h : RowsAt w B n g us bl) {j k : Nat} (hjk : j ≤ k) (hk : k ≤ n) : bl j ≤ bl k := by
  have := h.le' j (k - j) (by omega)
  rwa [show j + (k - j) = k by omega] at this
theorem OwnV.keepB {w w' : World} {B C e g n c : Nat} {vs : List Value} (h : OwnV w B e (.slice (some ⟨g, 0, none⟩) n c) vs) (hb : Below C w w') (hg : g < C) : OwnV w' B e (.slice (some ⟨g, 0, none⟩) n c) vs := by
  obtain ⟨hl, h0 | ⟨g', cap, cur, hv, hB, hg', hr⟩⟩ := id h
  · simp at h0
  · have hv' := hv
    simp only [Value.slice.injEq, Option.some.injEq, Addr.mk.injEq, and_true] at hv'
    obtain ⟨rfl, _⟩ := hv'
    exact ⟨hl, .inr ⟨g, cap, cur, hv, hB, (hb.block g hg).trans hg', hr⟩⟩

set_option maxHeartbeats 2000000 in
theorem markIntSS_c (v : Value) (xss : List (List Int)) (k0 : Int) (W w : World) (B : Nat) (h : OwnSS W B v xss) (hb : Below W.heap.size W w) (h0 : 0 ≤ k0) (hk0 : k0 ≤ 1000) (hn : xss.length ≤ 1048576) (hr : ∀ j, j < xss.length → (rwj xss j).length ≤ 1048576) :
    Calls Try.prog 17 #[v, .int .i64 k0] w fun e w' => e = .returned (.int .i64 (k0 + offs xss xss.length)) ∧ OwnSS w' B v (markSS k0 xss) ∧ Below B w w' ∧ Above W.heap.size w w' := by
  have hW := hb.size
  obtain ⟨g, us, bl, h1, rfl, h3, h4, h5, h6⟩ := h
  have hS : RowsAt W B xss.length g us bl := ⟨h1, h3, h4, h5, fun j hj => (h6 j hj).1⟩
  have HS := hide hS
  have hgB := h1.lt
  have HROW : Hid (∀ j, j < xss.length → ∃ u, us[j]? = some u ∧ Sl w (bl j) u (rwj xss j) ∧ (0 < (rwj xss j).length → ∀ g, u.ownBlock = some g → g < bl (j + 1))) := fun j hj => by
    obtain ⟨_, u, e1, e2, e3⟩ := h6 j hj
    exact ⟨u, e1, e2.below hb, e3⟩
  have hown := h1.below hb
  have HO := hide (offs_le hr)
  have HR := hide hr
  have hgw : g < w.heap.size := hown.lt.2
  clear h1 h3 h4 h5 h6 hS hr
  go_enter Try.func17, Try.ntmps17
  go_wp2_with fail
  go_loopw [1, 5] (fun m i wr => ∃ k : Nat, k ≤ xss.length ∧ i = .int .i64 k ∧ m = .int .i64 (k0 + offs xss k) ∧ Hid (∀ j, j < k → ∃ u, us[j]? = some u ∧ Sl wr (bl j) u (marks (k0 + offs xss j) (rwj xss j).length) ∧ (0 < (rwj xss j).length → ∀ g, u.ownBlock = some g → g < bl (j + 1))) ∧
    Hid (Below (bl 0) w wr ∧ Above (bl k) w wr)) (fun _ i _ => xss.length - (intOf i).toNat)
  case atStart => exact ⟨0, by omega, rfl, by simp [offs], fun j hj => by omega, ⟨Below.refl _ _, Above.refl _ _⟩⟩
  case round =>
    obtain ⟨k, hk, rfl, rfl, hdone, hbel⟩ := hrel
    by_cases hlt : k < xss.length
    · obtain ⟨u, hu, hsl, hT⟩ := HROW.out k hlt
      have hu0 := hown.cell hu
      have hck : wr.cell? ⟨g, k, none⟩ = some u := (hbel.out.1.cell (p := ⟨g, k, none⟩) HS.out.low).trans hu0
      have hs2 := hsl.above hbel.out.2 (Nat.le_refl _)
      have ik : (k : Int) < (xss.length : Int) := by omega
      have hl1 := HR.out k hlt
      have ho := HO.out k hk
      have hk2 : k * 1048576 ≤ 1048576 * 1048576 := Nat.mul_le_mul (by omega) (Nat.le_refl _)
      have K := hide fun w hs => markIntS_c u (rwj xss k) (k0 + offs xss k) w (bl k) (bl (k + 1)) hs hT (by omega) (by omega)
      obtain ⟨q, hq⟩ : ∃ q, k0 + (offs xss k : Int) = q := ⟨_, rfl⟩
      have HQ := hide hq
      rw [hq] at K ⊢
      clear hq hu0 ho hk2
      go_wp2_with fail
      refine (K.out _ hs2).mono ?_
      rintro e w2 ⟨rfl, hs3, hb3, ha3⟩
      go_wp2_with fail
      go_roundw
      case rel =>
        refine ⟨k + 1, by omega, by go_num, by rw [← HQ.out]; simp only [offs]; congr 1; omega, fun j hj => ?_, ⟨hbel.out.1.trans (hb3.mono (HS.out.le (Nat.zero_le _) (by omega))), (hbel.out.2.mono (HS.out.mono k hlt)).trans ha3⟩⟩
        by_cases e : j = k
        · subst e
          rw [HQ.out]
          exact ⟨u, hu, hs3, hT⟩
        · obtain ⟨x, x1, x2, x3⟩ := hdone.out j (by omega)
          refine ⟨x, x1, x2.keepB (C := bl k) (fun hn g hg => ?_) hb3, x3⟩
          · have := x3 (by simpa [marks_len] using hn) g hg
            have := HS.out.le (j := j + 1) (k := k) (by omega) (by omega)
            omega
      case measure => simp [intOf]; omega
    · obtain rfl : k = xss.length := by omega
      go_wp2_with fail
      go_ret
      have hbB : Below B w wr := hbel.out.1.mono (by have := HS.out.low; omega)
      have hsz := hbel.out.2.1
      refine ⟨rfl, ⟨g, us, bl, hown.keepB hbel.out.1 HS.out.low, by rw [markSS_len], by rw [markSS_len]; exact HS.out.len, HS.out.low, by rw [markSS_len, hsz]; exact Nat.le_trans HS.out.top hW, fun j hj => ?_⟩, hbB, hbel.out.2.mono HS.out.top⟩
      rw [markSS_len] at hj
      · obtain ⟨x, x1, x2, x3⟩ := hdone.out j hj
        rw [markSS_row hj]
        exact ⟨HS.out.mono j hj, x, x1, x2, by rw [marks_len]; exact x3⟩

set_option maxHeartbeats 1000000 in
theorem heldIntSS_c (v : Value) (xss : List (List Int)) (k0 : Int) (w : World) (h : RdSS w v (markSS k0 xss)) (h0 : 0 ≤ k0) (hk0 : k0 ≤ 1000) (hn : xss.length ≤ 1048576) (hr : ∀ j, j < xss.length → (rwj xss j).length ≤ 1048576) :
    Calls Try.prog 22 #[v, .int .i64 k0] w fun e w' => e = .returned (.int .i64 (k0 + offs xss xss.length)) ∧ Below w.heap.size w w' := by
  obtain ⟨A, c, rfl, hc, hm, hcell⟩ := h
  rw [markSS_len] at hc hcell ⊢
  have HO := hide (offs_le hr)
  have HR := hide hr
  clear hr
  go_enter Try.func22, Try.ntmps22
  go_wp2_with fail
  go_loopw [1, 5] (fun m i wr => ∃ k : Nat, k ≤ xss.length ∧ i = .int .i64 k ∧ m = .int .i64 (k0 + offs xss k) ∧ Below w.heap.size w wr) (fun _ i _ => xss.length - (intOf i).toNat)
  case atStart => exact ⟨0, by omega, rfl, by simp [offs], Below.refl _ _⟩
  case round =>
    obtain ⟨k, hk, rfl, rfl, hbel⟩ := hrel
    by_cases hlt : k < xss.length
    · obtain ⟨g, off, rfl, hg, hcl⟩ := hcell (by omega)
      obtain ⟨u, hu, hrd⟩ := hcl k hlt
      have hck : wr.cell? ⟨g, off + k, none⟩ = some u := (hbel.cell (p := ⟨g, off + k, none⟩) hg).trans hu
      rw [markSS_row hlt] at hrd
      have hrd2 := hrd.below hbel
      have ik : (k : Int) < (xss.length : Int) := by omega
      have hl1 := HR.out k hlt
      have ho := HO.out k hk
      have hk2 : k * 1048576 ≤ 1048576 * 1048576 := Nat.mul_le_mul (by omega) (Nat.le_refl _)
      have K := hide fun w hs => heldIntS_c u (rwj xss k).length (k0 + offs xss k) w hs (by omega) (by omega)
      have hq0 : 0 ≤ k0 + (offs xss k : Int) + ((rwj xss k).length : Int) := by omega
      obtain ⟨q, hq⟩ : ∃ q, k0 + (offs xss k : Int) = q := ⟨_, rfl⟩
      have HQ := hide hq
      rw [hq] at K hq0 hrd2 ⊢
      clear hq ho hk2 hcl hcell hu hrd
      have hnn : ¬ q + ((rwj xss k).length : Int) < 0 := by omega
      go_wp2_with fail
      refine (K.out _ hrd2).mono ?_
      rintro e w2 ⟨rfl, hb2⟩
      go_wp2_with fail
      go_roundw
      case rel => exact ⟨k + 1, by omega, by go_num, by rw [← HQ.out]; simp only [offs]; congr 1; omega, hbel.trans (hb2.mono hbel.size)⟩
      case measure => simp [intOf]; omega
    · obtain rfl : k = xss.length := by omega
      go_wp2_with fail
      go_ret
      exact ⟨rfl, hbel⟩
end Go.Proofs.Ytncglgkpgbhejaa
