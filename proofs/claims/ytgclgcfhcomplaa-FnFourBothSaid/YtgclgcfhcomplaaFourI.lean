/-
  Contracts: FoursLike, and the ways of tables together, in the program.
-/
import Derived.Test.YtgclgcfhcomplaaFourL
namespace Go.Proofs.Ytgclgcfhcomplaa
open Go.RowKit

theorem wpList_push_intG {P : Program} {e t : TypeId} (w : World) {ops : Array Oper} {rest : List Oper} {o : Oper} {a : Act} {Q : Exit → Act → World → Prop} (hg : o.guard = none) (s x : Operand)
    (ho : o.op = .call { callee := .builtin .append, args := #[s, x], argTypes := #[t, t] }) (E : IntsOf P t e) (B : Nat) (v : Value) (xs : List Int) (u : Int) (e' : TypeId) (c G : Nat) (hG : G = w.heap.size)
    (hs : a.eval s = v) (hx : a.eval x = .slice (some ⟨G, 0, none⟩) 1 c) (hown : Own w B e v xs) (hB : B ≤ w.heap.size) (hn : xs.length ≤ 1000000000)
    (hK : ∀ v' w', Own w' B e v' (xs ++ [u]) → Below B w w' → w.heap.size < w'.heap.size →
      wpList P ops Q rest (a.put o.dst v') w') : wpList P ops Q (o :: rest) a (w.alloc (.cells #[.int .i64 u] e')) := by
  subst hG
  exact wpList_push_int w hg s x ho E B v xs u e' c hs hx hown hB hn fun v' w' h1 h2 _ _ _ h3 => hK v' w' h1 h2 h3

/-- A row of tables that can be read. -/
def RdF (w : World) (v : Value) (a b c d : Nat) (xs : List Int) : Prop :=
  ∃ A cp, v = .slice A xs.length cp ∧ xs.length ≤ cp ∧ cp ≤ 9223372036854775807 ∧ (0 < xs.length → ∃ g, A = some ⟨g, 0, none⟩ ∧ g < w.heap.size ∧ ∀ i, i < xs.length →
    w.cell? ⟨g, i * 4, none⟩ = some (.int .i64 (atL xs i)) ∧ w.cell? ⟨g, i * 4 + 1, none⟩ = some (.int .i64 ((a : Int) + b - atL xs i)) ∧ w.cell? ⟨g, i * 4 + 2, none⟩ = some (.int .i64 ((a : Int) + c - atL xs i)) ∧ w.cell? ⟨g, i * 4 + 3, none⟩ = some (.int .i64 ((d : Int) - a + atL xs i)))
theorem rdF_of {w : World} {B e n : Nat} {v : Value} {a b c d : Nat} {xs : List Int} (h : w.ownsRow B e 4 v n (tabsV a b c d xs)) (hn : xs.length = n) : RdF w v a b c d xs := by
  subst hn
  obtain ⟨hl, h0 | ⟨g, cap, cur, hv, hb, hg, hn, hc, hs, ht⟩⟩ := id h
  · exact ⟨none, 0, by rw [h0.2]; exact h0.1, by omega, by omega, fun hp => absurd hp (by omega)⟩
  · refine ⟨some ⟨g, 0, none⟩, cap, hv, hn, by simpa [maxLen] using hc, fun hp => ⟨g, rfl, (Array.getElem?_eq_some_iff.1 hg).1, fun i hi => ?_⟩⟩
    subst hv
    have hget := fun j (hj : j < 4) => (World.ownsRow.cellAt h (4 * i + j) (by omega)).trans (tabsV_get a b c d xs i j hi hj)
    rw [show i * 4 = 4 * i from by omega]
    exact ⟨hget 0 (by omega), hget 1 (by omega), hget 2 (by omega), hget 3 (by omega)⟩
theorem RdF.below {w w' : World} {v : Value} {a b c d : Nat} {xs : List Int} (h : RdF w v a b c d xs) (hb : Below w.heap.size w w') : RdF w' v a b c d xs := by
  obtain ⟨A, cp, h1, h2, h3, h4⟩ := h
  refine ⟨A, cp, h1, h2, h3, fun hp => ?_⟩
  obtain ⟨g, h5, h6, h7⟩ := h4 hp
  refine ⟨g, h5, Nat.lt_of_lt_of_le h6 hb.size, fun i hi => ?_⟩
  obtain ⟨e1, e2, e3, e4⟩ := h7 i hi
  exact ⟨(hb.cell (p := ⟨g, i * 4, none⟩) h6).trans e1, (hb.cell (p := ⟨g, i * 4 + 1, none⟩) h6).trans e2, (hb.cell (p := ⟨g, i * 4 + 2, none⟩) h6).trans e3, (hb.cell (p := ⟨g, i * 4 + 3, none⟩) h6).trans e4⟩
set_option maxHeartbeats 1000000 in
theorem clip_c (v : Value) (xs : List Int) (w : World) (B : Nat) (h : Sl w B v xs) : Calls Try.prog 50 #[v] w fun e w' => ∃ v', e = .returned v' ∧ Sl w B v' xs ∧ w = w' := by
  obtain ⟨A, c, rfl, h2, h3, h4⟩ := h
  go_enter Try.func50, Try.ntmps50
  go_wp2_with fail
  go_ret
  exact ⟨_, rfl, ⟨A, xs.length, rfl, Nat.le_refl _, by omega, h4⟩, rfl⟩

set_option maxHeartbeats 2000000 in
theorem FoursI_c (a b c d : Int) (w : World) : Calls Try.prog 13 #[.agg #[.int .i64 (a), .int .i64 (b), .int .i64 (c), .int .i64 (d)]] w fun e w' => ∃ v, e = .returned v ∧ Sl w' w.heap.size v (fourR a b c d) ∧ Below w.heap.size w w' := by
  obtain ⟨W, hW, hbW, hWs, hW0, hW1, hW2, hW3⟩ : ∃ W, w.alloc (.cells #[.int .i64 a, .int .i64 b, .int .i64 c, .int .i64 d] 24) = W ∧ Below w.heap.size w W ∧ W.heap.size = w.heap.size + 1 ∧
      W.cell? ⟨w.heap.size, 0, none⟩ = some (.int .i64 a) ∧ W.cell? ⟨w.heap.size, 1, none⟩ = some (.int .i64 b) ∧ W.cell? ⟨w.heap.size, 2, none⟩ = some (.int .i64 c) ∧ W.cell? ⟨w.heap.size, 3, none⟩ = some (.int .i64 d) :=
    ⟨_, rfl, (Below.refl _ _).alloc (Nat.le_refl _) _, by simp, by simp, by simp, by simp, by simp⟩
  cases hok : okFour a b c d
  · have HX := hide (fourR_bad hok)
    have HK := hide hok
    clear hok
    go_enter Try.func13, Try.ntmps13
    go_wp2_with fail
    refine (fourI_c a b c d false _ HK.out).mono ?_
    rintro e w2 ⟨rfl, hb2⟩
    go_wp2_with fail
    go_ret
    exact ⟨_, rfl, by rw [HX.out]; exact Sl.nil _ _, hbW.trans (hb2.mono hbW.size)⟩
  · obtain ⟨⟨g1, g2⟩, ⟨g3, g4⟩, ⟨g5, g6⟩, g7, g8⟩ := okFour_iff.1 hok
    obtain ⟨a, rfl⟩ := Int.eq_ofNat_of_zero_le g1
    obtain ⟨b, rfl⟩ := Int.eq_ofNat_of_zero_le g3
    obtain ⟨c, rfl⟩ := Int.eq_ofNat_of_zero_le g5
    obtain ⟨d, rfl⟩ := Int.eq_ofNat_of_zero_le g7
    have HX := hide (fourR_ok hok)
    have HK := hide hok
    clear hok
    go_enter Try.func13, Try.ntmps13
    go_wp2_with fail
    refine (fourI_c a b c d true _ HK.out).mono ?_
    rintro e w2 ⟨rfl, hb2⟩
    have hs2 := hb2.size
    have hv0 := (hb2.cell (p := ⟨w.heap.size, 0, none⟩) (by show w.heap.size < _; omega)).trans hW0
    have hv1 := (hb2.cell (p := ⟨w.heap.size, 1, none⟩) (by show w.heap.size < _; omega)).trans hW1
    have hv2 := (hb2.cell (p := ⟨w.heap.size, 2, none⟩) (by show w.heap.size < _; omega)).trans hW2
    have hv3 := (hb2.cell (p := ⟨w.heap.size, 3, none⟩) (by show w.heap.size < _; omega)).trans hW3
    go_wp2_with fail
    refine (like_c a b c d _ (by omega) (by omega) (by omega) (by omega)).mono ?_
    rintro e w3 ⟨vl, rfl, hown3, hb3⟩
    have hbw3 : Below w.heap.size w w3 := below_to' (below_to' hbW (by rwa [hW] at *)) hb3
    have hN := lenF_bd a b c d
    have hN20 : lenF a b c d ≤ 20 := by omega
    have hlen := rowL_len (a - d) (lenF a b c d)
    have hrd := rdF_of hown3 hlen
    have hat : ∀ i, i < lenF a b c d → atL (rowL (a - d) (lenF a b c d)) i = ((a - d + i : Nat) : Int) := fun i hi => rowL_at hi
    obtain ⟨N, hNe⟩ : ∃ N, lenF a b c d = N := ⟨_, rfl⟩
    rw [hNe] at hrd HX hN20 hlen hat
    clear hN hNe hown3 hb2 hb3
    obtain ⟨A, cp, rfl, h2, h3, h4⟩ := hrd
    rw [hlen] at h2 h4 ⊢
    clear hlen
    go_wp2_with fail
    go_loopw [3, 5, 12] (fun o p x wr => ∃ k : Nat, k ≤ N ∧ x = .int .i64 k ∧ Own wr w3.heap.size 3 o (rowL (a - d) k) ∧ Below w3.heap.size w3 wr) (fun _ _ x _ => N - (intOf x).toNat)
    case atStart => exact ⟨0, by omega, rfl, Own.nil _ _ _, Below.refl _ _⟩
    case round =>
      obtain ⟨k, hk, rfl, hown, hbel⟩ := hrel
      by_cases hlt : k < N
      · obtain ⟨g, rfl, hg, hcl⟩ := h4 (by omega)
        obtain ⟨e1, e2, e3, e4⟩ := hcl k hlt
        have hw0 := (hbel.cell (p := ⟨g, k * 4, none⟩) hg).trans e1
        have hw1 := (hbel.cell (p := ⟨g, k * 4 + 1, none⟩) hg).trans e2
        have hw2 := (hbel.cell (p := ⟨g, k * 4 + 2, none⟩) hg).trans e3
        have hw3 := (hbel.cell (p := ⟨g, k * 4 + 3, none⟩) hg).trans e4
        rw [hat k hlt] at hw0 hw1 hw2 hw3
        clear e1 e2 e3 e4 hcl h4
        have HS := hide (rowL_succ (a - d) k)
        have hxl := rowL_len (a - d) k
        obtain ⟨xs, hxs⟩ : ∃ xs, rowL (a - d) k = xs := ⟨_, rfl⟩
        rw [hxs] at HS hown hxl
        clear hxs
        have hsz := hbel.size
        have hcast : ((a - d + k : Nat) : Int) = ((a - d : Nat) : Int) + (k : Int) := Int.natCast_add _ _
        have HC := hide hcast
        clear hcast
        go_wp2_with (at_builtin; refine wpList_push_intG (wr.alloc _) rfl (.tmp 16) (.tmp 19) rfl ints w3.heap.size _ xs (((a - d : Nat) : Int) + (k : Int)) _ 1 (wr.heap.size + 1) (by simp) rfl rfl (hown.alloc _) (by simp; omega) (by omega) ?_; intro v5 w5 hown5 hb5 hlt5)
        go_roundw
        case rel => exact ⟨k + 1, by omega, by go_num, by rw [HS.out, HC.out]; exact hown5, (hbel.alloc hsz _).trans hb5⟩
        case measure => simp [intOf]; omega
      · obtain rfl : k = N := by omega
        clear h4
        go_wp2_with fail
        refine (clip_c _ _ _ _ hown.sl).mono ?_
        rintro e w6 ⟨v6, rfl, hs6, rfl⟩
        go_wp2_with fail
        go_ret
        exact ⟨_, rfl, by rw [HX.out]; exact hs6.low hbw3.size, hbw3.trans (hbel.mono hbw3.size)⟩
end Go.Proofs.Ytgclgcfhcomplaa
