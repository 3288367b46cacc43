/-
  Contracts: the ways of tables together, in the program.
-/
import Derived.Test.YtgclgcfhcomplaaFourI
import Derived.Deep.RegionHeld3
namespace Go.Proofs.Ytgclgcfhcomplaa
open Go.RowKit

theorem wayI_c (a b c d x : Nat) (X B C D : Int) (w : World) (ha : a ≤ 8) (hb : b ≤ 8) (hc : c ≤ 8) (hd : d ≤ 8) (h1 : x ≤ a + b) (h2 : x ≤ a + c) (h3 : a ≤ d + x) (hX : X = x) (hB : B = (a : Int) + b - x) (hC : C = (a : Int) + c - x) (hD : D = (d : Int) - a + x) :
    Calls Try.prog 81 #[.agg #[.int .i64 (X), .int .i64 (B), .int .i64 (C), .int .i64 (D)]] w fun e w' => e = .returned (.int .i64 (wayX a b c d x)) ∧ Below w.heap.size w w' := by
  have h := waysI_c x (a + b - x) (a + c - x) (d + x - a) w (by omega) (by omega)
  rw [wayX_eq h1 h2 h3] at h
  rw [hX, hB, hC, hD, show (a : Int) + b - x = ((a + b - x : Nat) : Int) from by omega, show (a : Int) + c - x = ((a + c - x : Nat) : Int) from by omega, show (d : Int) - a + x = ((d + x - a : Nat) : Int) from by omega]
  exact h
theorem wayS_c (a b c d x : Nat) (X B C D : Int) (w : World) (ha : a ≤ 8) (hb : b ≤ 8) (hc : c ≤ 8) (hd : d ≤ 8) (h1 : x ≤ a + b) (h2 : x ≤ a + c) (h3 : a ≤ d + x) (hX : X = x) (hB : B = (a : Int) + b - x) (hC : C = (a : Int) + c - x) (hD : D = (d : Int) - a + x) :
    Calls Try.prog 82 #[.agg #[.int .i64 (X), .int .i64 (B), .int .i64 (C), .int .i64 (D)]] w fun e w' => e = .returned (.int .i64 (wayX a b c d x)) ∧ Below w.heap.size w w' := by
  have h := waysS_c x (a + b - x) (a + c - x) (d + x - a) w (by omega) (by omega)
  rw [wayX_eq h1 h2 h3] at h
  rw [hX, hB, hC, hD, show (a : Int) + b - x = ((a + b - x : Nat) : Int) from by omega, show (a : Int) + c - x = ((a + c - x : Nat) : Int) from by omega, show (d : Int) - a + x = ((d + x - a : Nat) : Int) from by omega]
  exact h

theorem tog_x {a b c d N k x : Nat} (hN : 1 ≤ N ∧ a - d + N ≤ a + b + 1 ∧ a - d + N ≤ a + c + 1 ∧ a < a - d + N ∧ (a - d + N = a + b + 1 ∨ a - d + N = a + c + 1)) (hk : k < N) (hx : a - d + k = x) (hb : b ≤ 8) :
    x ≤ a + b ∧ x ≤ a + c ∧ a ≤ d + x ∧ (x : Int) ≤ (a : Int) + b ∧ (x : Int) ≤ (a : Int) + c ∧ (a : Int) ≤ (d : Int) + x ∧ (b : Int) + a - x = (a : Int) + b - x ∧ (c : Int) + a - x = (a : Int) + c - x ∧ (a ≤ 8 → -100 ≤ (x : Int) ∧ (x : Int) ≤ 100) := by omega
theorem held4 {w wz : World} {g : Nat} {a b c d : Value} (hb : Below w.heap.size w wz) (hg : g < w.heap.size) (h0 : w.cell? ⟨g, 0, none⟩ = some a) (h1 : w.cell? ⟨g, 1, none⟩ = some b) (h2 : w.cell? ⟨g, 2, none⟩ = some c) (h3 : w.cell? ⟨g, 3, none⟩ = some d) :
    wz.cell? ⟨g, 0, none⟩ = some a ∧ wz.cell? ⟨g, 1, none⟩ = some b ∧ wz.cell? ⟨g, 2, none⟩ = some c ∧ wz.cell? ⟨g, 3, none⟩ = some d :=
  ⟨(hb.cell (p := ⟨g, 0, none⟩) hg).trans h0, (hb.cell (p := ⟨g, 1, none⟩) hg).trans h1, (hb.cell (p := ⟨g, 2, none⟩) hg).trans h2, (hb.cell (p := ⟨g, 3, none⟩) hg).trans h3⟩
theorem box4 (w : World) (t : TypeId) (a b c d : Value) : ∃ W : World, w.alloc (.cells #[a, b, c, d] t) = W ∧ Below w.heap.size w W ∧ W.heap.size = w.heap.size + 1 ∧
    W.cell? ⟨w.heap.size, 0, none⟩ = some a ∧ W.cell? ⟨w.heap.size, 1, none⟩ = some b ∧ W.cell? ⟨w.heap.size, 2, none⟩ = some c ∧ W.cell? ⟨w.heap.size, 3, none⟩ = some d :=
  ⟨_, rfl, (Below.refl _ _).alloc (Nat.le_refl _) _, by simp, by simp, by simp, by simp, by simp⟩

/-- What together answers: some, all. -/
def togX (may : Nat → Bool) (a b c d : Int) : Int := if okFour a b c d then togN may a.toNat b.toNat c.toNat d.toNat (lenF a.toNat b.toNat c.toNat d.toNat) else -1
theorem togX_bad {may : Nat → Bool} {a b c d : Int} (h : okFour a b c d = false) : togX may a b c d = -1 := by simp [togX, h]
theorem togX_ok {may : Nat → Bool} {a b c d : Nat} (h : okFour a b c d = true) : togX may a b c d = togN may a b c d (lenF a b c d) := by simp [togX, h]

set_option maxHeartbeats 4000000 in
theorem tog_c (F : FuncId) (Cp : Array Value) (may : Nat → Bool) (a b c d : Int) (w : World)
    (hcf : ∀ (args : Array Value) (w : World), (callFunc F args).run Try.prog w = .ok (.enter F args) w)
    (hmay : ∀ (x : Nat) (X B C D : Int) (w' : World), okFour a b c d = true → (x : Int) ≤ a + b → (x : Int) ≤ a + c → a ≤ d + x → X = x → B = a + b - x → C = a + c - x → D = d - a + x → Below w.heap.size w w' →
      Calls Try.prog F (#[.agg #[.int .i64 (X), .int .i64 (B), .int .i64 (C), .int .i64 (D)]] ++ Cp) w' fun e w'' => e = .returned (.bool (may x)) ∧ Below w'.heap.size w' w'') :
    Calls Try.prog 79 #[.agg #[.int .i64 (a), .int .i64 (b), .int .i64 (c), .int .i64 (d)], .func (.func F) #[] Cp] w fun e w' => e = .returned (.tuple #[.int .i64 (togX may a b c d), .int .i64 (togX (fun _ => true) a b c d)]) ∧ Below w.heap.size w w' := by
  obtain ⟨W, hW, hbW, hWs, hW0, hW1, hW2, hW3⟩ := box4 w 24 (.int .i64 a) (.int .i64 b) (.int .i64 c) (.int .i64 d)
  have HM := hide hmay
  clear hmay
  cases hok : okFour a b c d
  · have HX := hide (togX_bad (may := may) hok)
    have HY := hide (togX_bad (may := fun _ => true) hok)
    have HK := hide hok
    clear hok
    go_enter Try.func79, Try.ntmps79
    go_wp2_with fail
    refine (fourI_c a b c d false _ HK.out).mono ?_
    rintro e w2 ⟨rfl, hb2⟩
    go_wp2_with fail
    go_ret2
    rw [HX.out, HY.out]
    exact ⟨rfl, hbW.trans (hb2.mono hbW.size)⟩
  · obtain ⟨⟨g1, g2⟩, ⟨g3, g4⟩, ⟨g5, g6⟩, g7, g8⟩ := okFour_iff.1 hok
    obtain ⟨a, rfl⟩ := Int.eq_ofNat_of_zero_le g1
    obtain ⟨b, rfl⟩ := Int.eq_ofNat_of_zero_le g3
    obtain ⟨c, rfl⟩ := Int.eq_ofNat_of_zero_le g5
    obtain ⟨d, rfl⟩ := Int.eq_ofNat_of_zero_le g7
    have HX := hide (togX_ok (may := may) hok)
    have HY := hide (togX_ok (may := fun _ => true) hok)
    have HK := hide hok
    clear hok
    go_enter Try.func79, Try.ntmps79
    go_wp2_with fail
    refine (fourI_c a b c d true _ HK.out).mono ?_
    rintro e w2 ⟨rfl, hb2⟩
    have hs2 := hb2.size
    obtain ⟨hv0, hv1, hv2, hv3⟩ := held4 hb2 (by omega) hW0 hW1 hW2 hW3
    go_wp2_with fail
    refine (like_c a b c d _ (by omega) (by omega) (by omega) (by omega)).mono ?_
    rintro e w3 ⟨vl, rfl, hown3, hb3⟩
    have hbw3 : Below w.heap.size w w3 := below_to' (below_to' hbW (by rwa [hW] at *)) hb3
    have l1 : a ≤ 8 := by omega
    have l2 : b ≤ 8 := by omega
    have l3 : c ≤ 8 := by omega
    have l4 : d ≤ 8 := by omega
    have hN := lenF_bd a b c d
    have hN20 : lenF a b c d ≤ 20 := by omega
    have hlen := rowL_len (a - d) (lenF a b c d)
    have hrd := rdF_of hown3 hlen
    have hat : ∀ i, i < lenF a b c d → atL (rowL (a - d) (lenF a b c d)) i = ((a - d + i : Nat) : Int) := fun i hi => rowL_at hi
    have hbdS := fun m => togN_bd may (a := a) (b := b) (c := c) (d := d) (by omega) m
    have hbdA := fun m => togN_bd (fun _ => true) (a := a) (b := b) (c := c) (d := d) (by omega) m
    obtain ⟨N, hNe⟩ : ∃ N, lenF a b c d = N := ⟨_, rfl⟩
    rw [hNe] at hrd HX HY hN hN20 hlen hat
    simp only [hNe] at hbdS hbdA
    clear hNe hown3 hb2 hb3 hv0 hv1 hv2 hv3 hW0 hW1 hW2 hW3 hW hs2
    obtain ⟨A, cp, rfl, h2, h3, h4⟩ := hrd
    rw [hlen] at h2 h4 ⊢
    clear hlen
    go_wp2_with fail
    go_loopw [6, 7, 9, 16] (fun s q p x wr => ∃ k : Nat, k ≤ N ∧ x = .int .i64 k ∧ s = .int .i64 (togN may a b c d k) ∧ q = .int .i64 (togN (fun _ => true) a b c d k) ∧ Below w3.heap.size w3 wr) (fun _ _ _ x _ => N - (intOf x).toNat)
    case atStart => exact ⟨0, by omega, rfl, rfl, rfl, Below.refl _ _⟩
    case round =>
      obtain ⟨k, hk, rfl, rfl, rfl, hbel⟩ := hrel
      by_cases hlt : k < N
      · obtain ⟨g, rfl, hg, hcl⟩ := h4 (by omega)
        obtain ⟨e1, e2, e3, e4⟩ := hcl k hlt
        have hw0 := (hbel.cell (p := ⟨g, k * 4, none⟩) hg).trans e1
        have hw1 := (hbel.cell (p := ⟨g, k * 4 + 1, none⟩) hg).trans e2
        have hw2 := (hbel.cell (p := ⟨g, k * 4 + 2, none⟩) hg).trans e3
        have hw3 := (hbel.cell (p := ⟨g, k * 4 + 3, none⟩) hg).trans e4
        have hsz := hbel.size
        have hbw : Below w.heap.size w wr := hbw3.trans (hbel.mono hbw3.size)
        obtain ⟨x, hx⟩ : ∃ x, a - d + k = x := ⟨_, rfl⟩
        have hS := hbdS k
        have hA := hbdA k
        have hS1 := (hbdS (k + 1)).2 (by omega)
        have hA1 := (hbdA (k + 1)).2 (by omega)
        have HS := hide (togN_succ may a b c d k)
        have HA := hide (togN_succ (fun _ => true) a b c d k)
        have hwn := wayX_nonneg a b c d x
        rw [hx] at HS HA
        rw [hat k hlt, hx] at hw0 hw1 hw2 hw3
        have hA1' := hA1
        rw [HA.out, if_pos rfl] at hA1'
        rw [HS.out] at hS1
        obtain ⟨n1, n2, n3, m1, m2, m3, _, _, _⟩ := tog_x hN hlt hx l2
        have hkN : k ≤ N := hk
        obtain ⟨X, hX⟩ : ∃ X, (x : Int) = X := ⟨_, rfl⟩
        obtain ⟨B, hB⟩ : ∃ X, (a : Int) + b - x = X := ⟨_, rfl⟩
        obtain ⟨C, hC⟩ : ∃ X, (a : Int) + c - x = X := ⟨_, rfl⟩
        obtain ⟨D, hD⟩ : ∃ X, (d : Int) - a + x = X := ⟨_, rfl⟩
        have K1 := hide fun w => wayI_c a b c d x X B C D w l1 l2 l3 l4 n1 n2 n3 hX.symm hB.symm hC.symm hD.symm
        have K2 := hide fun w' => HM.out x X B C D w' HK.out m1 m2 m3 hX.symm hB.symm hC.symm hD.symm
        rw [hX] at hw0
        rw [hB] at hw1
        rw [hC] at hw2
        rw [hD] at hw3
        obtain ⟨r, hr⟩ : ∃ r, may x = r := ⟨_, rfl⟩
        rw [hr] at HS K2 hS1
        obtain ⟨Y, hY⟩ : ∃ Y, wayX a b c d x = Y := ⟨_, rfl⟩
        rw [hY] at HS HA K1 hA1' hS1 hwn
        obtain ⟨S, hSe⟩ : ∃ Y, togN may a b c d k = Y := ⟨_, rfl⟩
        obtain ⟨Q, hQe⟩ : ∃ Y, togN (fun _ => true) a b c d k = Y := ⟨_, rfl⟩
        rw [hSe] at HS hS hS1 ⊢
        rw [hQe] at HA hA hA1' ⊢
        have hQb := hA.2 hkN
        have hSb := hS.2 hkN
        have hQ0 := hA.1
        have hS0 := hS.1
        obtain ⟨V, hV, hbV, hVs, hV0, hV1, hV2, hV3⟩ := box4 wr 24 (.int .i64 X) (.int .i64 B) (.int .i64 C) (.int .i64 D)
        clear n1 n2 n3 m1 m2 m3 e1 e2 e3 e4 hcl h4 hat hbdS hbdA hX hB hC hD hr hY hSe hQe hA1 hx hA hS
        cases r
        · go_wp2_with fail
          refine (K1.out _).mono ?_
          rintro e w4 ⟨rfl, hb4⟩
          obtain ⟨t0, t1, t2, t3⟩ := held4 hb4 (by omega) hV0 hV1 hV2 hV3
          have hs4 := hb4.size
          go_wp2_with fail
          refine (K2.out _ (below_to' (below_to' hbw (by rwa [hV] at *)) hb4)).mono ?_
          rintro e w5 ⟨rfl, hb5⟩
          go_wp2_with fail
          go_roundw
          case rel => exact ⟨k + 1, by omega, by go_num, by rw [HS.out]; simp, by rw [HA.out]; simp, below_to' (below_to' (below_to' hbel hbV) hb4) hb5⟩
          case measure => simp [intOf]; omega
        · have hS1' : S + Y ≤ 4294967296 := by simpa using hS1
          go_wp2_with fail
          refine (K1.out _).mono ?_
          rintro e w4 ⟨rfl, hb4⟩
          obtain ⟨t0, t1, t2, t3⟩ := held4 hb4 (by omega) hV0 hV1 hV2 hV3
          have hs4 := hb4.size
          go_wp2_with fail
          refine (K2.out _ (below_to' (below_to' hbw (by rwa [hV] at *)) hb4)).mono ?_
          rintro e w5 ⟨rfl, hb5⟩
          obtain ⟨t0, t1, t2, t3⟩ := held4 hb5 (by omega) t0 t1 t2 t3
          go_wp2_with fail
          refine (K1.out _).mono ?_
          rintro e w6 ⟨rfl, hb6⟩
          go_wp2_with fail
          go_roundw
          case rel => exact ⟨k + 1, by omega, by go_num, by rw [HS.out]; simp, by rw [HA.out]; simp, below_to' (below_to' (below_to' (below_to' hbel hbV) hb4) hb5) hb6⟩
          case measure => simp [intOf]; omega
      · obtain rfl : k = N := by omega
        obtain ⟨S, hSe⟩ : ∃ Y, togN may a b c d k = Y := ⟨_, rfl⟩
        obtain ⟨Q, hQe⟩ : ∃ Y, togN (fun _ => true) a b c d k = Y := ⟨_, rfl⟩
        rw [hSe] at HX ⊢
        rw [hQe] at HY ⊢
        clear h4 hat hbdS hbdA hSe hQe
        go_wp2_with fail
        go_ret2
        rw [HX.out, HY.out]
        exact ⟨rfl, hbw3.trans (hbel.mono hbw3.size)⟩

theorem callFuncChance1 (args : Array Value) (w : World) : (callFunc 85 args).run Try.prog w = .ok (.enter 85 args) w := by kernel_rfl
theorem callFuncBoth1 (args : Array Value) (w : World) : (callFunc 80 args).run Try.prog w = .ok (.enter 80 args) w := by kernel_rfl

set_option maxHeartbeats 400000 in
theorem chance1_c (a x : Nat) (X B C D : Int) (p : Nat) (w : World) (hX : X = x) (hp : w.cell? ⟨p, 0, none⟩ = some (.int .i64 a)) (hpl : p < w.heap.size) :
    Calls Try.prog 85 #[.agg #[.int .i64 (X), .int .i64 (B), .int .i64 (C), .int .i64 (D)], .pointer (some ⟨p, 0, none⟩)] w fun e w' => e = .returned (.bool (atLeastA a x)) ∧ Below w.heap.size w w' := by
  have HX := hide hX
  clear hX
  go_enter Try.func85, Try.ntmps85
  go_wp2_with fail
  go_ret
  exact ⟨ret_bool (by rw [HX.out]; simp [atLeastA]), by (repeat (first | exact Below.refl _ _ | assumption | refine Below.setCell ?_ (by first | (simp; done) | omega | (simp; omega) | (simp at *; omega)) _ | refine Below.drew ?_ | refine below_drewN ?_ _ | refine below_alloc' ?_ _ | refine below_to' ?_ (by assumption)))⟩
end Go.Proofs.Ytgclgcfhcomplaa
