/-
  Contracts: two rows of as many data; how far their ranks are apart, and how much they agree, in the program and in its reference.
-/
import Derived.Test.YtipmakmidadalaaRankP
import Derived.Test.YtipmakmidadalaaHelp
namespace Go.Proofs.Ytipmakmidadalaa
open Go.RowKit

theorem ret_pair {k : IntKind} {a b : Int} {p : Value} (h : a = b) : Ending.returned (.tuple #[.int k a, p]) = .returned (.tuple #[.int k b, p]) := by rw [h]
theorem sq_bd {x m : Int} (h : -m ≤ x ∧ x ≤ m) : 0 ≤ x * x ∧ x * x ≤ m * m := by
  have h1 : x * x = (x.natAbs * x.natAbs : Nat) := (Int.natAbs_mul_self (a := x)).symm
  have h2 : m * m = (m.natAbs * m.natAbs : Nat) := (Int.natAbs_mul_self (a := m)).symm
  have h3 : x.natAbs * x.natAbs ≤ m.natAbs * m.natAbs := Nat.mul_le_mul (by omega) (by omega)
  omega
theorem sgn_mul_bd (a b : Int) : -1 ≤ sgn a * sgn b ∧ sgn a * sgn b ≤ 1 := by
  have h1 : sgn a = 1 ∨ sgn a = -1 ∨ sgn a = 0 := by unfold sgn; split <;> (try split) <;> simp
  have h2 := sgn_bd b
  rcases h1 with h | h | h <;> rw [h] <;> omega

theorem at_bd {lo hi : Int} {xs : List Int} (h : allB (-lo) hi xs = true) (h0 : 0 ≤ lo := by omega) (h1 : 0 ≤ hi := by omega) (k : Nat) : -lo ≤ atL xs k ∧ atL xs k ≤ hi := by
  by_cases hk : k < xs.length
  · exact allB_iff.1 h _ (atL_mem hk)
  · have : atL xs k = 0 := by unfold atL; rw [List.getD_eq_getElem?_getD, List.getElem?_eq_none (by omega)]; rfl
    omega

def okPair (xs ys : List Int) : Bool := okData xs && (okData ys && decide (xs.length = ys.length))
theorem okPair_all {xs ys : List Int} (h : okPair xs ys = true) : okData xs = true ∧ okData ys = true ∧ xs.length = ys.length := by simpa [okPair] using h
theorem okPair_no {xs ys : List Int} (h : ¬ (okData xs = true ∧ okData ys = true ∧ xs.length = ys.length)) : okPair xs ys = false := by
  cases hk : okPair xs ys
  · rfl
  · exact absurd (okPair_all hk) h
theorem okPair_yes {xs ys : List Int} (h1 : okData xs = true) (h2 : okData ys = true) (h3 : xs.length = ys.length) : okPair xs ys = true := by simp [okPair, h1, h2, h3]

set_option maxHeartbeats 1000000 in
theorem bothI_c (u v : Value) (xs ys : List Int) (b : Bool) (w : World) (hx : Rd w u xs) (hy : Rd w v ys) (hb : okPair xs ys = b) :
    Calls Try.prog 50 #[u, v] w fun e w' => e = .returned (.bool b) ∧ Below w.heap.size w w' := by
  have hx' := hx
  have hy' := hy
  obtain ⟨A, c, rfl, hc, hm, hcell⟩ := hx
  obtain ⟨A2, c2, rfl, hc2, hm2, hcell2⟩ := hy
  clear hcell hcell2
  cases hk : okData xs
  · have HB : Hid (b = false) := by show _ = _; rw [← hb]; exact okPair_no (by simp [hk])
    clear hb
    go_enter Try.func50, Try.ntmps50
    go_wp2_with fail
    refine (ValidData_c _ xs false _ hx' hk).mono ?_
    rintro e w1 ⟨rfl, hb1⟩
    go_wp2_with fail
    go_ret
    exact ⟨ret_bool HB.out.symm, (by first | exact Below.refl _ _ | exact hb1 | exact (hb1.trans (hb2.mono hb1.size)))⟩
  · cases hk2 : okData ys
    · have HB : Hid (b = false) := by show _ = _; rw [← hb]; exact okPair_no (by simp [hk2])
      clear hb
      go_enter Try.func50, Try.ntmps50
      go_wp2_with fail
      refine (ValidData_c _ xs true _ hx' hk).mono ?_
      rintro e w1 ⟨rfl, hb1⟩
      go_wp2_with fail
      refine (ValidData_c _ ys false _ (hy'.below hb1) hk2).mono ?_
      rintro e w2 ⟨rfl, hb2⟩
      go_wp2_with fail
      go_ret
      exact ⟨ret_bool HB.out.symm, (by first | exact Below.refl _ _ | exact hb1 | exact (hb1.trans (hb2.mono hb1.size)))⟩
    · by_cases h3 : xs.length = ys.length
      · have HB : Hid (b = true) := by show _ = _; rw [← hb]; exact okPair_yes hk hk2 h3
        have h3' : ((xs.length : Int) == (ys.length : Int)) = true := beq_iff_eq.2 (by omega)
        clear hb h3
        go_enter Try.func50, Try.ntmps50
        go_wp2_with fail
        refine (ValidData_c _ xs true _ hx' hk).mono ?_
        rintro e w1 ⟨rfl, hb1⟩
        go_wp2_with fail
        refine (ValidData_c _ ys true _ (hy'.below hb1) hk2).mono ?_
        rintro e w2 ⟨rfl, hb2⟩
        go_wp2_with fail
        go_ret
        exact ⟨ret_bool HB.out.symm, (by first | exact Below.refl _ _ | exact hb1 | exact (hb1.trans (hb2.mono hb1.size)))⟩
      · have HB : Hid (b = false) := by show _ = _; rw [← hb]; exact okPair_no (by omega)
        have h3' : ((xs.length : Int) == (ys.length : Int)) = false := beq_eq_false_iff_ne.2 (by omega)
        clear hb h3
        go_enter Try.func50, Try.ntmps50
        go_wp2_with fail
        refine (ValidData_c _ xs true _ hx' hk).mono ?_
        rintro e w1 ⟨rfl, hb1⟩
        go_wp2_with fail
        refine (ValidData_c _ ys true _ (hy'.below hb1) hk2).mono ?_
        rintro e w2 ⟨rfl, hb2⟩
        go_wp2_with fail
        go_ret
        exact ⟨ret_bool HB.out.symm, (by first | exact Below.refl _ _ | exact hb1 | exact (hb1.trans (hb2.mono hb1.size)))⟩

set_option maxHeartbeats 1000000 in
theorem bothS_c (u v : Value) (xs ys : List Int) (b : Bool) (w : World) (hx : Rd w u xs) (hy : Rd w v ys) (hb : okPair xs ys = b) :
    Calls Try.prog 51 #[u, v] w fun e w' => e = .returned (.bool b) ∧ w = w' := by
  have hx' := hx
  have hy' := hy
  obtain ⟨A, c, rfl, hc, hm, hcell⟩ := hx
  obtain ⟨A2, c2, rfl, hc2, hm2, hcell2⟩ := hy
  clear hcell hcell2
  cases hk : okData xs
  · have HB : Hid (b = false) := by show _ = _; rw [← hb]; exact okPair_no (by simp [hk])
    clear hb
    go_enter Try.func51, Try.ntmps51
    go_wp2_with fail
    refine (validData_c _ xs false _ hx' hk).mono ?_
    rintro e w1 ⟨rfl, rfl⟩
    go_wp2_with fail
    go_ret
    exact ⟨ret_bool HB.out.symm, rfl⟩
  · cases hk2 : okData ys
    · have HB : Hid (b = false) := by show _ = _; rw [← hb]; exact okPair_no (by simp [hk2])
      clear hb
      go_enter Try.func51, Try.ntmps51
      go_wp2_with fail
      refine (validData_c _ xs true _ hx' hk).mono ?_
      rintro e w1 ⟨rfl, rfl⟩
      go_wp2_with fail
      refine (validData_c _ ys false _ (hy') hk2).mono ?_
      rintro e w2 ⟨rfl, rfl⟩
      go_wp2_with fail
      go_ret
      exact ⟨ret_bool HB.out.symm, rfl⟩
    · by_cases h3 : xs.length = ys.length
      · have HB : Hid (b = true) := by show _ = _; rw [← hb]; exact okPair_yes hk hk2 h3
        have h3' : ((xs.length : Int) == (ys.length : Int)) = true := beq_iff_eq.2 (by omega)
        clear hb h3
        go_enter Try.func51, Try.ntmps51
        go_wp2_with fail
        refine (validData_c _ xs true _ hx' hk).mono ?_
        rintro e w1 ⟨rfl, rfl⟩
        go_wp2_with fail
        refine (validData_c _ ys true _ (hy') hk2).mono ?_
        rintro e w2 ⟨rfl, rfl⟩
        go_wp2_with fail
        go_ret
        exact ⟨ret_bool HB.out.symm, rfl⟩
      · have HB : Hid (b = false) := by show _ = _; rw [← hb]; exact okPair_no (by omega)
        have h3' : ((xs.length : Int) == (ys.length : Int)) = false := beq_eq_false_iff_ne.2 (by omega)
        clear hb h3
        go_enter Try.func51, Try.ntmps51
        go_wp2_with fail
        refine (validData_c _ xs true _ hx' hk).mono ?_
        rintro e w1 ⟨rfl, rfl⟩
        go_wp2_with fail
        refine (validData_c _ ys true _ (hy') hk2).mono ?_
        rintro e w2 ⟨rfl, rfl⟩
        go_wp2_with fail
        go_ret
        exact ⟨ret_bool HB.out.symm, rfl⟩

/-- The sum of the squares of the differences, up to a place. -/
def gapTo (r s : List Int) (k : Nat) : Int := sumTo (fun i => (atL r i - atL s i) * (atL r i - atL s i)) k
theorem gapTo_succ (r s : List Int) (k : Nat) : gapTo r s (k + 1) = gapTo r s k + (atL r k - atL s k) * (atL r k - atL s k) := rfl
theorem rank_at_bd {xs : List Int} (hl : xs.length ≤ 10) (k : Nat) : 0 ≤ atL (rankL xs) k ∧ atL (rankL xs) k ≤ 21 := by
  by_cases hk : k < xs.length
  · have := rankL_bd (atL_mem (xs := rankL xs) (k := k) (by rw [rankL_len]; exact hk))
    omega
  · have : atL (rankL xs) k = 0 := by unfold atL; rw [List.getD_eq_getElem?_getD, List.getElem?_eq_none (by rw [rankL_len]; omega)]; rfl
    omega
theorem gapTo_bd {xs ys : List Int} (h1 : xs.length ≤ 10) (h2 : ys.length ≤ 10) (k : Nat) : 0 ≤ gapTo (rankL xs) (rankL ys) k ∧ gapTo (rankL xs) (rankL ys) k ≤ 441 * k := by
  have hk : ∀ i, 0 ≤ (atL (rankL xs) i - atL (rankL ys) i) * (atL (rankL xs) i - atL (rankL ys) i) ∧ (atL (rankL xs) i - atL (rankL ys) i) * (atL (rankL xs) i - atL (rankL ys) i) ≤ 441 := fun i => by
    have a := rank_at_bd h1 i
    have b := rank_at_bd h2 i
    exact sq_bd (m := 21) (by omega)
  exact ⟨sumTo_zero_le fun i _ => (hk i).1, (sumTo_bd (m := 441) fun i _ => by have := hk i; omega).2⟩
/-- What RankGap answers. -/
def gapR (xs ys : List Int) : Int := if okPair xs ys then gapTo (rankL xs) (rankL ys) xs.length else -1
theorem gapR_ok {xs ys : List Int} (h : okPair xs ys = true) : gapR xs ys = gapTo (rankL xs) (rankL ys) xs.length := by simp [gapR, h]
theorem gapR_bad {xs ys : List Int} (h : okPair xs ys = false) : gapR xs ys = -1 := by simp [gapR, h]

set_option maxHeartbeats 1000000 in
theorem GapS_c (u v : Value) (xs ys : List Int) (w : World) (hx : Rd w u xs) (hy : Rd w v ys) :
    Calls Try.prog 37 #[u, v] w fun e w' => e = .returned (.int .i64 (gapR xs ys)) ∧ Below w.heap.size w w' := by
  have hx' := hx
  have hy' := hy
  obtain ⟨A, c, rfl, hc, hm, hcell⟩ := hx
  obtain ⟨A2, c2, rfl, hc2, hm2, hcell2⟩ := hy
  clear hcell hcell2
  cases hk : okPair xs ys
  · have HR := hide (gapR_bad hk)
    go_enter Try.func37, Try.ntmps37
    go_wp2_with fail
    refine (bothS_c _ _ xs ys false _ hx' hy' hk).mono ?_
    rintro e w1 ⟨rfl, rfl⟩
    go_wp2_with fail
    go_ret
    exact ⟨ret_int HR.out.symm, Below.refl _ _⟩
  · have HR := hide (gapR_ok hk)
    obtain ⟨h1, h2, h3⟩ := okPair_all hk
    have hlen1 := (okData_all h1).2
    have hlen2 := (okData_all h2).2
    have H3 := hide h3
    clear h3
    go_enter Try.func37, Try.ntmps37
    go_wp2_with fail
    refine (bothS_c _ _ xs ys true _ hx' hy' hk).mono ?_
    rintro e w1 ⟨rfl, rfl⟩
    have hbA : Below w.heap.size w _ := (Below.refl _ _)
    go_wp2_with fail
    refine (ranksS_c _ xs _ (hx') (by omega)).mono ?_
    rintro e w2 ⟨v2, rfl, hs2, hb2⟩
    have hbB : Below w.heap.size w w2 := hbA.trans (hb2.mono hbA.size)
    go_wp2_with fail
    refine (ranksS_c _ ys _ (hy'.below hbB) (by omega)).mono ?_
    rintro e w3 ⟨v3, rfl, hs3, hb3⟩
    have hbC : Below w.heap.size w w3 := hbB.trans (hb3.mono hbB.size)
    have hr2 := hs2.rd.below hb3
    have hr3 := hs3.rd
    have HL1 := hide (rankL_len xs)
    have HL2 := hide (rankL_len ys)
    obtain ⟨B1, d1, rfl, hd1, hn1, _⟩ := id hr2
    obtain ⟨B2, d2, rfl, hd2, hn2, _⟩ := id hr3
    have hat2 := hr2.at
    have hat3 := hr3.at
    obtain ⟨N, hN⟩ : ∃ N, (rankL xs).length = N := ⟨_, rfl⟩
    obtain ⟨M, hM⟩ : ∃ M, (rankL ys).length = M := ⟨_, rfl⟩
    rw [hN] at hat2 hd1 HL1 ⊢
    rw [hM] at hat3 hd2 HL2 ⊢
    have HN1 : Hid (N = xs.length) := HL1
    have HN2 : Hid (M = N) := by show _ = _; rw [HL2.out, HL1.out, H3.out]
    clear hN hM HL1 HL2 hr2 hr3 hx' hy'
    have hNl : N ≤ 10 := by have := HN1.out; omega
    go_wp2_with fail
    go_loopw [7, 8] (fun s i wr => ∃ k : Nat, k ≤ N ∧ i = .int .i64 k ∧ s = .int .i64 (gapTo (rankL xs) (rankL ys) k) ∧ Below w3.heap.size w3 wr) (fun _ i _ => N - (intOf i).toNat)
    case atStart => exact ⟨0, Nat.zero_le _, rfl, rfl, Below.refl _ _⟩
    case round =>
      obtain ⟨k, hk, rfl, rfl, hbel⟩ := hrel
      by_cases hlt : k < N
      · obtain ⟨g, off, rfl, hg, hcl⟩ := hat2 (by omega)
        obtain ⟨g2, off2, rfl, hg2, hcl2⟩ := hat3 (by have := HN2.out; omega)
        have hc1 : wr.cell? ⟨g, off + k, none⟩ = some (.int .i64 (atL (rankL xs) k)) := (hbel.cell hg).trans (hcl k hlt)
        have hc2 : wr.cell? ⟨g2, off2 + k, none⟩ = some (.int .i64 (atL (rankL ys) k)) := (hbel.cell hg2).trans (hcl2 k (by have := HN2.out; omega))
        have hi1 : (k : Int) < (N : Int) := by omega
        have hi2 : (k : Int) < (M : Int) := by have := HN2.out; omega
        have ha := rank_at_bd hlen1 k
        have hb := rank_at_bd hlen2 k
        have hS := gapTo_bd hlen1 hlen2 k
        have HS := hide (gapTo_succ (rankL xs) (rankL ys) k)
        obtain ⟨X, hX⟩ : ∃ X, atL (rankL xs) k = X := ⟨_, rfl⟩
        obtain ⟨Y, hY⟩ : ∃ Y, atL (rankL ys) k = Y := ⟨_, rfl⟩
        obtain ⟨S, hS'⟩ : ∃ S, gapTo (rankL xs) (rankL ys) k = S := ⟨_, rfl⟩
        rw [hX] at hc1 ha HS
        rw [hY] at hc2 hb HS
        rw [hS'] at hS HS ⊢
        have hsq := sq_bd (x := X - Y) (m := 21) (by omega)
        have e1 : IntKind.i64.wrap (X - Y) = X - Y := IntWalk.i64_in _ (by omega)
        have e2 : IntKind.i64.wrap ((X - Y) * (X - Y)) = (X - Y) * (X - Y) := IntWalk.i64_in _ (by omega)
        have e3 : IntKind.i64.wrap (S + (X - Y) * (X - Y)) = S + (X - Y) * (X - Y) := IntWalk.i64_in _ (by omega)
        clear hat2 hat3 hcl hcl2 hX hY hS'
        go_wp2_with fail
        go_quiet (fail)
        go_wp2
        go_roundw
        case rel => exact ⟨k + 1, by omega, by go_num, by rw [HS.out], below_drewN hbel _⟩
        case measure => simp [intOf]; omega
      · obtain rfl : k = N := by omega
        clear hat2 hat3
        go_wp2_with fail
        go_ret
        refine ⟨ret_int ?_, hbC.trans (hbel.mono hbC.size)⟩
        rw [HR.out, HN1.out]

set_option maxHeartbeats 1000000 in
theorem GapI_c (u v : Value) (xs ys : List Int) (w : World) (hx : Rd w u xs) (hy : Rd w v ys) :
    Calls Try.prog 36 #[u, v] w fun e w' => e = .returned (.int .i64 (gapR xs ys)) ∧ Below w.heap.size w w' := by
  have hx' := hx
  have hy' := hy
  obtain ⟨A, c, rfl, hc, hm, hcell⟩ := hx
  obtain ⟨A2, c2, rfl, hc2, hm2, hcell2⟩ := hy
  clear hcell hcell2
  cases hk : okPair xs ys
  · have HR := hide (gapR_bad hk)
    go_enter Try.func36, Try.ntmps36
    go_wp2_with fail
    refine (bothI_c _ _ xs ys false _ hx' hy' hk).mono ?_
    rintro e w1 ⟨rfl, hb1⟩
    go_wp2_with fail
    go_ret
    exact ⟨ret_int HR.out.symm, hb1⟩
  · have HR := hide (gapR_ok hk)
    obtain ⟨h1, h2, h3⟩ := okPair_all hk
    have hlen1 := (okData_all h1).2
    have hlen2 := (okData_all h2).2
    have H3 := hide h3
    clear h3
    go_enter Try.func36, Try.ntmps36
    go_wp2_with fail
    refine (bothI_c _ _ xs ys true _ hx' hy' hk).mono ?_
    rintro e w1 ⟨rfl, hb1⟩
    have hbA : Below w.heap.size w _ := hb1
    go_wp2_with fail
    refine (ranksI_c _ xs _ (hx'.below hb1) (by omega)).mono ?_
    rintro e w2 ⟨v2, rfl, hs2, hb2⟩
    have hbB : Below w.heap.size w w2 := hbA.trans (hb2.mono hbA.size)
    go_wp2_with fail
    refine (ranksI_c _ ys _ (hy'.below hbB) (by omega)).mono ?_
    rintro e w3 ⟨v3, rfl, hs3, hb3⟩
    have hbC : Below w.heap.size w w3 := hbB.trans (hb3.mono hbB.size)
    have hr2 := hs2.rd.below hb3
    have hr3 := hs3.rd
    have HL1 := hide (rankL_len xs)
    have HL2 := hide (rankL_len ys)
    obtain ⟨B1, d1, rfl, hd1, hn1, _⟩ := id hr2
    obtain ⟨B2, d2, rfl, hd2, hn2, _⟩ := id hr3
    have hat2 := hr2.at
    have hat3 := hr3.at
    obtain ⟨N, hN⟩ : ∃ N, (rankL xs).length = N := ⟨_, rfl⟩
    obtain ⟨M, hM⟩ : ∃ M, (rankL ys).length = M := ⟨_, rfl⟩
    rw [hN] at hat2 hd1 HL1 ⊢
    rw [hM] at hat3 hd2 HL2 ⊢
    have HN1 : Hid (N = xs.length) := HL1
    have HN2 : Hid (M = N) := by show _ = _; rw [HL2.out, HL1.out, H3.out]
    clear hN hM HL1 HL2 hr2 hr3 hx' hy'
    have hNl : N ≤ 10 := by have := HN1.out; omega
    go_wp2_with fail
    go_loopw [7, 19] (fun s i wr => ∃ k : Nat, k ≤ N ∧ i = .int .i64 k ∧ s = .int .i64 (gapTo (rankL xs) (rankL ys) k) ∧ Below w3.heap.size w3 wr) (fun _ i _ => N - (intOf i).toNat)
    case atStart => exact ⟨0, Nat.zero_le _, rfl, rfl, Below.refl _ _⟩
    case round =>
      obtain ⟨k, hk, rfl, rfl, hbel⟩ := hrel
      by_cases hlt : k < N
      · obtain ⟨g, off, rfl, hg, hcl⟩ := hat2 (by omega)
        obtain ⟨g2, off2, rfl, hg2, hcl2⟩ := hat3 (by have := HN2.out; omega)
        have hc1 : wr.cell? ⟨g, off + k, none⟩ = some (.int .i64 (atL (rankL xs) k)) := (hbel.cell hg).trans (hcl k hlt)
        have hc2 : wr.cell? ⟨g2, off2 + k, none⟩ = some (.int .i64 (atL (rankL ys) k)) := (hbel.cell hg2).trans (hcl2 k (by have := HN2.out; omega))
        have hi1 : (k : Int) < (N : Int) := by omega
        have hi2 : (k : Int) < (M : Int) := by have := HN2.out; omega
        have ha := rank_at_bd hlen1 k
        have hb := rank_at_bd hlen2 k
        have hS := gapTo_bd hlen1 hlen2 k
        have HS := hide (gapTo_succ (rankL xs) (rankL ys) k)
        obtain ⟨X, hX⟩ : ∃ X, atL (rankL xs) k = X := ⟨_, rfl⟩
        obtain ⟨Y, hY⟩ : ∃ Y, atL (rankL ys) k = Y := ⟨_, rfl⟩
        obtain ⟨S, hS'⟩ : ∃ S, gapTo (rankL xs) (rankL ys) k = S := ⟨_, rfl⟩
        rw [hX] at hc1 ha HS
        rw [hY] at hc2 hb HS
        rw [hS'] at hS HS ⊢
        have hsq := sq_bd (x := X - Y) (m := 21) (by omega)
        have e1 : IntKind.i64.wrap (X - Y) = X - Y := IntWalk.i64_in _ (by omega)
        have e2 : IntKind.i64.wrap ((X - Y) * (X - Y)) = (X - Y) * (X - Y) := IntWalk.i64_in _ (by omega)
        have e3 : IntKind.i64.wrap (S + (X - Y) * (X - Y)) = S + (X - Y) * (X - Y) := IntWalk.i64_in _ (by omega)
        clear hat2 hat3 hcl hcl2 hX hY hS'
        go_wp2_with fail
        go_quiet (fail)
        go_wp2
        go_roundw
        case rel => exact ⟨k + 1, by omega, by go_num, by rw [HS.out], below_drewN hbel _⟩
        case measure => simp [intOf]; omega
      · obtain rfl : k = N := by omega
        clear hat2 hat3
        go_wp2_with fail
        go_ret
        refine ⟨ret_int ?_, hbC.trans (hbel.mono hbC.size)⟩
        rw [HR.out, HN1.out]

/-- How much two rows agree. -/
def agreeRow (xs ys : List Int) (i : Nat) (k : Nat) : Int := sumTo (fun j => sgn (atL xs i - atL xs j) * sgn (atL ys i - atL ys j)) k
def agreeTo (xs ys : List Int) (n : Nat) : Int := sumTo (fun i => agreeRow xs ys i i) n
theorem agreeRow_succ (xs ys : List Int) (i k : Nat) : agreeRow xs ys i (k + 1) = agreeRow xs ys i k + sgn (atL xs i - atL xs k) * sgn (atL ys i - atL ys k) := rfl
theorem agreeTo_succ (xs ys : List Int) (n : Nat) : agreeTo xs ys (n + 1) = agreeTo xs ys n + agreeRow xs ys n n := rfl
theorem agreeRow_bd (xs ys : List Int) (i k : Nat) : -(k : Int) ≤ agreeRow xs ys i k ∧ agreeRow xs ys i k ≤ k := by
  have := sumTo_bd (f := fun j => sgn (atL xs i - atL xs j) * sgn (atL ys i - atL ys j)) (m := 1) (n := k) fun j _ => sgn_mul_bd _ _
  simp only [agreeRow]
  omega
theorem agreeTo_bd (xs ys : List Int) {n : Nat} (hn : n ≤ 10) : -(10 * (n : Int)) ≤ agreeTo xs ys n ∧ agreeTo xs ys n ≤ 10 * n :=
  sumTo_bd (m := 10) fun i hi => by have := agreeRow_bd xs ys i i; omega
def agreeR (xs ys : List Int) : Int := if okPair xs ys then agreeTo xs ys xs.length else 0
theorem agreeR_ok {xs ys : List Int} (h : okPair xs ys = true) : agreeR xs ys = agreeTo xs ys xs.length := by simp [agreeR, h]
theorem agreeR_bad {xs ys : List Int} (h : okPair xs ys = false) : agreeR xs ys = 0 := by simp [agreeR, h]

set_option maxHeartbeats 1000000 in
theorem kendall_c (u v : Value) (xs ys : List Int) (w : World) (hx : Rd w u xs) (hy : Rd w v ys) (hall1 : allB (-200) 200 xs = true) (hall2 : allB (-200) 200 ys = true) (hlen : xs.length ≤ 10) (h3 : xs.length = ys.length) :
    Calls Try.prog 52 #[u, v] w fun e w' => e = .returned (.int .i64 (agreeTo xs ys xs.length)) ∧ Below w.heap.size w w' := by
  have hat1 : ∀ k, -200 ≤ atL xs k ∧ atL xs k ≤ 200 := fun k => at_bd (lo := 200) hall1 (k := k)
  have hat2 : ∀ k, -200 ≤ atL ys k ∧ atL ys k ≤ 200 := fun k => at_bd (lo := 200) hall2 (k := k)
  have hr1 := hx
  have hr2 := hy
  obtain ⟨A, c, rfl, hc, hm, _⟩ := hx
  obtain ⟨A2, c2, rfl, hc2, hm2, _⟩ := hy
  have hcA := hr1.at
  have hcB := hr2.at
  have H3 := hide h3
  clear h3 hr1 hr2 hall1 hall2
  go_enter Try.func52, Try.ntmps52
  go_wp2_with fail
  go_loopw [5, 6] (fun s i wr => ∃ k : Nat, k ≤ xs.length ∧ i = .int .i64 k ∧ s = .int .i64 (agreeTo xs ys k) ∧ Below w.heap.size w wr) (fun _ i _ => xs.length - (intOf i).toNat)
  case atStart => exact ⟨0, Nat.zero_le _, rfl, rfl, Below.refl _ _⟩
  case round =>
    obtain ⟨k, hk, rfl, rfl, hbel⟩ := hrel
    by_cases hlt : k < xs.length
    · have hlt2 : k < ys.length := by have := H3.out; omega
      have hS := agreeTo_bd xs ys (n := k) (by omega)
      have HS := hide (agreeTo_succ xs ys k)
      obtain ⟨S, hS'⟩ : ∃ S, agreeTo xs ys k = S := ⟨_, rfl⟩
      rw [hS'] at hS HS ⊢
      clear hS'
      go_wp2_with fail
      go_loopw [5, 7] (fun s j wr2 => ∃ m : Nat, m ≤ k ∧ j = .int .i64 m ∧ s = .int .i64 (S + agreeRow xs ys k m) ∧ Below w.heap.size w wr2) (fun _ j _ => k - (intOf j).toNat)
      case atStart => exact ⟨0, Nat.zero_le _, rfl, by simp [agreeRow, sumTo], hbel⟩
      case round =>
        obtain ⟨m, hml, rfl, rfl, hbel2⟩ := hrel
        by_cases hlm : m < k
        · obtain ⟨g, off, rfl, hg, hcl⟩ := hcA (by omega)
          obtain ⟨g2, off2, rfl, hg2, hcl2⟩ := hcB (by omega)
          have hc1 : wr.cell? ⟨g, off + k, none⟩ = some (.int .i64 (atL xs k)) := (hbel2.cell hg).trans (hcl k hlt)
          have hc2 : wr.cell? ⟨g, off + m, none⟩ = some (.int .i64 (atL xs m)) := (hbel2.cell hg).trans (hcl m (by omega))
          have hc3 : wr.cell? ⟨g2, off2 + k, none⟩ = some (.int .i64 (atL ys k)) := (hbel2.cell hg2).trans (hcl2 k hlt2)
          have hc4 : wr.cell? ⟨g2, off2 + m, none⟩ = some (.int .i64 (atL ys m)) := (hbel2.cell hg2).trans (hcl2 m (by omega))
          have hi1 : (k : Int) < (xs.length : Int) := by omega
          have hi2 : (m : Int) < (xs.length : Int) := by omega
          have hi3 : (k : Int) < (ys.length : Int) := by omega
          have hi4 : (m : Int) < (ys.length : Int) := by omega
          have b1 := hat1 k
          have b2 := hat1 m
          have b3 := hat2 k
          have b4 := hat2 m
          have hR := agreeRow_bd xs ys k m
          have HR := hide (agreeRow_succ xs ys k m)
          obtain ⟨P, hP⟩ : ∃ P, atL xs k = P := ⟨_, rfl⟩
          obtain ⟨Q, hQ⟩ : ∃ Q, atL xs m = Q := ⟨_, rfl⟩
          obtain ⟨T, hT⟩ : ∃ T, atL ys k = T := ⟨_, rfl⟩
          obtain ⟨U, hU⟩ : ∃ U, atL ys m = U := ⟨_, rfl⟩
          obtain ⟨Z, hZ⟩ : ∃ Z, agreeRow xs ys k m = Z := ⟨_, rfl⟩
          rw [hP] at hc1 b1 HR
          rw [hQ] at hc2 b2 HR
          rw [hT] at hc3 b3 HR
          rw [hU] at hc4 b4 HR
          rw [hZ] at hR HR ⊢
          have hsm := sgn_mul_bd (P - Q) (T - U)
          have e1 : IntKind.i64.wrap (P - Q) = P - Q := IntWalk.i64_in _ (by omega)
          have e2 : IntKind.i64.wrap (T - U) = T - U := IntWalk.i64_in _ (by omega)
          have e3 : IntKind.i64.wrap (sgn (P - Q) * sgn (T - U)) = sgn (P - Q) * sgn (T - U) := IntWalk.i64_in _ (by omega)
          have e4 : IntKind.i64.wrap (S + Z + sgn (P - Q) * sgn (T - U)) = S + Z + sgn (P - Q) * sgn (T - U) := IntWalk.i64_in _ (by omega)
          clear hcA hcB hcl hcl2 hat1 hat2 hP hQ hT hU hZ
          go_wp2_with fail
          go_quiet ((go_at_call 68; exact quiet_eq (signS_c _ _ (by omega))))
          go_wp2
          go_roundw
          case rel => exact ⟨m + 1, by omega, by go_num, by rw [HR.out]; congr 1; omega, below_drewN hbel2 _⟩
          case measure => simp [intOf]; omega
        · obtain rfl : m = k := by omega
          go_wp2_with fail
          go_roundw
          case rel => exact ⟨m + 1, by omega, by go_num, by rw [HS.out], hbel2⟩
          case measure => simp [intOf]; omega
    · obtain rfl : k = xs.length := by omega
      go_wp2_with fail
      go_ret
      exact ⟨rfl, hbel⟩

set_option maxHeartbeats 1000000 in
theorem AgreeS_c (u v : Value) (xs ys : List Int) (w : World) (hx : Rd w u xs) (hy : Rd w v ys) :
    Calls Try.prog 18 #[u, v] w fun e w' => e = .returned (.tuple #[.int .i64 (agreeR xs ys), .bool (okPair xs ys)]) ∧ Below w.heap.size w w' := by
  have hx' := hx
  have hy' := hy
  obtain ⟨A, c, rfl, hc, hm, hcell⟩ := hx
  obtain ⟨A2, c2, rfl, hc2, hm2, hcell2⟩ := hy
  clear hcell hcell2
  cases hk : okPair xs ys
  · have HR := hide (agreeR_bad hk)
    go_enter Try.func18, Try.ntmps18
    go_wp2_with fail
    refine (bothS_c _ _ xs ys false _ hx' hy' hk).mono ?_
    rintro e w1 ⟨rfl, rfl⟩
    go_wp2_with fail
    go_ret2
    rw [HR.out]
    exact ⟨rfl, Below.refl _ _⟩
  · have HR := hide (agreeR_ok hk)
    obtain ⟨h1, h2, h3⟩ := okPair_all hk
    obtain ⟨hall1, hlen1⟩ := okData_all h1
    obtain ⟨hall2, hlen2⟩ := okData_all h2
    have H3 := hide h3
    clear h3
    go_enter Try.func18, Try.ntmps18
    go_wp2_with fail
    refine (bothS_c _ _ xs ys true _ hx' hy' hk).mono ?_
    rintro e w1 ⟨rfl, rfl⟩
    go_wp2_with fail
    refine (kendall_c _ _ xs ys _ hx' hy' hall1 hall2 hlen1 H3.out).mono ?_
    rintro e w2 ⟨rfl, hb2⟩
    go_wp2_with fail
    go_ret2
    rw [HR.out]
    exact ⟨rfl, hb2⟩

set_option maxHeartbeats 1000000 in
theorem AgreeI_c (u v : Value) (xs ys : List Int) (w : World) (hx : Rd w u xs) (hy : Rd w v ys) :
    Calls Try.prog 17 #[u, v] w fun e w' => e = .returned (.tuple #[.int .i64 (agreeR xs ys), .bool (okPair xs ys)]) ∧ Below w.heap.size w w' := by
  have hx' := hx
  have hy' := hy
  obtain ⟨A, c, rfl, hc, hm, hcell⟩ := hx
  obtain ⟨A2, c2, rfl, hc2, hm2, hcell2⟩ := hy
  clear hcell hcell2
  cases hk : okPair xs ys
  · have HR := hide (agreeR_bad hk)
    go_enter Try.func17, Try.ntmps17
    go_wp2_with fail
    refine (bothI_c _ _ xs ys false _ hx' hy' hk).mono ?_
    rintro e w1 ⟨rfl, hb1⟩
    go_wp2_with fail
    go_ret2
    rw [HR.out]
    exact ⟨rfl, hb1⟩
  · have HR := hide (agreeR_ok hk)
    obtain ⟨h1, h2, h3⟩ := okPair_all hk
    obtain ⟨hall1, hlen1⟩ := okData_all h1
    obtain ⟨hall2, hlen2⟩ := okData_all h2
    have hat1 : ∀ k, -200 ≤ atL xs k ∧ atL xs k ≤ 200 := fun k => at_bd (lo := 200) hall1 (k := k)
    have hat2 : ∀ k, -200 ≤ atL ys k ∧ atL ys k ≤ 200 := fun k => at_bd (lo := 200) hall2 (k := k)
    have H3 := hide h3
    clear h3
    go_enter Try.func17, Try.ntmps17
    go_wp2_with fail
    refine (bothI_c _ _ xs ys true _ hx' hy' hk).mono ?_
    rintro e w1 ⟨rfl, hb1⟩
    have hcA := (hx'.below hb1).at
    have hcB := (hy'.below hb1).at
    have HX := hide hx'
    have HY := hide hy'
    clear hx' hy' h1 h2 hk hall1 hall2
    go_wp2_with fail
    go_loopw [6, 15] (fun s i wr => ∃ k : Nat, k ≤ xs.length ∧ i = .int .i64 k ∧ s = .int .i64 (agreeTo xs ys k) ∧ Below w1.heap.size w1 wr) (fun _ i _ => xs.length - (intOf i).toNat)
    case atStart => exact ⟨0, Nat.zero_le _, rfl, rfl, Below.refl _ _⟩
    case round =>
      obtain ⟨k, hk, rfl, rfl, hbel⟩ := hrel
      by_cases hlt : k < xs.length
      · have hlt2 : k < ys.length := by have := H3.out; omega
        have hS := agreeTo_bd xs ys (n := k) (by omega)
        have HS := hide (agreeTo_succ xs ys k)
        obtain ⟨S, hS'⟩ : ∃ S, agreeTo xs ys k = S := ⟨_, rfl⟩
        rw [hS'] at hS HS ⊢
        clear hS'
        go_wp2_with fail
        go_loopw [6, 19] (fun s j wr2 => ∃ m : Nat, m ≤ k ∧ j = .int .i64 m ∧ s = .int .i64 (S + agreeRow xs ys k m) ∧ Below w1.heap.size w1 wr2) (fun _ j _ => k - (intOf j).toNat)
        case atStart => exact ⟨0, Nat.zero_le _, rfl, by simp [agreeRow, sumTo], hbel⟩
        case round =>
          obtain ⟨m, hml, rfl, rfl, hbel2⟩ := hrel
          by_cases hlm : m < k
          · obtain ⟨g, off, rfl, hg, hcl⟩ := hcA (by omega)
            obtain ⟨g2, off2, rfl, hg2, hcl2⟩ := hcB (by omega)
            have hc1 : wr.cell? ⟨g, off + k, none⟩ = some (.int .i64 (atL xs k)) := (hbel2.cell hg).trans (hcl k hlt)
            have hc2 : wr.cell? ⟨g, off + m, none⟩ = some (.int .i64 (atL xs m)) := (hbel2.cell hg).trans (hcl m (by omega))
            have hc3 : wr.cell? ⟨g2, off2 + k, none⟩ = some (.int .i64 (atL ys k)) := (hbel2.cell hg2).trans (hcl2 k hlt2)
            have hc4 : wr.cell? ⟨g2, off2 + m, none⟩ = some (.int .i64 (atL ys m)) := (hbel2.cell hg2).trans (hcl2 m (by omega))
            have hi1 : (k : Int) < (xs.length : Int) := by omega
            have hi2 : (m : Int) < (xs.length : Int) := by omega
            have hi3 : (k : Int) < (ys.length : Int) := by omega
            have hi4 : (m : Int) < (ys.length : Int) := by omega
            have b1 := hat1 k
            have b2 := hat1 m
            have b3 := hat2 k
            have b4 := hat2 m
            have hR := agreeRow_bd xs ys k m
            have HR := hide (agreeRow_succ xs ys k m)
            obtain ⟨P, hP⟩ : ∃ P, atL xs k = P := ⟨_, rfl⟩
            obtain ⟨Q, hQ⟩ : ∃ Q, atL xs m = Q := ⟨_, rfl⟩
            obtain ⟨T, hT⟩ : ∃ T, atL ys k = T := ⟨_, rfl⟩
            obtain ⟨U, hU⟩ : ∃ U, atL ys m = U := ⟨_, rfl⟩
            obtain ⟨Z, hZ⟩ : ∃ Z, agreeRow xs ys k m = Z := ⟨_, rfl⟩
            rw [hP] at hc1 b1 HR
            rw [hQ] at hc2 b2 HR
            rw [hT] at hc3 b3 HR
            rw [hU] at hc4 b4 HR
            rw [hZ] at hR HR ⊢
            have hsm := sgn_mul_bd (P - Q) (T - U)
            have e1 : IntKind.i64.wrap (P - Q) = P - Q := IntWalk.i64_in _ (by omega)
            have e2 : IntKind.i64.wrap (T - U) = T - U := IntWalk.i64_in _ (by omega)
            have e3 : IntKind.i64.wrap (sgn (P - Q) * sgn (T - U)) = sgn (P - Q) * sgn (T - U) := IntWalk.i64_in _ (by omega)
            have e4 : IntKind.i64.wrap (S + Z + sgn (P - Q) * sgn (T - U)) = S + Z + sgn (P - Q) * sgn (T - U) := IntWalk.i64_in _ (by omega)
            clear hcA hcB hcl hcl2 hat1 hat2 hP hQ hT hU hZ
            go_wp2_with fail
            go_quiet ((go_at_call 43; exact quiet_eq (signI_c _ _ (by omega))))
            go_wp2
            go_roundw
            case rel => exact ⟨m + 1, by omega, by go_num, by rw [HR.out]; congr 1; omega, below_drewN hbel2 _⟩
            case measure => simp [intOf]; omega
          · obtain rfl : m = k := by omega
            go_wp2_with fail
            go_roundw
            case rel => exact ⟨m + 1, by omega, by go_num, by rw [HS.out], hbel2⟩
            case measure => simp [intOf]; omega
      · obtain rfl : k = xs.length := by omega
        go_wp2_with fail
        go_ret2
        exact ⟨ret_pair HR.out.symm, hb1.trans (hbel.mono hb1.size)⟩
end Go.Proofs.Ytipmakmidadalaa
