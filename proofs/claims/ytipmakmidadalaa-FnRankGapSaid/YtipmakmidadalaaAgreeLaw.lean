/-
  The statement FnAgreeOf: for every code it returns true and writes nothing that was there.
-/
import Derived.Test.YtipmakmidadalaaPair
import Derived.Test.YtipmakmidadalaaSignLaw
namespace Go.Proofs.Ytipmakmidadalaa
open Go.RowKit

theorem at_neg (ys : List Int) (i : Nat) : atL (negL ys) i = -atL ys i := by
  unfold atL
  by_cases h : i < ys.length
  · rw [getD_lt (by rw [negL_len]; exact h), getD_lt h]
    simp [negL]
  · rw [List.getD_eq_getElem?_getD, List.getD_eq_getElem?_getD, List.getElem?_eq_none (by rw [negL_len]; omega), List.getElem?_eq_none (by omega)]
    rfl
theorem sgn_neg (x : Int) : sgn (-x) = -sgn x := by unfold sgn; repeat (first | omega | split)
theorem agreeTo_comm (xs ys : List Int) (n : Nat) : agreeTo ys xs n = agreeTo xs ys n :=
  sumTo_congr fun i _ => sumTo_congr fun j _ => Int.mul_comm _ _
theorem agreeTo_neg (xs ys : List Int) (n : Nat) : agreeTo xs (negL ys) n = -agreeTo xs ys n := by
  rw [agreeTo, agreeTo, ← sumTo_neg]
  refine sumTo_congr fun i _ => ?_
  rw [agreeRow, agreeRow, ← sumTo_neg]
  refine sumTo_congr fun j _ => ?_
  rw [at_neg, at_neg, show -atL ys i - -atL ys j = -(atL ys i - atL ys j) from by omega, sgn_neg, Int.mul_neg]
/-- How many pairs of places hold different numbers. -/
def diffRow (xs : List Int) (i k : Nat) : Int := sumTo (fun j => if atL xs i ≠ atL xs j then 1 else 0) k
def diffTo (xs : List Int) (n : Nat) : Int := sumTo (fun i => diffRow xs i i) n
theorem diffRow_succ (xs : List Int) (i k : Nat) : diffRow xs i (k + 1) = diffRow xs i k + if atL xs i ≠ atL xs k then 1 else 0 := rfl
theorem diffTo_succ (xs : List Int) (n : Nat) : diffTo xs (n + 1) = diffTo xs n + diffRow xs n n := rfl
theorem diffRow_bd (xs : List Int) (i k : Nat) : 0 ≤ diffRow xs i k ∧ diffRow xs i k ≤ k := by
  have h : ∀ j, j < k → (0 : Int) ≤ (if atL xs i ≠ atL xs j then 1 else 0) ∧ (if atL xs i ≠ atL xs j then (1 : Int) else 0) ≤ 1 := fun j _ => by split <;> omega
  have h1 := sumTo_zero_le fun j hj => (h j hj).1
  have h2 := sumTo_bd (m := 1) (n := k) (f := fun j => if atL xs i ≠ atL xs j then 1 else 0) fun j hj => by have := h j hj; omega
  simp only [diffRow]
  omega
theorem diffTo_bd (xs : List Int) {n : Nat} (hn : n ≤ 10) : 0 ≤ diffTo xs n ∧ diffTo xs n ≤ 10 * n := by
  have h : ∀ i, i < n → 0 ≤ diffRow xs i i ∧ diffRow xs i i ≤ 10 := fun i hi => by have := diffRow_bd xs i i; omega
  exact ⟨sumTo_zero_le fun i hi => (h i hi).1, (sumTo_bd (m := 10) fun i hi => by have := h i hi; omega).2⟩
theorem sgn_self (a b : Int) : sgn (a - b) * sgn (a - b) = if a ≠ b then 1 else 0 := by
  by_cases h : a = b
  · subst h; simp [sgn]
  · rw [if_pos h]
    by_cases h2 : 0 < a - b
    · simp only [sgn, if_pos h2]
      rfl
    · have h3 : a - b < 0 := by omega
      simp only [sgn, if_neg h2, if_pos h3]
      rfl
theorem agree_self (xs : List Int) (n : Nat) : agreeTo xs xs n = diffTo xs n :=
  sumTo_congr fun i _ => sumTo_congr fun j _ => sgn_self _ _
theorem sgn_le (a b c d : Int) : -(if a ≠ b then (1 : Int) else 0) ≤ sgn (a - b) * sgn (c - d) ∧ sgn (a - b) * sgn (c - d) ≤ if a ≠ b then 1 else 0 := by
  by_cases h : a = b
  · subst h; simp [sgn]
  · have := sgn_mul_bd (a - b) (c - d)
    rw [if_pos h]
    omega
theorem agree_le (xs ys : List Int) (n : Nat) : -diffTo xs n ≤ agreeTo xs ys n ∧ agreeTo xs ys n ≤ diffTo xs n := by
  constructor
  · rw [diffTo, ← sumTo_neg]
    refine sumTo_le fun i _ => ?_
    rw [diffRow, ← sumTo_neg]
    exact sumTo_le fun j _ => (sgn_le _ _ _ _).1
  · exact sumTo_le fun i _ => sumTo_le fun j _ => (sgn_le _ _ _ _).2
theorem okPair_swap (xs ys : List Int) : okPair ys xs = okPair xs ys := by
  cases h : okPair xs ys
  · apply okPair_no
    rintro ⟨h1, h2, h3⟩
    rw [okPair_yes h2 h1 h3.symm] at h
    cases h
  · obtain ⟨h1, h2, h3⟩ := okPair_all h
    exact okPair_yes h2 h1 h3.symm
theorem okPair_neg {xs ys : List Int} (h : okPair xs ys = true) : okPair xs (negL ys) = true := by
  obtain ⟨h1, h2, h3⟩ := okPair_all h
  exact okPair_yes h1 (by rw [okData_neg]; exact h2) (by rw [negL_len]; exact h3)

set_option maxHeartbeats 1000000 in
theorem FnAgreeOf_c (A : Option Addr) (n c : Nat) (bs : List Int) (w : World) (hl : bs.length = n) (hnc : n ≤ c) (hc : c ≤ 9223372036854775807) (hr : Rd8 w w.heap.size A bs) :
    Calls Try.prog 4 #[.slice A n c] w fun e w' => e = .returned (.bool true) ∧ Below w.heap.size w w' := by
  by_cases hbig : 1048576 < n
  · go_enter Try.func4, Try.ntmps4
    go_wp2
    go_ret
    exact ⟨rfl, Below.refl _ _⟩
  · go_enter Try.func4, Try.ntmps4
    go_wp2_with fail
    refine (DrawAgreeOf_c A n c bs _ hl hnc hc hr).mono ?_
    rintro e w1 ⟨v, xs, u, ys, rfl, hsv, hxl, hsu, hyl, hb1⟩
    have hrx := hsv.rd
    have hry := hsu.rd
    cases hok : okPair xs ys
    · have HK := hide hok
      have HM := hide (agreeR_bad hok)
      clear hok
      go_wp2_with fail
      refine (AgreeI_c _ _ xs ys _ hrx hry).mono ?_
      rw [HM.out, HK.out]
      rintro e w2 ⟨rfl, hb2⟩
      go_wp2_with fail
      refine (AgreeS_c _ _ xs ys _ (Rd.below hrx (by (repeat (first | exact Below.refl _ _ | assumption | refine Below.setCell ?_ (by first | (simp; done) | omega | (simp; omega) | (simp at *; omega)) _ | refine Below.drew ?_ | refine below_drewN ?_ _ | refine below_alloc' ?_ _ | refine below_to' ?_ (by assumption))))) (Rd.below hry (by (repeat (first | exact Below.refl _ _ | assumption | refine Below.setCell ?_ (by first | (simp; done) | omega | (simp; omega) | (simp at *; omega)) _ | refine Below.drew ?_ | refine below_drewN ?_ _ | refine below_alloc' ?_ _ | refine below_to' ?_ (by assumption)))))).mono ?_
      rw [HM.out, HK.out]
      rintro e w3 ⟨rfl, hb3⟩
      go_wp2_with fail
      go_ret
      exact ⟨rfl, by (repeat (first | exact Below.refl _ _ | assumption | refine Below.setCell ?_ (by first | (simp; done) | omega | (simp; omega) | (simp at *; omega)) _ | refine Below.drew ?_ | refine below_drewN ?_ _ | refine below_alloc' ?_ _ | refine below_to' ?_ (by assumption)))⟩
    · obtain ⟨h1, h2, h3⟩ := okPair_all hok
      have hall2 := (okData_all h2).1
      have hlen := (okData_all h1).2
      have HK := hide hok
      have HK2 : Hid (okPair ys xs = true) := by show _ = _; rw [okPair_swap]; exact hok
      have HK3 := hide (okPair_neg hok)
      have HK4 := hide (okPair_yes h1 h1 rfl)
      have HM := hide (agreeR_ok hok)
      have HM2 : Hid (agreeR ys xs = agreeTo xs ys xs.length) := by show _ = _; rw [agreeR_ok HK2.out, agreeTo_comm, h3]
      have HM3 : Hid (agreeR xs (negL ys) = -agreeTo xs ys xs.length) := by show _ = _; rw [agreeR_ok HK3.out, agreeTo_neg]
      have HM4 : Hid (agreeR xs xs = diffTo xs xs.length) := by show _ = _; rw [agreeR_ok HK4.out, agree_self]
      have hle := agree_le xs ys xs.length
      have hdb := diffTo_bd xs hlen
      have hbn : allB (-1000000000) 1000000000 ys = true := allB_iff.2 fun x hx => by have := allB_iff.1 hall2 x hx; omega
      have HB := hide hbn
      obtain ⟨W, hW⟩ : ∃ W, agreeTo xs ys xs.length = W := ⟨_, rfl⟩
      obtain ⟨D, hD⟩ : ∃ D, diffTo xs xs.length = D := ⟨_, rfl⟩
      rw [hW] at HM HM2 HM3 hle
      rw [hD] at HM4 hle hdb
      have HD := hide hD
      clear hok h1 h2 h3 hall2 hbn hW hD
      go_wp2_with fail
      refine (AgreeI_c _ _ xs ys _ hrx hry).mono ?_
      rw [HM.out, HK.out]
      rintro e w2 ⟨rfl, hb2⟩
      go_wp2_with fail
      refine (AgreeS_c _ _ xs ys _ (Rd.below hrx (by (repeat (first | exact Below.refl _ _ | assumption | refine Below.setCell ?_ (by first | (simp; done) | omega | (simp; omega) | (simp at *; omega)) _ | refine Below.drew ?_ | refine below_drewN ?_ _ | refine below_alloc' ?_ _ | refine below_to' ?_ (by assumption))))) (Rd.below hry (by (repeat (first | exact Below.refl _ _ | assumption | refine Below.setCell ?_ (by first | (simp; done) | omega | (simp; omega) | (simp at *; omega)) _ | refine Below.drew ?_ | refine below_drewN ?_ _ | refine below_alloc' ?_ _ | refine below_to' ?_ (by assumption)))))).mono ?_
      rw [HM.out, HK.out]
      rintro e w3 ⟨rfl, hb3⟩
      go_wp2_with fail
      refine (AgreeI_c _ _ ys xs _ (Rd.below hry (by (repeat (first | exact Below.refl _ _ | assumption | refine Below.setCell ?_ (by first | (simp; done) | omega | (simp; omega) | (simp at *; omega)) _ | refine Below.drew ?_ | refine below_drewN ?_ _ | refine below_alloc' ?_ _ | refine below_to' ?_ (by assumption))))) (Rd.below hrx (by (repeat (first | exact Below.refl _ _ | assumption | refine Below.setCell ?_ (by first | (simp; done) | omega | (simp; omega) | (simp at *; omega)) _ | refine Below.drew ?_ | refine below_drewN ?_ _ | refine below_alloc' ?_ _ | refine below_to' ?_ (by assumption)))))).mono ?_
      rw [HM2.out, HK2.out]
      rintro e w4 ⟨rfl, hb4⟩
      go_wp2_with fail
      refine (negated_c _ ys _ (Rd.below hry (by (repeat (first | exact Below.refl _ _ | assumption | refine Below.setCell ?_ (by first | (simp; done) | omega | (simp; omega) | (simp at *; omega)) _ | refine Below.drew ?_ | refine below_drewN ?_ _ | refine below_alloc' ?_ _ | refine below_to' ?_ (by assumption))))) (by omega) HB.out).mono ?_
      rintro e w5 ⟨v5, rfl, hs5, hb5⟩
      go_wp2_with fail
      refine (AgreeI_c _ _ xs (negL ys) _ (Rd.below hrx (by (repeat (first | exact Below.refl _ _ | assumption | refine Below.setCell ?_ (by first | (simp; done) | omega | (simp; omega) | (simp at *; omega)) _ | refine Below.drew ?_ | refine below_drewN ?_ _ | refine below_alloc' ?_ _ | refine below_to' ?_ (by assumption))))) hs5.rd).mono ?_
      rw [HM3.out, HK3.out]
      rintro e w6 ⟨rfl, hb6⟩
      go_wp2_with fail
      refine (AgreeI_c _ _ xs xs _ (Rd.below hrx (by (repeat (first | exact Below.refl _ _ | assumption | refine Below.setCell ?_ (by first | (simp; done) | omega | (simp; omega) | (simp at *; omega)) _ | refine Below.drew ?_ | refine below_drewN ?_ _ | refine below_alloc' ?_ _ | refine below_to' ?_ (by assumption))))) (Rd.below hrx (by (repeat (first | exact Below.refl _ _ | assumption | refine Below.setCell ?_ (by first | (simp; done) | omega | (simp; omega) | (simp at *; omega)) _ | refine Below.drew ?_ | refine below_drewN ?_ _ | refine below_alloc' ?_ _ | refine below_to' ?_ (by assumption)))))).mono ?_
      rw [HM4.out, HK4.out]
      rintro e w7 ⟨rfl, hb7⟩
      have hrd7 : Rd w7 v xs := (Rd.below hrx (by (repeat (first | exact Below.refl _ _ | assumption | refine Below.setCell ?_ (by first | (simp; done) | omega | (simp; omega) | (simp at *; omega)) _ | refine Below.drew ?_ | refine below_drewN ?_ _ | refine below_alloc' ?_ _ | refine below_to' ?_ (by assumption)))))
      have hb17 : Below w.heap.size w w7 := by (repeat (first | exact Below.refl _ _ | assumption | refine Below.setCell ?_ (by first | (simp; done) | omega | (simp; omega) | (simp at *; omega)) _ | refine Below.drew ?_ | refine below_drewN ?_ _ | refine below_alloc' ?_ _ | refine below_to' ?_ (by assumption)))
      obtain ⟨Av, cv, rfl, hcv, hmv, _⟩ := id hrd7
      have hcA := hrd7.at
      clear hrd7
      go_wp2_with fail
      go_loopw [15, 16] (fun s i wr => ∃ k : Nat, k ≤ xs.length ∧ i = .int .i64 k ∧ s = .int .i64 (diffTo xs k) ∧ Below w7.heap.size w7 wr) (fun _ i _ => xs.length - (intOf i).toNat)
      case atStart => exact ⟨0, Nat.zero_le _, rfl, rfl, Below.refl _ _⟩
      case round =>
        obtain ⟨k, hk, rfl, rfl, hbel⟩ := hrel
        by_cases hlt : k < xs.length
        · have hS := diffTo_bd xs (n := k) (by omega)
          have HS := hide (diffTo_succ xs k)
          obtain ⟨S, hS'⟩ : ∃ S, diffTo xs k = S := ⟨_, rfl⟩
          rw [hS'] at hS HS ⊢
          clear hS'
          go_wp2_with fail
          go_loopw [15, 17] (fun s j wr2 => ∃ m : Nat, m ≤ k ∧ j = .int .i64 m ∧ s = .int .i64 (S + diffRow xs k m) ∧ Below w7.heap.size w7 wr2) (fun _ j _ => k - (intOf j).toNat)
          case atStart => exact ⟨0, Nat.zero_le _, rfl, by simp [diffRow, sumTo], hbel⟩
          case round =>
            obtain ⟨m, hml, rfl, rfl, hbel2⟩ := hrel
            by_cases hlm : m < k
            · obtain ⟨g, off, rfl, hg, hcl⟩ := hcA (by omega)
              have hc1 : wr.cell? ⟨g, off + k, none⟩ = some (.int .i64 (atL xs k)) := (hbel2.cell hg).trans (hcl k hlt)
              have hc2 : wr.cell? ⟨g, off + m, none⟩ = some (.int .i64 (atL xs m)) := (hbel2.cell hg).trans (hcl m (by omega))
              have hi1 : (k : Int) < (xs.length : Int) := by omega
              have hi2 : (m : Int) < (xs.length : Int) := by omega
              have hR := diffRow_bd xs k m
              have HR := hide (diffRow_succ xs k m)
              obtain ⟨Z, hZ⟩ : ∃ Z, diffRow xs k m = Z := ⟨_, rfl⟩
              rw [hZ] at hR HR ⊢
              clear hcA hcl hZ
              by_cases hne : atL xs k = atL xs m
              · have hb : (atL xs k != atL xs m) = false := by simp [hne]
                have HN := hide hne
                clear hne
                go_wp2_with fail
                go_quiet (fail)
                go_wp2
                go_roundw
                case rel => exact ⟨m + 1, by omega, by go_num, by rw [HR.out, if_neg (by simp [HN.out]), Int.add_zero], below_drewN hbel2 _⟩
                case measure => simp [intOf]; omega
              · have hb : (atL xs k != atL xs m) = true := by simp [hne]
                go_wp2_with fail
                go_quiet (fail)
                go_wp2
                go_roundw
                case rel => exact ⟨m + 1, by omega, by go_num, by rw [HR.out, if_pos hne]; congr 1; omega, below_drewN hbel2 _⟩
                case measure => simp [intOf]; omega
            · obtain rfl : m = k := by omega
              go_wp2_with fail
              go_roundw
              case rel => exact ⟨m + 1, by omega, by go_num, by rw [HS.out], hbel2⟩
              case measure => simp [intOf]; omega
        · obtain rfl : k = xs.length := by omega
          rw [HD.out]
          go_wp2_with fail
          go_ret
          exact ⟨ret_bool (by first | (simp; done) | (simp; omega)), hb17.trans (hbel.mono hb17.size)⟩
end Go.Proofs.Ytipmakmidadalaa
