/-
  The statement FnRankGap: for every code it returns true and writes nothing that was there.
-/
import Derived.Test.YtipmakmidadalaaAgreeLaw
import Derived.Test.YtipmakmidadalaaRanksLaw
namespace Go.Proofs.Ytipmakmidadalaa
open Go.RowKit

theorem gapTo_comm (r s : List Int) (n : Nat) : gapTo s r n = gapTo r s n := sumTo_congr fun i _ => by
  rw [show atL s i - atL r i = -(atL r i - atL s i) from by omega, Int.neg_mul_neg]
theorem gap_zero {r s : List Int} (hl : r.length = s.length) : gapTo r s r.length = 0 ↔ r = s := by
  have hsq : ∀ x : Int, 0 ≤ x * x := fun x => by rw [← Int.natAbs_mul_self (a := x)]; omega
  rw [gapTo, sumTo_eq_zero fun k _ => hsq _]
  constructor
  · intro h
    apply List.ext_getElem hl
    intro i h1 h2
    have := h i h1
    rcases Int.mul_eq_zero.1 this with h | h <;> rw [atL_lt h1, atL_lt h2] at h <;> omega
  · rintro rfl k _
    simp
/-- Twice the ranks of the negated numbers. -/
theorem rankIn_neg (v : Int) (xs : List Int) : rankIn (-v) (negL xs) + rankIn v xs = 2 * xs.length := by
  induction xs with
  | nil => simp [negL, rankIn, sumL_nil]
  | cons x xs ih =>
    have : negL (x :: xs) = -x :: negL xs := rfl
    rw [this, rankIn_cons, rankIn_cons, List.length_cons]
    have : oneRank (-v) (-x) + oneRank v x = 2 := by unfold oneRank; repeat (first | omega | split)
    simp only [Int.natCast_add, Int.mul_add]
    omega
theorem rank_neg {xs : List Int} {i : Nat} (hi : i < xs.length) : atL (rankL (negL xs)) i = 2 * (xs.length : Int) + 2 - atL (rankL xs) i := by
  rw [rankL_at (by rw [negL_len]; exact hi), rankL_at hi, at_neg]
  have := rankIn_neg (atL xs i) xs
  omega
/-- The sum of the squares of the distances from the middle rank. -/
def offTo (n : Int) (r s : List Int) (k : Nat) : Int := sumTo (fun i => (atL r i - n - 1) * (atL r i - n - 1) + (atL s i - n - 1) * (atL s i - n - 1)) k
theorem offTo_succ (n : Int) (r s : List Int) (k : Nat) : offTo n r s (k + 1) = offTo n r s k + ((atL r k - n - 1) * (atL r k - n - 1) + (atL s k - n - 1) * (atL s k - n - 1)) := rfl
theorem offTo_bd {xs ys : List Int} {n : Int} (hn : 0 ≤ n ∧ n ≤ 10) (h1 : xs.length ≤ 10) (h2 : ys.length ≤ 10) (k : Nat) : 0 ≤ offTo n (rankL xs) (rankL ys) k ∧ offTo n (rankL xs) (rankL ys) k ≤ 1000 * k := by
  have hk : ∀ i, 0 ≤ (atL (rankL xs) i - n - 1) * (atL (rankL xs) i - n - 1) + (atL (rankL ys) i - n - 1) * (atL (rankL ys) i - n - 1) ∧ (atL (rankL xs) i - n - 1) * (atL (rankL xs) i - n - 1) + (atL (rankL ys) i - n - 1) * (atL (rankL ys) i - n - 1) ≤ 1000 := fun i => by
    have a := rank_at_bd h1 i
    have b := rank_at_bd h2 i
    have := sq_bd (x := atL (rankL xs) i - n - 1) (m := 21) (by omega)
    have := sq_bd (x := atL (rankL ys) i - n - 1) (m := 21) (by omega)
    omega
  exact ⟨sumTo_zero_le fun i _ => (hk i).1, (sumTo_bd (m := 1000) fun i _ => by have := hk i; omega).2⟩
theorem sq_sum (x y n : Int) : (x - y) * (x - y) + (x - (2 * n + 2 - y)) * (x - (2 * n + 2 - y)) = 2 * ((x - n - 1) * (x - n - 1) + (y - n - 1) * (y - n - 1)) := by
  obtain ⟨a, rfl⟩ : ∃ a, x = a + n + 1 := ⟨x - n - 1, by omega⟩
  obtain ⟨b, rfl⟩ : ∃ b, y = b + n + 1 := ⟨y - n - 1, by omega⟩
  rw [show a + n + 1 - (b + n + 1) = a - b from by omega, show a + n + 1 - (2 * n + 2 - (b + n + 1)) = a + b from by omega, show a + n + 1 - n - 1 = a from by omega, show b + n + 1 - n - 1 = b from by omega]
  simp only [Int.sub_mul, Int.mul_sub, Int.add_mul, Int.mul_add, Int.mul_comm b a]
  omega
theorem gap_both {xs ys : List Int} (hl : xs.length = ys.length) : gapTo (rankL xs) (rankL ys) xs.length + gapTo (rankL xs) (rankL (negL ys)) xs.length = 2 * offTo xs.length (rankL xs) (rankL ys) xs.length := by
  rw [gapTo, gapTo, offTo, ← sumTo_add, ← sumTo_mul]
  refine sumTo_congr fun i hi => ?_
  rw [rank_neg (by omega), ← hl]
  exact sq_sum _ _ _
theorem gap_swap {xs ys : List Int} (h : okPair xs ys = true) : gapR ys xs = gapR xs ys := by
  rw [gapR_ok h, gapR_ok (okPair_swap xs ys ▸ h), (okPair_all h).2.2, gapTo_comm]

set_option maxHeartbeats 1000000 in
theorem FnRankGap_c (A : Option Addr) (n c : Nat) (bs : List Int) (w : World) (hl : bs.length = n) (hnc : n ≤ c) (hc : c ≤ 9223372036854775807) (hr : Rd8 w w.heap.size A bs) :
    Calls Try.prog 10 #[.slice A n c] w fun e w' => e = .returned (.bool true) ∧ Below w.heap.size w w' := by
  by_cases hbig : 1048576 < n
  · go_enter Try.func10, Try.ntmps10
    go_wp2
    go_ret
    exact ⟨rfl, Below.refl _ _⟩
  · go_enter Try.func10, Try.ntmps10
    go_wp2_with fail
    refine (DrawRankGap_c A n c bs _ hl hnc hc hr).mono ?_
    rintro e w1 ⟨v, xs, u, ys, rfl, hsv, hxl, hsu, hyl, hb1⟩
    have hrx := hsv.rd
    have hry := hsu.rd
    cases hok : okPair xs ys
    · have HM := hide (gapR_bad hok)
      clear hok
      go_wp2_with fail
      refine (GapI_c _ _ xs ys _ hrx hry).mono ?_
      rw [HM.out]
      rintro e w2 ⟨rfl, hb2⟩
      go_wp2_with fail
      refine (GapS_c _ _ xs ys _ (Rd.below hrx (by (repeat (first | exact Below.refl _ _ | assumption | refine Below.setCell ?_ (by first | (simp; done) | omega | (simp; omega) | (simp at *; omega)) _ | refine Below.drew ?_ | refine below_drewN ?_ _ | refine below_alloc' ?_ _ | refine below_to' ?_ (by assumption))))) (Rd.below hry (by (repeat (first | exact Below.refl _ _ | assumption | refine Below.setCell ?_ (by first | (simp; done) | omega | (simp; omega) | (simp at *; omega)) _ | refine Below.drew ?_ | refine below_drewN ?_ _ | refine below_alloc' ?_ _ | refine below_to' ?_ (by assumption)))))).mono ?_
      rw [HM.out]
      rintro e w3 ⟨rfl, hb3⟩
      go_wp2_with fail
      refine (GapS_c _ _ xs ys _ (Rd.below hrx (by (repeat (first | exact Below.refl _ _ | assumption | refine Below.setCell ?_ (by first | (simp; done) | omega | (simp; omega) | (simp at *; omega)) _ | refine Below.drew ?_ | refine below_drewN ?_ _ | refine below_alloc' ?_ _ | refine below_to' ?_ (by assumption))))) (Rd.below hry (by (repeat (first | exact Below.refl _ _ | assumption | refine Below.setCell ?_ (by first | (simp; done) | omega | (simp; omega) | (simp at *; omega)) _ | refine Below.drew ?_ | refine below_drewN ?_ _ | refine below_alloc' ?_ _ | refine below_to' ?_ (by assumption)))))).mono ?_
      rw [HM.out]
      rintro e w4 ⟨rfl, hb4⟩
      go_wp2_with fail
      go_ret
      exact ⟨rfl, by (repeat (first | exact Below.refl _ _ | assumption | refine Below.setCell ?_ (by first | (simp; done) | omega | (simp; omega) | (simp at *; omega)) _ | refine Below.drew ?_ | refine below_drewN ?_ _ | refine below_alloc' ?_ _ | refine below_to' ?_ (by assumption)))⟩
    · obtain ⟨h1, h2, h3⟩ := okPair_all hok
      have hall2 := (okData_all h2).1
      have hlen := (okData_all h1).2
      have hlen2 := (okData_all h2).2
      have hrl : (rankL xs).length = xs.length := rankL_len xs
      have hrl2 : (rankL ys).length = xs.length := by rw [rankL_len, h3]
      have HM := hide (gapR_ok hok)
      have HM2 : Hid (gapR ys xs = gapTo (rankL xs) (rankL ys) xs.length) := by show _ = _; rw [gap_swap hok, gapR_ok hok]
      have HM3 : Hid (gapR xs (negL ys) = gapTo (rankL xs) (rankL (negL ys)) xs.length) := hide (gapR_ok (okPair_neg hok))
      have HRX := hide (ranksR_ok h1)
      have HRY := hide (ranksR_ok h2)
      have hbd := gapTo_bd hlen hlen2 xs.length
      have hbd2 := gapTo_bd hlen (ys := negL ys) (by rw [negL_len]; exact hlen2) xs.length
      have hob := offTo_bd (xs := xs) (ys := ys) (n := (xs.length : Int)) (by omega) hlen hlen2 xs.length
      have hgb := gap_both h3
      have hz : (gapTo (rankL xs) (rankL ys) xs.length = 0) ↔ rankL xs = rankL ys := by have := gap_zero (r := rankL xs) (s := rankL ys) (by omega); rwa [hrl] at this
      have hbn : allB (-1000000000) 1000000000 ys = true := allB_iff.2 fun x hx => by have := allB_iff.1 hall2 x hx; omega
      have HB := hide hbn
      obtain ⟨W, hW⟩ : ∃ W, gapTo (rankL xs) (rankL ys) xs.length = W := ⟨_, rfl⟩
      obtain ⟨V, hV⟩ : ∃ V, gapTo (rankL xs) (rankL (negL ys)) xs.length = V := ⟨_, rfl⟩
      obtain ⟨Q, hQ⟩ : ∃ Q, offTo xs.length (rankL xs) (rankL ys) xs.length = Q := ⟨_, rfl⟩
      rw [hW] at HM HM2 hbd hgb hz
      rw [hV] at HM3 hbd2 hgb
      rw [hQ] at hob hgb
      have HQ := hide hQ
      have HGB := hide hgb
      have HZ : Hid (decide (rankL xs = rankL ys) = (W == 0)) := by
        show _ = _
        rw [Bool.eq_iff_iff]
        simp [← hz]
      have HL := hide (And.intro hrl hrl2)
      have H3 := hide h3
      clear hok h1 h2 h3 hall2 hbn hW hV hQ hgb hz hrl hrl2
      go_wp2_with fail
      refine (GapI_c _ _ xs ys _ hrx hry).mono ?_
      rw [HM.out]
      rintro e w2 ⟨rfl, hb2⟩
      go_wp2_with fail
      refine (GapS_c _ _ xs ys _ (Rd.below hrx (by (repeat (first | exact Below.refl _ _ | assumption | refine Below.setCell ?_ (by first | (simp; done) | omega | (simp; omega) | (simp at *; omega)) _ | refine Below.drew ?_ | refine below_drewN ?_ _ | refine below_alloc' ?_ _ | refine below_to' ?_ (by assumption))))) (Rd.below hry (by (repeat (first | exact Below.refl _ _ | assumption | refine Below.setCell ?_ (by first | (simp; done) | omega | (simp; omega) | (simp at *; omega)) _ | refine Below.drew ?_ | refine below_drewN ?_ _ | refine below_alloc' ?_ _ | refine below_to' ?_ (by assumption)))))).mono ?_
      rw [HM.out]
      rintro e w3 ⟨rfl, hb3⟩
      go_wp2_with fail
      refine (RanksI_c _ xs _ (Rd.below hrx (by (repeat (first | exact Below.refl _ _ | assumption | refine Below.setCell ?_ (by first | (simp; done) | omega | (simp; omega) | (simp at *; omega)) _ | refine Below.drew ?_ | refine below_drewN ?_ _ | refine below_alloc' ?_ _ | refine below_to' ?_ (by assumption)))))).mono ?_
      rw [HRX.out]
      rintro e w4 ⟨v4, rfl, hs4, hb4⟩
      have hr4 := hs4.rd
      go_wp2_with fail
      refine (RanksI_c _ ys _ (Rd.below hry (by (repeat (first | exact Below.refl _ _ | assumption | refine Below.setCell ?_ (by first | (simp; done) | omega | (simp; omega) | (simp at *; omega)) _ | refine Below.drew ?_ | refine below_drewN ?_ _ | refine below_alloc' ?_ _ | refine below_to' ?_ (by assumption)))))).mono ?_
      rw [HRY.out]
      rintro e w5 ⟨v5, rfl, hs5, hb5⟩
      have hr5 := hs5.rd
      have hr45 : Rd w5 v4 (rankL xs) := (Rd.below hr4 (by (repeat (first | exact Below.refl _ _ | assumption | refine Below.setCell ?_ (by first | (simp; done) | omega | (simp; omega) | (simp at *; omega)) _ | refine Below.drew ?_ | refine below_drewN ?_ _ | refine below_alloc' ?_ _ | refine below_to' ?_ (by assumption)))))
      have hx5 : Rd w5 v xs := (Rd.below hrx (by (repeat (first | exact Below.refl _ _ | assumption | refine Below.setCell ?_ (by first | (simp; done) | omega | (simp; omega) | (simp at *; omega)) _ | refine Below.drew ?_ | refine below_drewN ?_ _ | refine below_alloc' ?_ _ | refine below_to' ?_ (by assumption)))))
      have hy5 : Rd w5 u ys := (Rd.below hry (by (repeat (first | exact Below.refl _ _ | assumption | refine Below.setCell ?_ (by first | (simp; done) | omega | (simp; omega) | (simp at *; omega)) _ | refine Below.drew ?_ | refine below_drewN ?_ _ | refine below_alloc' ?_ _ | refine below_to' ?_ (by assumption)))))
      have hb15 : Below w.heap.size w w5 := by (repeat (first | exact Below.refl _ _ | assumption | refine Below.setCell ?_ (by first | (simp; done) | omega | (simp; omega) | (simp at *; omega)) _ | refine Below.drew ?_ | refine below_drewN ?_ _ | refine below_alloc' ?_ _ | refine below_to' ?_ (by assumption)))
      obtain ⟨Av, cv, rfl, hcv, hmv, _⟩ := id hx5
      obtain ⟨A4, c4, rfl, hc4, hm4, _⟩ := id hr45
      obtain ⟨A5, c5, rfl, hc5, hm5, _⟩ := id hr5
      have hcA := hr45.at
      have hcB := hr5.at
      go_wp2_with fail
      go_loopw [9, 10] (fun s i wr => ∃ k : Nat, k ≤ xs.length ∧ i = .int .i64 k ∧ s = .int .i64 (offTo xs.length (rankL xs) (rankL ys) k) ∧ Below w5.heap.size w5 wr) (fun _ i _ => xs.length - (intOf i).toNat)
      case atStart => exact ⟨0, Nat.zero_le _, rfl, rfl, Below.refl _ _⟩
      case round =>
        obtain ⟨k, hk, rfl, rfl, hbel⟩ := hrel
        by_cases hlt : k < xs.length
        · obtain ⟨g, off, rfl, hg, hcl⟩ := hcA (by have := HL.out; omega)
          obtain ⟨g2, off2, rfl, hg2, hcl2⟩ := hcB (by have := HL.out; omega)
          have hc1 : wr.cell? ⟨g, off + k, none⟩ = some (.int .i64 (atL (rankL xs) k)) := (hbel.cell hg).trans (hcl k (by have := HL.out; omega))
          have hc2 : wr.cell? ⟨g2, off2 + k, none⟩ = some (.int .i64 (atL (rankL ys) k)) := (hbel.cell hg2).trans (hcl2 k (by have := HL.out; omega))
          have hi1 : (k : Int) < ((rankL xs).length : Int) := by have := HL.out; omega
          have hi2 : (k : Int) < ((rankL ys).length : Int) := by have := HL.out; omega
          have ha := rank_at_bd hlen k
          have hb := rank_at_bd hlen2 k
          have hS := offTo_bd (xs := xs) (ys := ys) (n := (xs.length : Int)) (by omega) hlen hlen2 k
          have HS := hide (offTo_succ xs.length (rankL xs) (rankL ys) k)
          obtain ⟨X, hX⟩ : ∃ X, atL (rankL xs) k = X := ⟨_, rfl⟩
          obtain ⟨Y, hY⟩ : ∃ Y, atL (rankL ys) k = Y := ⟨_, rfl⟩
          obtain ⟨S, hS'⟩ : ∃ S, offTo xs.length (rankL xs) (rankL ys) k = S := ⟨_, rfl⟩
          rw [hX] at hc1 ha HS
          rw [hY] at hc2 hb HS
          rw [hS'] at hS HS ⊢
          have q1 := sq_bd (x := X - (xs.length : Int) - 1) (m := 21) (by omega)
          have q2 := sq_bd (x := Y - (xs.length : Int) - 1) (m := 21) (by omega)
          have e1 : IntKind.i64.wrap (X - (xs.length : Int)) = X - (xs.length : Int) := IntWalk.i64_in _ (by omega)
          have e2 : IntKind.i64.wrap (X - (xs.length : Int) - 1) = X - (xs.length : Int) - 1 := IntWalk.i64_in _ (by omega)
          have e3 : IntKind.i64.wrap ((X - (xs.length : Int) - 1) * (X - (xs.length : Int) - 1)) = (X - (xs.length : Int) - 1) * (X - (xs.length : Int) - 1) := IntWalk.i64_in _ (by omega)
          have e4 : IntKind.i64.wrap (S + (X - (xs.length : Int) - 1) * (X - (xs.length : Int) - 1)) = S + (X - (xs.length : Int) - 1) * (X - (xs.length : Int) - 1) := IntWalk.i64_in _ (by omega)
          have e5 : IntKind.i64.wrap (Y - (xs.length : Int)) = Y - (xs.length : Int) := IntWalk.i64_in _ (by omega)
          have e6 : IntKind.i64.wrap (Y - (xs.length : Int) - 1) = Y - (xs.length : Int) - 1 := IntWalk.i64_in _ (by omega)
          have e7 : IntKind.i64.wrap ((Y - (xs.length : Int) - 1) * (Y - (xs.length : Int) - 1)) = (Y - (xs.length : Int) - 1) * (Y - (xs.length : Int) - 1) := IntWalk.i64_in _ (by omega)
          have e8 : IntKind.i64.wrap (S + (X - (xs.length : Int) - 1) * (X - (xs.length : Int) - 1) + (Y - (xs.length : Int) - 1) * (Y - (xs.length : Int) - 1)) = S + (X - (xs.length : Int) - 1) * (X - (xs.length : Int) - 1) + (Y - (xs.length : Int) - 1) * (Y - (xs.length : Int) - 1) := IntWalk.i64_in _ (by omega)
          clear hcA hcB hcl hcl2 hX hY hS'
          go_wp2_with fail
          go_quiet (fail)
          go_wp2
          go_roundw
          case rel => exact ⟨k + 1, by omega, by go_num, by rw [HS.out]; congr 1; omega, below_drewN hbel _⟩
          case measure => simp [intOf]; omega
        · obtain rfl : k = xs.length := by omega
          rw [HQ.out]
          have hxr : Rd wr _ xs := hx5.below hbel
          have hyr : Rd wr u ys := hy5.below hbel
          have h4r : Rd wr _ (rankL xs) := hr45.below hbel
          have h5r : Rd wr _ (rankL ys) := hr5.below hbel
          have hb1r : Below w.heap.size w wr := hb15.trans (hbel.mono hb15.size)
          clear hcA hcB
          by_cases hw : W = 0
          all_goals
            go_wp2_with fail
            refine (GapI_c _ _ ys xs _ hyr hxr).mono ?_
            rw [HM2.out]
            rintro e w6 ⟨rfl, hb6⟩
            go_wp2_with fail
            refine (equalInts_c _ _ (rankL xs) (rankL ys) (W == 0) _ (h4r.below hb6) (h5r.below hb6) HZ.out).mono ?_
            rintro e w7 ⟨rfl, hb7⟩
            go_wp2_with fail
            refine (negated_c _ ys _ ((hyr.below hb6).below hb7) (by omega) HB.out).mono ?_
            rintro e w8 ⟨v8, rfl, hs8, hb8⟩
            go_wp2_with fail
            refine (GapI_c _ _ xs (negL ys) _ (((hxr.below hb6).below hb7).below hb8) hs8.rd).mono ?_
            rw [HM3.out]
            rintro e w9 ⟨rfl, hb9⟩
            go_wp2_with fail
            go_ret
            exact ⟨ret_bool (by have := HGB.out; simp; omega), by (repeat (first | exact Below.refl _ _ | assumption | refine Below.setCell ?_ (by first | (simp; done) | omega | (simp; omega) | (simp at *; omega)) _ | refine Below.drew ?_ | refine below_drewN ?_ _ | refine below_alloc' ?_ _ | refine below_to' ?_ (by assumption)))⟩
end Go.Proofs.Ytipmakmidadalaa
