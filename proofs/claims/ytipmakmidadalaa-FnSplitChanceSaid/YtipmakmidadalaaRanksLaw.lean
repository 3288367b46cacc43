/-
  The statement FnRanksOf: for every code it returns true and writes nothing that was there.
-/
import Derived.Test.YtipmakmidadalaaRankP
import Derived.Test.YtipmakmidadalaaHelp
import Derived.Test.YtipmakmidadalaaDraw12
namespace Go.Proofs.Ytipmakmidadalaa
open Go.RowKit

/-- What RanksOf answers. -/
def ranksR (xs : List Int) : List Int := if okData xs then rankL xs else []
theorem ranksR_ok {xs : List Int} (h : okData xs = true) : ranksR xs = rankL xs := by simp [ranksR, h]
theorem ranksR_bad {xs : List Int} (h : okData xs = false) : ranksR xs = [] := by simp [ranksR, h]

set_option maxHeartbeats 400000 in
theorem RanksI_c (v : Value) (xs : List Int) (w : World) (hr : Rd w v xs) :
    Calls Try.prog 21 #[v] w fun e w' => ∃ v', e = .returned v' ∧ Sl w' w.heap.size v' (ranksR xs) ∧ Below w.heap.size w w' := by
  have hr' := hr
  obtain ⟨A, c, rfl, hc, hm, hcell⟩ := hr
  clear hcell
  cases hok : okData xs
  · have HR := hide (ranksR_bad hok)
    go_enter Try.func21, Try.ntmps21
    go_wp2_with fail
    refine (ValidData_c _ xs false _ hr' hok).mono ?_
    rintro e w1 ⟨rfl, hb1⟩
    go_wp2_with fail
    go_ret
    exact ⟨_, rfl, by rw [HR.out]; exact Sl.nil _ _, hb1⟩
  · have HR := hide (ranksR_ok hok)
    have hl := (okData_all hok).2
    go_enter Try.func21, Try.ntmps21
    go_wp2_with fail
    refine (ValidData_c _ xs true _ hr' hok).mono ?_
    rintro e w1 ⟨rfl, hb1⟩
    go_wp2_with fail
    refine (ranksI_c _ xs _ (hr'.below hb1) (by omega)).mono ?_
    rintro e w2 ⟨v2, rfl, hs2, hb2⟩
    go_wp2_with fail
    go_ret
    exact ⟨_, rfl, by rw [HR.out]; exact hs2.low hb1.size, by (repeat (first | exact Below.refl _ _ | assumption | refine Below.setCell ?_ (by first | (simp; done) | omega | (simp; omega) | (simp at *; omega)) _ | refine Below.drew ?_ | refine below_drewN ?_ _ | refine below_alloc' ?_ _ | refine below_to' ?_ (by assumption)))⟩

set_option maxHeartbeats 400000 in
theorem RanksS_c (v : Value) (xs : List Int) (w : World) (hr : Rd w v xs) :
    Calls Try.prog 23 #[v] w fun e w' => ∃ v', e = .returned v' ∧ Sl w' w.heap.size v' (ranksR xs) ∧ Below w.heap.size w w' := by
  have hr' := hr
  obtain ⟨A, c, rfl, hc, hm, hcell⟩ := hr
  clear hcell
  cases hok : okData xs
  · have HR := hide (ranksR_bad hok)
    go_enter Try.func23, Try.ntmps23
    go_wp2_with fail
    refine (validData_c _ xs false _ hr' hok).mono ?_
    rintro e w1 ⟨rfl, rfl⟩
    go_wp2_with fail
    go_ret
    exact ⟨_, rfl, by rw [HR.out]; exact Sl.nil _ _, Below.refl _ _⟩
  · have HR := hide (ranksR_ok hok)
    have hl := (okData_all hok).2
    go_enter Try.func23, Try.ntmps23
    go_wp2_with fail
    refine (validData_c _ xs true _ hr' hok).mono ?_
    rintro e w1 ⟨rfl, rfl⟩
    go_wp2_with fail
    refine (ranksS_c _ xs _ hr' (by omega)).mono ?_
    rintro e w2 ⟨v2, rfl, hs2, hb2⟩
    go_wp2_with fail
    go_ret
    exact ⟨_, rfl, by rw [HR.out]; exact hs2, hb2⟩

set_option maxHeartbeats 400000 in
theorem total_c (v : Value) (xs : List Int) (w : World) (hr : Rd w v xs) (hn : xs.length ≤ 1000) (hb : allB (-1000000) 1000000 xs = true) :
    Calls Try.prog 24 #[v] w fun e w' => e = .returned (.int .i64 (sumL xs)) ∧ w = w' := by
  obtain ⟨A, c, rfl, hc, hm, hcell⟩ := hr
  go_enter Try.func24, Try.ntmps24
  go_wp2
  go_loop [3, 4] (fun s i => ∃ k : Nat, k ≤ xs.length ∧ i = .int .i64 k ∧ s = .int .i64 (sumL (xs.take k))) (fun _ i => xs.length - (intOf i).toNat)
  case atStart => exact ⟨0, Nat.zero_le _, rfl, rfl⟩
  case round =>
    obtain ⟨k, hk, rfl, rfl⟩ := hrel
    by_cases hlt : k < xs.length
    · obtain ⟨g, off, rfl, hg, hcl⟩ := hcell (by omega)
      have hck : w.cell? ⟨g, off + k, none⟩ = some (.int .i64 xs[k]) := by rw [hcl k hlt, getD_lt hlt]
      have h1 := allB_get hb hlt
      have h2 := sumL_bound (m := 1000000) (by omega) (allB_iff.1 hb) k
      clear hcl hcell hb
      go_wp2
      go_round
      case rel => exact ⟨k + 1, by omega, by go_num, by rw [sumL_take hlt]⟩
      case measure => simp [intOf]; omega
    · go_wp2
      go_ret
      obtain rfl : k = xs.length := by omega
      exact ⟨by simp, rfl⟩

set_option maxHeartbeats 1000000 in
theorem FnRanksOf_c (A : Option Addr) (n c : Nat) (bs : List Int) (w : World) (hl : bs.length = n) (hnc : n ≤ c) (hc : c ≤ 9223372036854775807) (hr : Rd8 w w.heap.size A bs) :
    Calls Try.prog 5 #[.slice A n c] w fun e w' => e = .returned (.bool true) ∧ Below w.heap.size w w' := by
  by_cases hbig : 1048576 < n
  · go_enter Try.func5, Try.ntmps5
    go_wp2
    go_ret
    exact ⟨rfl, Below.refl _ _⟩
  · go_enter Try.func5, Try.ntmps5
    go_wp2_with fail
    refine (DrawRanksOf_c A n c bs _ hl hnc hc hr).mono ?_
    rintro e w1 ⟨v, xs, rfl, hsl, hxl, hb1⟩
    have hrd := hsl.rd
    go_wp2_with fail
    refine (RanksI_c _ xs _ hrd).mono ?_
    rintro e w2 ⟨v2, rfl, hs2, hb2⟩
    have hrd2 := hs2.rd
    go_wp2_with fail
    refine (RanksS_c _ xs _ (Rd.below hrd (by (repeat (first | exact Below.refl _ _ | assumption | refine Below.setCell ?_ (by first | (simp; done) | omega | (simp; omega) | (simp at *; omega)) _ | refine Below.drew ?_ | refine below_drewN ?_ _ | refine below_alloc' ?_ _ | refine below_to' ?_ (by assumption)))))).mono ?_
    rintro e w3 ⟨v3, rfl, hs3, hb3⟩
    obtain ⟨A2, c2, rfl, hc2, hm2, _⟩ := id hrd2
    go_wp2_with fail
    refine (equalInts_c _ _ (ranksR xs) (ranksR xs) true _ (Rd.below hrd2 (by (repeat (first | exact Below.refl _ _ | assumption | refine Below.setCell ?_ (by first | (simp; done) | omega | (simp; omega) | (simp at *; omega)) _ | refine Below.drew ?_ | refine below_drewN ?_ _ | refine below_alloc' ?_ _ | refine below_to' ?_ (by assumption))))) hs3.rd (by simp)).mono ?_
    rintro e w4 ⟨rfl, hb4⟩
    by_cases hz : (ranksR xs).length = 0
    · have hz' : (((ranksR xs).length : Int) == 0) = true := beq_iff_eq.2 (by omega)
      have HZ := hide hz
      clear hz
      go_wp2_with fail
      refine (RanksS_c _ xs _ (Rd.below hrd (by (repeat (first | exact Below.refl _ _ | assumption | refine Below.setCell ?_ (by first | (simp; done) | omega | (simp; omega) | (simp at *; omega)) _ | refine Below.drew ?_ | refine below_drewN ?_ _ | refine below_alloc' ?_ _ | refine below_to' ?_ (by assumption)))))).mono ?_
      rintro e w5 ⟨v5, rfl, hs5, hb5⟩
      go_wp2_with fail
      refine (equalInts_c _ _ (ranksR xs) (ranksR xs) true _ (Rd.below hrd2 (by (repeat (first | exact Below.refl _ _ | assumption | refine Below.setCell ?_ (by first | (simp; done) | omega | (simp; omega) | (simp at *; omega)) _ | refine Below.drew ?_ | refine below_drewN ?_ _ | refine below_alloc' ?_ _ | refine below_to' ?_ (by assumption))))) hs5.rd (by simp)).mono ?_
      rintro e w6 ⟨rfl, hb6⟩
      go_wp2_with fail
      go_ret
      exact ⟨rfl, by (repeat (first | exact Below.refl _ _ | assumption | refine Below.setCell ?_ (by first | (simp; done) | omega | (simp; omega) | (simp at *; omega)) _ | refine Below.drew ?_ | refine below_drewN ?_ _ | refine below_alloc' ?_ _ | refine below_to' ?_ (by assumption)))⟩
    · have hz' : (((ranksR xs).length : Int) == 0) = false := beq_eq_false_iff_ne.2 (by omega)
      have hok : okData xs = true := by
        cases hk : okData xs
        · rw [ranksR_bad hk] at hz; simp at hz
        · rfl
      have HR := hide (ranksR_ok hok)
      have hlen := (okData_all hok).2
      have hrl := rankL_len xs
      have hrdA : Rd w4 v xs := (Rd.below hrd (by (repeat (first | exact Below.refl _ _ | assumption | refine Below.setCell ?_ (by first | (simp; done) | omega | (simp; omega) | (simp at *; omega)) _ | refine Below.drew ?_ | refine below_drewN ?_ _ | refine below_alloc' ?_ _ | refine below_to' ?_ (by assumption)))))
      have hrdB : Rd w4 (.slice A2 (ranksR xs).length c2) (ranksR xs) := (Rd.below hrd2 (by (repeat (first | exact Below.refl _ _ | assumption | refine Below.setCell ?_ (by first | (simp; done) | omega | (simp; omega) | (simp at *; omega)) _ | refine Below.drew ?_ | refine below_drewN ?_ _ | refine below_alloc' ?_ _ | refine below_to' ?_ (by assumption)))))
      have hb14 : Below w.heap.size w w4 := by (repeat (first | exact Below.refl _ _ | assumption | refine Below.setCell ?_ (by first | (simp; done) | omega | (simp; omega) | (simp at *; omega)) _ | refine Below.drew ?_ | refine below_drewN ?_ _ | refine below_alloc' ?_ _ | refine below_to' ?_ (by assumption)))
      rw [HR.out] at hrdB hc2 hz hz' ⊢
      have HRL := hide hrl
      have HOK := hide hok
      have hrle : (rankL xs).length ≤ 10 := by omega
      have hxp : 0 < xs.length := by omega
      clear hrl hok hz
      obtain ⟨Av, cv, rfl, hcv, hmv, _⟩ := id hrdA
      obtain ⟨g, off, rfl, hg, hcl⟩ := hrdA.at hxp
      obtain ⟨g2, off2, rfl, hg2, hcl2⟩ := hrdB.at (by have := HRL.out; omega)
      have HCL := hide hcl
      have HCL2 := hide hcl2
      clear hcl hcl2
      go_wp2_with fail
      go_loopw [5] (fun i wr => ∃ k : Nat, k ≤ xs.length ∧ i = .int .i64 k ∧ Below w4.heap.size w4 wr) (fun i _ => xs.length - (intOf i).toNat)
      case atStart => exact ⟨0, Nat.zero_le _, rfl, Below.refl _ _⟩
      case round =>
        obtain ⟨k, hk, rfl, hbel⟩ := hrel
        by_cases hlt : k < xs.length
        · go_wp2_with fail
          go_loopw [6] (fun j wr2 => ∃ m : Nat, m ≤ xs.length ∧ j = .int .i64 m ∧ Below w4.heap.size w4 wr2) (fun j _ => xs.length - (intOf j).toNat)
          case atStart => exact ⟨0, Nat.zero_le _, rfl, hbel⟩
          case round =>
            obtain ⟨m, hm, rfl, hbel2⟩ := hrel
            by_cases hlm : m < xs.length
            · have hc1 : wr.cell? ⟨g, off + k, none⟩ = some (.int .i64 (atL xs k)) := (hbel2.cell hg).trans (HCL.out k hlt)
              have hc2 : wr.cell? ⟨g, off + m, none⟩ = some (.int .i64 (atL xs m)) := (hbel2.cell hg).trans (HCL.out m hlm)
              have hc3 : wr.cell? ⟨g2, off2 + k, none⟩ = some (.int .i64 (atL (rankL xs) k)) := (hbel2.cell hg2).trans (HCL2.out k (by have := HRL.out; omega))
              have hc4 : wr.cell? ⟨g2, off2 + m, none⟩ = some (.int .i64 (atL (rankL xs) m)) := (hbel2.cell hg2).trans (HCL2.out m (by have := HRL.out; omega))
              have hi1 : (k : Int) < (xs.length : Int) := by omega
              have hi2 : (m : Int) < (xs.length : Int) := by omega
              have hi3 : (k : Int) < ((rankL xs).length : Int) := by have := HRL.out; omega
              have hi4 : (m : Int) < ((rankL xs).length : Int) := by have := HRL.out; omega
              by_cases hv : atL xs k < atL xs m
              · have hv2 := (rankL_lt hlt hlm).2 hv
                go_wp2_with fail
                go_quiet (fail)
                go_wp2
                go_roundw
                case rel => exact ⟨m + 1, by omega, by go_num, below_drewN hbel2 _⟩
                case measure => simp [intOf]; omega
              · have hv2 : decide (atL (rankL xs) k < atL (rankL xs) m) = false := decide_eq_false fun h => hv ((rankL_lt hlt hlm).1 h)
                have hv1 : decide (atL xs k < atL xs m) = false := decide_eq_false hv
                clear hv
                go_wp2_with fail
                go_quiet (fail)
                go_wp2
                go_roundw
                case rel => exact ⟨m + 1, by omega, by go_num, below_drewN hbel2 _⟩
                case measure => simp [intOf]; omega
            · obtain rfl : m = xs.length := by omega
              go_wp2
              go_roundw
              case rel => exact ⟨k + 1, by omega, by go_num, hbel2⟩
              case measure => simp [intOf]; omega
        · obtain rfl : k = xs.length := by omega
          have hB : Rd wr (.slice (some ⟨g2, off2, none⟩) (rankL xs).length c2) (rankL xs) := (Rd.below hrdB (by (repeat (first | exact Below.refl _ _ | assumption | refine Below.setCell ?_ (by first | (simp; done) | omega | (simp; omega) | (simp at *; omega)) _ | refine Below.drew ?_ | refine below_drewN ?_ _ | refine below_alloc' ?_ _ | refine below_to' ?_ (by assumption)))))
          have hbd : allB (-1000000) 1000000 (rankL xs) = true := allB_iff.2 fun x hx => by have := rankL_bd hx; omega
          have HS := hide (sum_rankL xs)
          have HBD := hide hbd
          have hmb := mul_pos_bd (a := (xs.length : Int)) (b := (xs.length : Int) + 1) (m := 10) (n := 11) (by omega) (by omega)
          clear hbd
          go_wp2_with fail
          refine (total_c _ (rankL xs) _ hB (by omega) HBD.out).mono ?_
          rintro e w5 ⟨rfl, rfl⟩
          rw [HS.out]
          go_wp2_with fail
          go_ret
          exact ⟨ret_bool (by simp), by (repeat (first | exact Below.refl _ _ | assumption | refine Below.setCell ?_ (by first | (simp; done) | omega | (simp; omega) | (simp at *; omega)) _ | refine Below.drew ?_ | refine below_drewN ?_ _ | refine below_alloc' ?_ _ | refine below_to' ?_ (by assumption)))⟩
end Go.Proofs.Ytipmakmidadalaa
