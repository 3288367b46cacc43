
/-
  Contracts: places of points, in the program and in its reference; the least and the greatest number of a list.
-/
import Derived.Test.YtgageljahebjnaaIn
import Derived.Test.YtgageljahebjnaaSum
namespace Go.Proofs.Ytgageljahebjnaa
open Go.RowKit

theorem mul_abs_bd {a x m n : Int} (ha : -m ≤ a ∧ a ≤ m) (hx : -n ≤ x ∧ x ≤ n) (hm : 0 ≤ m) (hn : 0 ≤ n) : -(m * n) ≤ a * x ∧ a * x ≤ m * n := by
  have h1 : 0 ≤ (m - a) * (n + x) := Int.mul_nonneg (by omega) (by omega)
  have h2 : 0 ≤ (m + a) * (n - x) := Int.mul_nonneg (by omega) (by omega)
  have h3 : 0 ≤ (m - a) * (n - x) := Int.mul_nonneg (by omega) (by omega)
  have h4 : 0 ≤ (m + a) * (n + x) := Int.mul_nonneg (by omega) (by omega)
  have e1 : (m - a) * (n + x) = m * n + m * x - a * n - a * x := by grind
  have e2 : (m + a) * (n - x) = m * n - m * x + a * n - a * x := by grind
  have e3 : (m - a) * (n - x) = m * n - m * x - a * n + a * x := by grind
  have e4 : (m + a) * (n + x) = m * n + m * x + a * n + a * x := by grind
  omega
def okPts (xs ys : List Int) : Bool := decide (xs.length = ys.length) && decide (xs.length ≤ 7) && allB (-12) 12 xs && allB (-12) 12 ys
theorem at_all {lo hi : Int} {xs : List Int} (h : allB lo hi xs = true) (h0 : lo ≤ 0 ∧ 0 ≤ hi) (k : Nat) : lo ≤ atL xs k ∧ atL xs k ≤ hi := by
  by_cases c : k < xs.length
  · exact allB_iff.1 h _ (atL_mem c)
  · have : atL xs k = 0 := by simp [atL, List.getD, List.getElem?_eq_none (Nat.le_of_not_lt c)]
    omega
def okPv (xs ys : List Int) : Bool := decide (xs.length = ys.length) && (decide (1 ≤ (xs.length : Int)) && decide ((xs.length : Int) ≤ 7)) && allB (-12) 12 xs && allB (-12) 12 ys
set_option maxHeartbeats 1000000 in
theorem placesValid_c (u v : Value) (xs ys : List Int) (r : Bool) (w : World) (hx : Rd w u xs) (hy : Rd w v ys) (hr : okPv xs ys = r) :
    Calls Try.prog 54 #[u, v, .int .i64 7] w fun e w' => e = .returned (.bool r) ∧ Below w.heap.size w w' := by
  have hx' := hx
  have hy' := hy
  obtain ⟨A, c, rfl, hc, hm, hcell⟩ := hx
  obtain ⟨A2, c2, rfl, hc2, hm2, hcell2⟩ := hy
  clear hcell hcell2
  by_cases hl : (xs.length : Int) = (ys.length : Int)
  · have hlb : ((xs.length : Int) == (ys.length : Int)) = true := beq_iff_eq.2 hl
    have hl' : xs.length = ys.length := by omega
    cases hin : (decide (1 ≤ (xs.length : Int)) && decide ((xs.length : Int) ≤ 7))
    · obtain rfl : r = false := by rw [← hr, okPv, hin]; simp
      clear hr hl hl'
      go_enter Try.func54, Try.ntmps54
      go_wp2_with fail
      refine (in_c false _ _ _ _ hin).mono ?_
      rintro e w1 ⟨rfl, rfl⟩
      go_wp2_with fail
      go_ret
      exact ⟨rfl, Below.refl _ _⟩
    cases hax : allB (-12) 12 xs
    · obtain rfl : r = false := by rw [← hr, okPv, hax]; simp
      clear hr hl hl'
      go_enter Try.func54, Try.ntmps54
      go_wp2_with fail
      refine (in_c true _ _ _ _ hin).mono ?_
      rintro e w1 ⟨rfl, rfl⟩
      go_wp2_with fail
      refine (allIn_c _ xs (-12) 12 false _ hx' hax).mono ?_
      rintro e w2 ⟨rfl, hb2⟩
      go_wp2_with fail
      go_ret
      exact ⟨rfl, hb2⟩
    · have hay : allB (-12) 12 ys = r := by rw [← hr, okPv, hin, hax]; simp [hl']
      clear hr hl hl'
      go_enter Try.func54, Try.ntmps54
      go_wp2_with fail
      refine (in_c true _ _ _ _ hin).mono ?_
      rintro e w1 ⟨rfl, rfl⟩
      go_wp2_with fail
      refine (allIn_c _ xs (-12) 12 true _ hx' hax).mono ?_
      rintro e w2 ⟨rfl, hb2⟩
      go_wp2_with fail
      refine (allIn_c _ ys (-12) 12 r _ (hy'.below hb2) hay).mono ?_
      rintro e w3 ⟨rfl, hb3⟩
      go_wp2_with fail
      go_ret
      exact ⟨rfl, by (repeat (first | exact Below.refl _ _ | assumption | refine Below.setCell ?_ (by first | (simp; done) | omega | (simp; omega) | (simp at *; omega)) _ | refine Below.drew ?_ | refine below_drewN ?_ _ | refine below_alloc' ?_ _ | refine below_to' ?_ (by assumption)))⟩
  · have hlb : ((xs.length : Int) == (ys.length : Int)) = false := beq_eq_false_iff_ne.2 hl
    obtain rfl : r = false := by rw [← hr, okPv]; simp; intro h; omega
    clear hr hl
    go_enter Try.func54, Try.ntmps54
    go_wp2_with fail
    go_ret
    exact ⟨rfl, Below.refl _ _⟩

theorem allB_of_at {lo hi : Int} {xs : List Int} (h : ∀ i, i < xs.length → lo ≤ atL xs i ∧ atL xs i ≤ hi) : allB lo hi xs = true := allB_iff.2 fun x hx => by
  obtain ⟨i, hi, rfl⟩ := List.getElem_of_mem hx
  have := h i hi
  rwa [atL_lt hi] at this
theorem allB_bad {lo hi : Int} {xs : List Int} {k : Nat} (hk : k < xs.length) (h : (decide (lo ≤ atL xs k) && decide (atL xs k ≤ hi)) = false) : allB lo hi xs = false := by
  apply allB_no hk
  rw [atL_lt hk] at h
  simp at h
  omega

set_option maxHeartbeats 1000000 in
theorem validPoints_c (u v : Value) (xs ys : List Int) (r : Bool) (w : World) (hx : Rd w u xs) (hy : Rd w v ys) (hr : okPts xs ys = r) :
    Calls Try.prog 21 #[u, v] w fun e w' => e = .returned (.bool r) ∧ w = w' := by
  have hat1 := hx
  have hat2 := hy
  obtain ⟨A, c, rfl, hc, hm, hd1⟩ := hx
  obtain ⟨A2, c2, rfl, hc2, hm2, hd2⟩ := hy
  have hA1 := hat1.at
  have hA2 := hat2.at
  clear hd1 hd2 hat1 hat2
  have HR := hide hr
  clear hr
  go_enter Try.func21, Try.ntmps21
  go_wp2_with fail
  go_loop [5] (fun i => ∃ k : Nat, k ≤ xs.length ∧ k ≤ ys.length ∧ i = .int .i64 k ∧ Hid (∀ i, i < k → (-12 ≤ atL xs i ∧ atL xs i ≤ 12) ∧ -12 ≤ atL ys i ∧ atL ys i ≤ 12)) (fun i => xs.length - (intOf i).toNat)
  case atStart => exact ⟨0, Nat.zero_le _, Nat.zero_le _, rfl, fun i hi => by omega⟩
  case round =>
    obtain ⟨k, hk, hk2, rfl, hall⟩ := hrel
    by_cases hlt : k < xs.length
    · by_cases hlt2 : k < ys.length
      · obtain ⟨g, off, rfl, hg, hcl⟩ := hA1 (by omega)
        obtain ⟨g2, off2, rfl, hg2, hcl2⟩ := hA2 (by omega)
        have hc1 := hcl k hlt
        have hc2' := hcl2 k hlt2
        cases h1 : (decide (-12 ≤ atL xs k) && decide (atL xs k ≤ 12))
        · have HF : Hid (r = false) := by show _ = _; rw [← HR.out, okPts, allB_bad hlt h1]; simp
          have H1 := hide h1
          obtain ⟨x, hxe⟩ : ∃ x, atL xs k = x := ⟨_, rfl⟩
          rw [hxe] at hc1 H1
          clear hcl hcl2 hA1 hA2 hxe h1
          go_wp2_with fail
          refine (inRange_c false _ _ _ _ H1.out).mono ?_
          rintro e w1 ⟨rfl, rfl⟩
          go_wp2_with fail
          go_ret
          exact ⟨ret_bool HF.out.symm, rfl⟩
        · cases h2 : (decide (-12 ≤ atL ys k) && decide (atL ys k ≤ 12))
          · have HF : Hid (r = false) := by show _ = _; rw [← HR.out, okPts, allB_bad hlt2 h2]; simp
            have H1 := hide h1
            have H2 := hide h2
            obtain ⟨x, hxe⟩ : ∃ x, atL xs k = x := ⟨_, rfl⟩
            obtain ⟨y, hye⟩ : ∃ x, atL ys k = x := ⟨_, rfl⟩
            rw [hxe] at hc1 H1
            rw [hye] at hc2' H2
            clear hcl hcl2 hA1 hA2 hxe hye h1 h2
            go_wp2_with fail
            refine (inRange_c true _ _ _ _ H1.out).mono ?_
            rintro e w1 ⟨rfl, rfl⟩
            go_wp2_with fail
            refine (inRange_c false _ _ _ _ H2.out).mono ?_
            rintro e w1 ⟨rfl, rfl⟩
            go_wp2_with fail
            go_ret
            exact ⟨ret_bool HF.out.symm, rfl⟩
          · have HN : Hid (∀ i, i < k + 1 → (-12 ≤ atL xs i ∧ atL xs i ≤ 12) ∧ -12 ≤ atL ys i ∧ atL ys i ≤ 12) := fun i hi => by
              by_cases e : i = k
              · subst e; simp at h1 h2; omega
              · exact hall.out i (by omega)
            have H1 := hide h1
            have H2 := hide h2
            obtain ⟨x, hxe⟩ : ∃ x, atL xs k = x := ⟨_, rfl⟩
            obtain ⟨y, hye⟩ : ∃ x, atL ys k = x := ⟨_, rfl⟩
            rw [hxe] at hc1 H1
            rw [hye] at hc2' H2
            clear hcl hcl2 hA1 hA2 hxe hye h1 h2
            go_wp2_with fail
            refine (inRange_c true _ _ _ _ H1.out).mono ?_
            rintro e w1 ⟨rfl, rfl⟩
            go_wp2_with fail
            refine (inRange_c true _ _ _ _ H2.out).mono ?_
            rintro e w1 ⟨rfl, rfl⟩
            go_wp2_with fail
            go_round
            case rel => exact ⟨k + 1, by omega, by omega, by go_num, HN⟩
            case measure => simp [intOf]; omega
      · have HF : Hid (r = false) := by show _ = _; rw [← HR.out, okPts, decide_eq_false (by omega)]; rfl
        have hd : (ys.length : Int) ≤ (k : Int) := by omega
        clear hA1 hA2
        go_wp2_with fail
        go_ret
        exact ⟨ret_bool HF.out.symm, rfl⟩
    · have hke : k = xs.length := by omega
      by_cases hl : (xs.length : Int) = (ys.length : Int)
      · have hlb : ((xs.length : Int) == (ys.length : Int)) = true := beq_iff_eq.2 hl
        have HF : Hid (r = decide ((xs.length : Int) ≤ 7)) := by
          show _ = _
          rw [← HR.out, okPts, allB_of_at fun i hi => (hall.out i (by omega)).1, allB_of_at (xs := ys) fun i hi => (hall.out i (by omega)).2]
          rw [Bool.eq_iff_iff]
          simp
          omega
        have hd : ¬ (k : Int) < (xs.length : Int) := by omega
        clear hA1 hA2 hl hke
        go_wp2_with fail
        go_ret
        exact ⟨ret_bool HF.out.symm, rfl⟩
      · have hlb : ((xs.length : Int) == (ys.length : Int)) = false := beq_eq_false_iff_ne.2 hl
        have HF : Hid (r = false) := by show _ = _; rw [← HR.out, okPts, decide_eq_false (by omega)]; rfl
        have hd : ¬ (k : Int) < (xs.length : Int) := by omega
        clear hA1 hA2 hl hke
        go_wp2_with fail
        go_ret
        exact ⟨ret_bool HF.out.symm, rfl⟩

end Go.Proofs.Ytgageljahebjnaa
