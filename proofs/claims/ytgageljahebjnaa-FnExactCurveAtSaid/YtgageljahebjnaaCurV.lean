
/-
  Contracts: the tests on the points of a curve.
-/
import Derived.Test.YtgageljahebjnaaPlace
namespace Go.Proofs.Ytgageljahebjnaa
open Go.RowKit

def okP5 (xs ys : List Int) : Bool := decide (xs.length = ys.length) && (decide (1 ≤ (xs.length : Int)) && decide ((xs.length : Int) ≤ 5)) && allB (-12) 12 xs && allB (-12) 12 ys
set_option maxHeartbeats 1000000 in
theorem placesFive_c (u v : Value) (xs ys : List Int) (r : Bool) (w : World) (hx : Rd w u xs) (hy : Rd w v ys) (hr : okP5 xs ys = r) :
    Calls Try.prog 54 #[u, v, .int .i64 5] w fun e w' => e = .returned (.bool r) ∧ Below w.heap.size w w' := by
  have hx' := hx
  have hy' := hy
  obtain ⟨A, c, rfl, hc, hm, hcell⟩ := hx
  obtain ⟨A2, c2, rfl, hc2, hm2, hcell2⟩ := hy
  clear hcell hcell2
  by_cases hl : (xs.length : Int) = (ys.length : Int)
  · have hlb : ((xs.length : Int) == (ys.length : Int)) = true := beq_iff_eq.2 hl
    have hl' : xs.length = ys.length := by omega
    cases hin : (decide (1 ≤ (xs.length : Int)) && decide ((xs.length : Int) ≤ 5))
    · obtain rfl : r = false := by rw [← hr, okP5, hin]; simp
      clear hr hl hl'
      go_enter Try.func54, Try.ntmps54
      go_wp2_with fail
      refine (in_c false _ _ _ _ hin).mono ?_
      rintro e w1 ⟨rfl, rfl⟩
      go_wp2_with fail
      go_ret
      exact ⟨rfl, Below.refl _ _⟩
    cases hax : allB (-12) 12 xs
    · obtain rfl : r = false := by rw [← hr, okP5, hax]; simp
      clear hr hl hl'
      go_enter Try.func54, Try.ntmps54
      go_wp2_with fail
      refine (in_c true _ _ _ _ hin).mono ?_
      rintro e w1 ⟨rfl, rfl⟩
      go_wp2_with fail
      refine (allIn_c _ xs (-12) 12 false _ hx' hax).mono ?_
      rintro e w2 ⟨rfl, hb2⟩
      go_wp2_with fail
      go_ret
      exact ⟨rfl, hb2⟩
    · have hay : allB (-12) 12 ys = r := by rw [← hr, okP5, hin, hax]; simp [hl']
      clear hr hl hl'
      go_enter Try.func54, Try.ntmps54
      go_wp2_with fail
      refine (in_c true _ _ _ _ hin).mono ?_
      rintro e w1 ⟨rfl, rfl⟩
      go_wp2_with fail
      refine (allIn_c _ xs (-12) 12 true _ hx' hax).mono ?_
      rintro e w2 ⟨rfl, hb2⟩
      go_wp2_with fail
      refine (allIn_c _ ys (-12) 12 r _ (hy'.below hb2) hay).mono ?_
      rintro e w3 ⟨rfl, hb3⟩
      go_wp2_with fail
      go_ret
      exact ⟨rfl, by (repeat (first | exact Below.refl _ _ | assumption | refine Below.setCell ?_ (by first | (simp; done) | omega | (simp; omega) | (simp at *; omega)) _ | refine Below.drew ?_ | refine below_drewN ?_ _ | refine below_alloc' ?_ _ | refine below_to' ?_ (by assumption)))⟩
  · have hlb : ((xs.length : Int) == (ys.length : Int)) = false := beq_eq_false_iff_ne.2 hl
    obtain rfl : r = false := by rw [← hr, okP5]; simp; intro h; omega
    clear hr hl
    go_enter Try.func54, Try.ntmps54
    go_wp2_with fail
    go_ret
    exact ⟨rfl, Below.refl _ _⟩

/-- No number comes twice among the first n. -/
def Dif (x : Nat → Int) (n : Nat) : Prop := ∀ i j, i < j → j < n → x j ≠ x i
set_option maxHeartbeats 1000000 in
theorem different_c (v : Value) (xs : List Int) (r : Bool) (w : World) (hx : Rd w v xs) (hr : r = true ↔ Dif (atL xs) xs.length) :
    Calls Try.prog 23 #[v] w fun e w' => e = .returned (.bool r) ∧ Below w.heap.size w w' := by
  obtain ⟨A, c, rfl, hc, hm, _⟩ := id hx
  have hat := hx.at
  have HR := hide hr
  clear hr hx
  go_enter Try.func23, Try.ntmps23
  go_wp2_with fail
  go_loopw [3] (fun i wr => ∃ k : Nat, k ≤ xs.length ∧ i = .int .i64 k ∧ Hid (Dif (atL xs) k) ∧ Below w.heap.size w wr) (fun i _ => xs.length - (intOf i).toNat)
  case atStart => exact ⟨0, by omega, rfl, (fun i j h1 h2 => by omega), Below.refl _ _⟩
  case round =>
    obtain ⟨k, hk, rfl, hall, hbel⟩ := hrel
    by_cases hlt : k < xs.length
    · obtain ⟨g, off, rfl, hg, hcl⟩ := hat (by omega)
      have HCL := hide fun (wz : World) (hb : Below w.heap.size w wz) j hj => (hb.cell (p := ⟨g, off + j, none⟩) hg).trans (hcl j hj)
      have hi1 : (k : Int) < (xs.length : Int) := by omega
      clear hcl hat
      go_wp2_with fail
      go_loopw [4] (fun i wr => ∃ j : Nat, j ≤ k ∧ i = .int .i64 j ∧ Hid (∀ a, a < j → atL xs k ≠ atL xs a) ∧ Below w.heap.size w wr) (fun i _ => k - (intOf i).toNat)
      case atStart => exact ⟨0, by omega, rfl, (fun a h => by omega), hbel⟩
      case round =>
        rename World => wq
        clear hbel
        obtain ⟨j, hj, rfl, hne, hbel⟩ := hrel
        by_cases hjl : j < k
        · have c1 := HCL.out wq hbel k hlt
          have c2 := HCL.out wq hbel j (by omega)
          have i2 : (j : Int) < (xs.length : Int) := by omega
          have i3 : (j : Int) < (k : Int) := by omega
          by_cases he : atL xs k = atL xs j
          · have HF : Hid (r = false) := by
              show _ = _
              cases hr : r
              · rfl
              · exact absurd he (HR.out.1 hr j k hjl hlt)
            have heq : (atL xs k == atL xs j) = true := by simp [he]
            obtain ⟨x, hxe⟩ : ∃ x, atL xs k = x := ⟨_, rfl⟩
            obtain ⟨y, hye⟩ : ∃ x, atL xs j = x := ⟨_, rfl⟩
            rw [hxe] at c1 heq
            rw [hye] at c2 heq
            clear he hxe hye
            go_wp2_with fail
            go_quiet (fail)
            go_wp2
            go_ret
            exact ⟨ret_bool HF.out.symm, below_drewN hbel _⟩
          · have HN : Hid (∀ a, a < j + 1 → atL xs k ≠ atL xs a) := fun a ha => by
              by_cases e : a = j
              · subst e; exact he
              · exact hne.out a (by omega)
            have heq : (atL xs k == atL xs j) = false := by simp [he]
            obtain ⟨x, hxe⟩ : ∃ x, atL xs k = x := ⟨_, rfl⟩
            obtain ⟨y, hye⟩ : ∃ x, atL xs j = x := ⟨_, rfl⟩
            rw [hxe] at c1 heq
            rw [hye] at c2 heq
            clear he hxe hye
            go_wp2_with fail
            go_quiet (fail)
            go_wp2
            go_roundw
            case rel => exact ⟨j + 1, by omega, by go_num, HN, below_drewN hbel _⟩
            case measure => simp [intOf]; omega
        · obtain rfl : j = k := by omega
          have HN : Hid (Dif (atL xs) (j + 1)) := fun a b h1 h2 => by
            by_cases e : b = j
            · subst e; exact hne.out a h1
            · exact hall.out a b h1 (by omega)
          have hni : ¬ (j : Int) < (j : Int) := by omega
          go_wp2_with fail
          go_roundw
          case rel => exact ⟨j + 1, by omega, by go_num, HN, hbel⟩
          case measure => simp [intOf]; omega
    · have HF : Hid (r = true) := HR.out.2 (fun i j h1 h2 => hall.out i j h1 (by omega))
      have hd : ¬ (k : Int) < (xs.length : Int) := by omega
      clear hat
      go_wp2_with fail
      go_ret
      exact ⟨ret_bool HF.out.symm, hbel⟩
set_option maxHeartbeats 1000000 in
theorem indexI_c (v : Value) (xs : List Int) (a : Int) (w : World) (hx : Rd w v xs) :
    Calls Try.prog 73 #[v, .int .i64 a] w fun e w' => ∃ z : Int, e = .returned (.int .i64 z) ∧ w = w' ∧ ((0 ≤ z) ↔ ∃ k, k < xs.length ∧ atL xs k = a) := by
  obtain ⟨A, c, rfl, hc, hm, _⟩ := id hx
  have hat := hx.at
  clear hx
  go_enter Try.func73, Try.ntmps73
  go_wp2_with fail
  go_loop [8] (fun i => ∃ k : Nat, k ≤ xs.length ∧ i = .int .i64 k ∧ Hid (∀ j, j < k → atL xs j ≠ a)) (fun i => xs.length - (intOf i).toNat)
  case atStart => exact ⟨0, by omega, rfl, fun j h => by omega⟩
  case round =>
    obtain ⟨k, hk, rfl, hne⟩ := hrel
    by_cases hlt : k < xs.length
    · obtain ⟨g, off, rfl, hg, hcl⟩ := hat (by omega)
      have c1 := hcl k hlt
      have i1 : (k : Int) < (xs.length : Int) := by omega
      by_cases he : atL xs k = a
      · have HE : Hid (∃ k, k < xs.length ∧ atL xs k = a) := ⟨k, hlt, he⟩
        obtain ⟨x, hxe⟩ : ∃ x, atL xs k = x := ⟨_, rfl⟩
        rw [hxe] at c1
        have heq : (a == x) = true := by rw [← hxe, he]; simp
        clear he hxe hcl hat
        go_wp2_with fail
        go_ret
        exact ⟨(k : Int), rfl, rfl, ⟨fun _ => HE.out, fun _ => by omega⟩⟩
      · have HN : Hid (∀ j, j < k + 1 → atL xs j ≠ a) := fun j hj => by
          by_cases e : j = k
          · subst e; exact he
          · exact hne.out j (by omega)
        obtain ⟨x, hxe⟩ : ∃ x, atL xs k = x := ⟨_, rfl⟩
        rw [hxe] at c1 he
        have heq : (a == x) = false := by simp; exact fun e => he e.symm
        clear he hxe hcl hat
        go_wp2_with fail
        go_round
        case rel => exact ⟨k + 1, by omega, by go_num, HN⟩
        case measure => simp [intOf]; omega
    · have HF : Hid (¬ ∃ k, k < xs.length ∧ atL xs k = a) := fun ⟨j, h1, h2⟩ => hne.out j (by omega) h2
      have hd : ¬ (k : Int) < (xs.length : Int) := by omega
      clear hat
      go_wp2_with fail
      go_ret
      exact ⟨-1, rfl, rfl, ⟨fun h => by omega, fun h => absurd h HF.out⟩⟩
theorem containsI_c (v : Value) (xs : List Int) (a : Int) (r : Bool) (w : World) (hx : Rd w v xs) (hr : r = true ↔ ∃ k, k < xs.length ∧ atL xs k = a) :
    Calls Try.prog 55 #[v, .int .i64 a] w fun e w' => e = .returned (.bool r) ∧ w = w' := by
  have HR := hide hr
  clear hr
  obtain ⟨A, c, rfl, hc, hm, _⟩ := id hx
  have HX := hide hx
  clear hx
  go_enter Try.func55, Try.ntmps55
  go_wp2_with fail
  refine (indexI_c _ xs a _ HX.out).mono ?_
  rintro e w1 ⟨z, rfl, rfl, hz⟩
  have HF : Hid (decide (0 ≤ z) = r) := by
    show _ = _
    cases hr : r
    · exact decide_eq_false fun h => by have := HR.out.2 (hz.1 h); rw [hr] at this; cases this
    · exact decide_eq_true (hz.2 (HR.out.1 hr))
  clear hz
  go_wp2_with fail
  go_ret
  exact ⟨ret_bool HF.out, rfl⟩
end Go.Proofs.Ytgageljahebjnaa
