/-
  Contract: PartingLine of the reference.
-/
import Derived.Test.YtcmjmnlccempfaaPartJ
namespace Go.Proofs.Ytcmjmnlccempfaa
open Go.RowKit

theorem allB_of_at {lo hi : Int} {xs : List Int} (h : ∀ i, i < xs.length → lo ≤ atL xs i ∧ atL xs i ≤ hi) : allB lo hi xs = true := allB_iff.2 fun x hx => by
  obtain ⟨i, hi, rfl⟩ := List.getElem_of_mem hx
  have := h i hi
  rwa [atL_lt hi] at this
theorem allB_bad {lo hi : Int} {xs : List Int} {k : Nat} (hk : k < xs.length) (h : (decide (lo ≤ atL xs k) && decide (atL xs k ≤ hi)) = false) : allB lo hi xs = false := by
  apply allB_no hk
  rw [atL_lt hk] at h
  simp at h
  omega

set_option maxHeartbeats 1000000 in
theorem validPoints_c (u v : Value) (xs ys : List Int) (r : Bool) (w : World) (hx : Rd w u xs) (hy : Rd w v ys) (hr : okPts xs ys = r) :
    Calls Try.prog 44 #[u, v] w fun e w' => e = .returned (.bool r) ∧ w = w' := by
  have hat1 := hx
  have hat2 := hy
  obtain ⟨A, c, rfl, hc, hm, hd1⟩ := hx
  obtain ⟨A2, c2, rfl, hc2, hm2, hd2⟩ := hy
  have hA1 := hat1.at
  have hA2 := hat2.at
  clear hd1 hd2 hat1 hat2
  have HR := hide hr
  clear hr
  go_enter Try.func44, Try.ntmps44
  go_wp2_with fail
  go_loop [5] (fun i => ∃ k : Nat, k ≤ xs.length ∧ k ≤ ys.length ∧ i = .int .i64 k ∧ Hid (∀ i, i < k → (-12 ≤ atL xs i ∧ atL xs i ≤ 12) ∧ -12 ≤ atL ys i ∧ atL ys i ≤ 12)) (fun i => xs.length - (intOf i).toNat)
  case atStart => exact ⟨0, Nat.zero_le _, Nat.zero_le _, rfl, fun i hi => by omega⟩
  case round =>
    obtain ⟨k, hk, hk2, rfl, hall⟩ := hrel
    by_cases hlt : k < xs.length
    · by_cases hlt2 : k < ys.length
      · obtain ⟨g, off, rfl, hg, hcl⟩ := hA1 (by omega)
        obtain ⟨g2, off2, rfl, hg2, hcl2⟩ := hA2 (by omega)
        have hc1 := hcl k hlt
        have hc2' := hcl2 k hlt2
        cases h1 : (decide (-12 ≤ atL xs k) && decide (atL xs k ≤ 12))
        · have HF : Hid (r = false) := by show _ = _; rw [← HR.out, okPts, allB_bad hlt h1]; simp
          have H1 := hide h1
          obtain ⟨x, hxe⟩ : ∃ x, atL xs k = x := ⟨_, rfl⟩
          rw [hxe] at hc1 H1
          clear hcl hcl2 hA1 hA2 hxe h1
          go_wp2_with fail
          refine (inRange_c false _ _ _ _ H1.out).mono ?_
          rintro e w1 ⟨rfl, rfl⟩
          go_wp2_with fail
          go_ret
          exact ⟨ret_bool HF.out.symm, rfl⟩
        · cases h2 : (decide (-12 ≤ atL ys k) && decide (atL ys k ≤ 12))
          · have HF : Hid (r = false) := by show _ = _; rw [← HR.out, okPts, allB_bad hlt2 h2]; simp
            have H1 := hide h1
            have H2 := hide h2
            obtain ⟨x, hxe⟩ : ∃ x, atL xs k = x := ⟨_, rfl⟩
            obtain ⟨y, hye⟩ : ∃ x, atL ys k = x := ⟨_, rfl⟩
            rw [hxe] at hc1 H1
            rw [hye] at hc2' H2
            clear hcl hcl2 hA1 hA2 hxe hye h1 h2
            go_wp2_with fail
            refine (inRange_c true _ _ _ _ H1.out).mono ?_
            rintro e w1 ⟨rfl, rfl⟩
            go_wp2_with fail
            refine (inRange_c false _ _ _ _ H2.out).mono ?_
            rintro e w1 ⟨rfl, rfl⟩
            go_wp2_with fail
            go_ret
            exact ⟨ret_bool HF.out.symm, rfl⟩
          · have HN : Hid (∀ i, i < k + 1 → (-12 ≤ atL xs i ∧ atL xs i ≤ 12) ∧ -12 ≤ atL ys i ∧ atL ys i ≤ 12) := fun i hi => by
              by_cases e : i = k
              · subst e; simp at h1 h2; omega
              · exact hall.out i (by omega)
            have H1 := hide h1
            have H2 := hide h2
            obtain ⟨x, hxe⟩ : ∃ x, atL xs k = x := ⟨_, rfl⟩
            obtain ⟨y, hye⟩ : ∃ x, atL ys k = x := ⟨_, rfl⟩
            rw [hxe] at hc1 H1
            rw [hye] at hc2' H2
            clear hcl hcl2 hA1 hA2 hxe hye h1 h2
            go_wp2_with fail
            refine (inRange_c true _ _ _ _ H1.out).mono ?_
            rintro e w1 ⟨rfl, rfl⟩
            go_wp2_with fail
            refine (inRange_c true _ _ _ _ H2.out).mono ?_
            rintro e w1 ⟨rfl, rfl⟩
            go_wp2_with fail
            go_round
            case rel => exact ⟨k + 1, by omega, by omega, by go_num, HN⟩
            case measure => simp [intOf]; omega
      · have HF : Hid (r = false) := by show _ = _; rw [← HR.out, okPts, decide_eq_false (by omega)]; rfl
        have hd : (ys.length : Int) ≤ (k : Int) := by omega
        clear hA1 hA2
        go_wp2_with fail
        go_ret
        exact ⟨ret_bool HF.out.symm, rfl⟩
    · have hke : k = xs.length := by omega
      by_cases hl : (xs.length : Int) = (ys.length : Int)
      · have hlb : ((xs.length : Int) == (ys.length : Int)) = true := beq_iff_eq.2 hl
        have HF : Hid (r = decide ((xs.length : Int) ≤ 7)) := by
          show _ = _
          rw [← HR.out, okPts, allB_of_at fun i hi => (hall.out i (by omega)).1, allB_of_at (xs := ys) fun i hi => (hall.out i (by omega)).2]
          rw [Bool.eq_iff_iff]
          simp
          omega
        have hd : ¬ (k : Int) < (xs.length : Int) := by omega
        clear hA1 hA2 hl hke
        go_wp2_with fail
        go_ret
        exact ⟨ret_bool HF.out.symm, rfl⟩
      · have hlb : ((xs.length : Int) == (ys.length : Int)) = false := beq_eq_false_iff_ne.2 hl
        have HF : Hid (r = false) := by show _ = _; rw [← HR.out, okPts, decide_eq_false (by omega)]; rfl
        have hd : ¬ (k : Int) < (xs.length : Int) := by omega
        clear hA1 hA2 hl hke
        go_wp2_with fail
        go_ret
        exact ⟨ret_bool HF.out.symm, rfl⟩

set_option maxHeartbeats 1000000 in
theorem validFlat_c (u v z : Value) (xs ys ms : List Int) (r : Bool) (w : World) (hx : Rd w u xs) (hy : Rd w v ys) (hz : Rd w z ms) (hr : okPart xs ys ms = r) :
    Calls Try.prog 24 #[u, v, z] w fun e w' => e = .returned (.bool r) ∧ w = w' := by
  have hcx := hx
  have hcy := hy
  have hat := hz
  obtain ⟨A, c, rfl, hc, hm, hd1⟩ := hx
  obtain ⟨A2, c2, rfl, hc2, hm2, hd2⟩ := hy
  obtain ⟨A3, c3, rfl, hc3, hm3, hd3⟩ := hz
  have hA := hat.at
  clear hd1 hd2 hd3 hat
  have HR := hide hr
  clear hr
  go_enter Try.func24, Try.ntmps24
  go_wp2_with fail
  go_loop [7] (fun i => ∃ k : Nat, k ≤ ms.length ∧ i = .int .i64 k ∧ Hid (∀ i, i < k → 0 ≤ atL ms i ∧ atL ms i ≤ 1)) (fun i => ms.length - (intOf i).toNat)
  case atStart => exact ⟨0, Nat.zero_le _, rfl, fun i hi => by omega⟩
  case round =>
    obtain ⟨k, hk, rfl, hall⟩ := hrel
    by_cases hlt : k < ms.length
    · obtain ⟨g, off, rfl, hg, hcl⟩ := hA (by omega)
      have hc1 := hcl k hlt
      cases h1 : (decide (0 ≤ atL ms k) && decide (atL ms k ≤ 1))
      · have HF : Hid (r = false) := by show _ = _; rw [← HR.out, okPart, allB_bad hlt h1]; simp
        have H1 := hide h1
        obtain ⟨x, hxe⟩ : ∃ x, atL ms k = x := ⟨_, rfl⟩
        rw [hxe] at hc1 H1
        clear hcl hA hxe h1
        go_wp2_with fail
        refine (inRange_c false _ _ _ _ H1.out).mono ?_
        rintro e w1 ⟨rfl, rfl⟩
        go_wp2_with fail
        go_ret
        exact ⟨ret_bool HF.out.symm, rfl⟩
      · have HN : Hid (∀ i, i < k + 1 → 0 ≤ atL ms i ∧ atL ms i ≤ 1) := fun i hi => by
          by_cases e : i = k
          · subst e; simp at h1; omega
          · exact hall.out i (by omega)
        have H1 := hide h1
        obtain ⟨x, hxe⟩ : ∃ x, atL ms k = x := ⟨_, rfl⟩
        rw [hxe] at hc1 H1
        clear hcl hA hxe h1
        go_wp2_with fail
        refine (inRange_c true _ _ _ _ H1.out).mono ?_
        rintro e w1 ⟨rfl, rfl⟩
        go_wp2_with fail
        go_round
        case rel => exact ⟨k + 1, by omega, by go_num, HN⟩
        case measure => simp [intOf]; omega
    · have hma : allB 0 1 ms = true := allB_of_at fun i hi => hall.out i (by omega)
      have hd : ¬ (k : Int) < (ms.length : Int) := by omega
      clear hA
      cases hp : okPts xs ys
      · have HF : Hid (r = false) := by show _ = _; rw [← HR.out, okPart, hp]; simp
        have HP := hide hp
        clear hp hma
        go_wp2_with fail
        refine (validPoints_c _ _ xs ys false _ hcx hcy HP.out).mono ?_
        rintro e w1 ⟨rfl, rfl⟩
        go_wp2_with fail
        go_ret
        exact ⟨ret_bool HF.out.symm, rfl⟩
      · have HP := hide hp
        by_cases hl : (xs.length : Int) = (ms.length : Int)
        · have hlb : ((xs.length : Int) == (ms.length : Int)) = true := beq_iff_eq.2 hl
          have HF : Hid (r = decide (0 < (xs.length : Int))) := by
            show _ = _
            rw [← HR.out, okPart, hp, hma, Bool.eq_iff_iff]
            simp
            omega
          clear hp hma hl
          by_cases h0 : (0 : Int) < (xs.length : Int)
          all_goals
            go_wp2_with fail
            refine (validPoints_c _ _ xs ys true _ hcx hcy HP.out).mono ?_
            rintro e w1 ⟨rfl, rfl⟩
            go_wp2_with fail
            go_ret
            exact ⟨ret_bool (by rw [HF.out]; first | (simp; done) | (simp; omega)), rfl⟩
        · have hlb : ((xs.length : Int) == (ms.length : Int)) = false := beq_eq_false_iff_ne.2 hl
          have HF : Hid (r = false) := by show _ = _; rw [← HR.out, okPart, hp, hma, Bool.eq_iff_iff]; simp; intro h; omega
          clear hp hma hl
          go_wp2_with fail
          refine (validPoints_c _ _ xs ys true _ hcx hcy HP.out).mono ?_
          rintro e w1 ⟨rfl, rfl⟩
          go_wp2_with fail
          go_ret
          exact ⟨ret_bool HF.out.symm, rfl⟩

set_option maxHeartbeats 1000000 in
theorem PartS_c (u v z : Value) (xs ys ms : List Int) (w : World) (hx : Rd w u xs) (hy : Rd w v ys) (hz : Rd w z ms) :
    Calls Try.prog 8 #[u, v, z] w fun e w' => ∃ v', e = .returned (.tuple #[v', .int .i64 (partX xs ys ms).2.1, .bool (partX xs ys ms).2.2]) ∧ Sl w' w.heap.size v' (partX xs ys ms).1 ∧ Below w.heap.size w w' := by
  have hcx := hx
  have hcy := hy
  have hcz := hz
  obtain ⟨A, c, rfl, hc, hm, hd1⟩ := hx
  obtain ⟨A2, c2, rfl, hc2, hm2, hd2⟩ := hy
  obtain ⟨A3, c3, rfl, hc3, hm3, hd3⟩ := hz
  clear hd1 hd2 hd3
  cases hok : okPart xs ys ms
  · have HX := hide (partX_bad hok)
    have HK := hide hok
    clear hok
    go_enter Try.func8, Try.ntmps8
    go_wp2_with fail
    refine (validFlat_c _ _ _ xs ys ms false _ hcx hcy hcz HK.out).mono ?_
    rintro e w1 ⟨rfl, rfl⟩
    go_wp2_with fail
    go_ret3
    rw [HX.out]
    exact ⟨_, rfl, Sl.nil _ _, Below.refl _ _⟩
  · have HK := hide hok
    clear hok
    have HT := hide (turns_c _ _ _ xs ys ms w hcx hcy hcz HK.out)
    obtain ⟨R, hR⟩ : ∃ R, partX xs ys ms = R := ⟨_, rfl⟩
    rw [hR] at HT ⊢
    clear hR
    go_enter Try.func8, Try.ntmps8
    go_wp2_with fail
    refine (validFlat_c _ _ _ xs ys ms true _ hcx hcy hcz HK.out).mono ?_
    rintro e w1 ⟨rfl, rfl⟩
    go_wp2_with fail
    refine HT.out.mono ?_
    rintro e w2 ⟨v2, rfl, hs2, hb2⟩
    go_wp2_with fail
    go_ret3
    exact ⟨v2, rfl, hs2, hb2⟩
end Go.Proofs.Ytcmjmnlccempfaa
