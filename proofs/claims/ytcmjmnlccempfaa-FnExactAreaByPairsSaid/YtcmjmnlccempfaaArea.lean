/-
  Contracts: cases with marks, in the program and in its reference; whether a number is in a list; the numbers with a mark.
-/
import Derived.Test.YtcmjmnlccempfaaWinS
import Derived.Test.YtcmjmnlccempfaaPartS
namespace Go.Proofs.Ytcmjmnlccempfaa
open Go.RowKit

def okCases (xs ms : List Int) : Bool := okData xs && decide (xs.length = ms.length) && decide (0 < xs.length) && allB 0 1 ms
theorem okCases_all {xs ms : List Int} (h : okCases xs ms = true) : okData xs = true ∧ xs.length = ms.length ∧ 0 < xs.length ∧ allB 0 1 ms = true := by
  simp [okCases] at h
  obtain ⟨⟨⟨h1, h2⟩, h3⟩, h4⟩ := h
  exact ⟨h1, h2, by first | exact h3 | exact List.length_pos_iff.2 h3, h4⟩
theorem okCases_no {xs ms : List Int} (h : ¬ (okData xs = true ∧ xs.length = ms.length ∧ 0 < xs.length ∧ allB 0 1 ms = true)) : okCases xs ms = false := by
  cases hc : okCases xs ms
  · rfl
  · exact absurd (okCases_all hc) h
theorem okCases_yes {xs ms : List Int} (h1 : okData xs = true) (h2 : xs.length = ms.length) (h3 : 0 < xs.length) (h4 : allB 0 1 ms = true) : okCases xs ms = true := by
  rw [okCases, h1, h4, decide_eq_true h2, decide_eq_true h3]; rfl

/-- The numbers with the mark m among the first k. -/
def partTo (xs ms : List Int) (m : Int) : Nat → List Int
  | 0 => []
  | k + 1 => if atL ms k = m then partTo xs ms m k ++ [atL xs k] else partTo xs ms m k
theorem partTo_yes {xs ms : List Int} {m : Int} {k : Nat} (h : atL ms k = m) : partTo xs ms m (k + 1) = partTo xs ms m k ++ [atL xs k] := by rw [partTo, if_pos h]
theorem partTo_no {xs ms : List Int} {m : Int} {k : Nat} (h : ¬ atL ms k = m) : partTo xs ms m (k + 1) = partTo xs ms m k := by rw [partTo, if_neg h]
theorem partTo_len (xs ms : List Int) (m : Int) : ∀ k : Nat, (partTo xs ms m k).length ≤ k
  | 0 => Nat.le_refl _
  | k + 1 => by
    have := partTo_len xs ms m k
    by_cases h : atL ms k = m
    · rw [partTo_yes h]; simp; omega
    · rw [partTo_no h]; omega
theorem partTo_two (xs ms : List Int) : ∀ k : Nat, (partTo xs ms 1 k).length + (partTo xs ms 0 k).length ≤ k
  | 0 => Nat.le_refl _
  | k + 1 => by
    have := partTo_two xs ms k
    by_cases h : atL ms k = 1
    · rw [partTo_yes h, partTo_no (m := 0) (by omega)]; simp; omega
    · rw [partTo_no h]
      by_cases h0 : atL ms k = 0
      · rw [partTo_yes h0]; simp; omega
      · rw [partTo_no h0]; omega
theorem partTo_allB {lo hi : Int} {xs ms : List Int} {m : Int} (h : allB lo hi xs = true) : ∀ k : Nat, k ≤ xs.length → allB lo hi (partTo xs ms m k) = true
  | 0, _ => rfl
  | k + 1, hk => by
    have ih := partTo_allB (ms := ms) (m := m) h k (by omega)
    by_cases c : atL ms k = m
    · rw [partTo_yes c, allB_snoc, ih]
      have := allB_get h (j := k) (by omega)
      rw [atL_lt (by omega)]
      simp; omega
    · rw [partTo_no c]; exact ih
theorem partTo_data {xs ms : List Int} {m : Int} (h : okData xs = true) : okData (partTo xs ms m xs.length) = true := by
  obtain ⟨h1, h2⟩ := okData_all h
  have := partTo_len xs ms m xs.length
  rw [okData, partTo_allB h1 _ (Nat.le_refl _), decide_eq_true (by omega)]; rfl
theorem partTo_pos (xs ms : List Int) (m : Int) : ∀ k : Nat, k ≤ ms.length → (0 < (partTo xs ms m k).length ↔ m ∈ ms.take k)
  | 0, _ => by simp [partTo]
  | k + 1, hk => by
    have ih := partTo_pos xs ms m k (by omega)
    rw [List.take_succ_eq_append_getElem (by omega), List.mem_append]
    by_cases c : atL ms k = m
    · rw [partTo_yes c]
      rw [atL_lt (by omega)] at c
      simp [c]
    · rw [partTo_no c, ih]
      rw [atL_lt (by omega)] at c
      simp
      intro h; exact absurd h.symm c

set_option maxHeartbeats 1000000 in
theorem indexIn_c (v : Value) (xs : List Int) (m : Int) (b : Bool) (w : World) (hx : Rd w v xs) (hb : decide (m ∈ xs) = b) :
    Calls Try.prog 63 #[v, .int .i64 m] w fun e w' => ∃ r : Int, e = .returned (.int .i64 r) ∧ -1 ≤ r ∧ decide (0 ≤ r) = b ∧ w = w' := by
  obtain ⟨A, c, rfl, hc, hm, _⟩ := id hx
  have hat := hx.at
  go_enter Try.func63, Try.ntmps63
  have HB := hide hb
  clear hb
  go_wp2_with fail
  go_loop [8] (fun i => ∃ k : Nat, k ≤ xs.length ∧ i = .int .i64 k ∧ Hid (m ∉ xs.take k)) (fun i => xs.length - (intOf i).toNat)
  case atStart => exact ⟨0, Nat.zero_le _, rfl, hide (by simp)⟩
  case round =>
    obtain ⟨k, hk, rfl, hno⟩ := hrel
    by_cases hlt : k < xs.length
    · obtain ⟨g, off, rfl, hg, hcl⟩ := hat (by omega)
      have hck := hcl k hlt
      rw [atL_lt hlt] at hck
      by_cases hq : m = xs[k]
      · have HF : Hid (b = true) := by show _ = _; rw [← HB.out]; exact decide_eq_true (by rw [hq]; exact List.getElem_mem _)
        have hqb : (m == xs[k]) = true := beq_iff_eq.2 hq
        rw [← hq] at hck
        clear hcl hat hq hqb
        go_wp2_with fail
        go_ret
        exact ⟨(k : Int), rfl, by omega, by rw [HF.out]; simp, rfl⟩
      · have hqb : (m == xs[k]) = false := beq_eq_false_iff_ne.2 hq
        have HN : Hid (m ∉ xs.take (k + 1)) := by
          show _
          rw [List.take_succ_eq_append_getElem hlt]
          simp only [List.mem_append, List.mem_singleton, not_or]
          exact ⟨hno.out, hq⟩
        obtain ⟨X, hX⟩ : ∃ X, xs[k] = X := ⟨_, rfl⟩
        rw [hX] at hck hqb
        clear hcl hat hq hX
        go_wp2_with fail
        go_round
        case rel => exact ⟨k + 1, by omega, by go_num, HN⟩
        case measure => simp [intOf]; omega
    · obtain rfl : k = xs.length := by omega
      have HF : Hid (b = false) := by
        show _ = _
        rw [← HB.out]
        have := hno.out
        rw [List.take_length] at this
        exact decide_eq_false this
      clear hat
      go_wp2_with fail
      go_ret
      exact ⟨-1, rfl, by omega, by rw [HF.out]; rfl, rfl⟩

set_option maxHeartbeats 400000 in
theorem contains_c (v : Value) (xs : List Int) (m : Int) (b : Bool) (w : World) (hx : Rd w v xs) (hb : decide (m ∈ xs) = b) :
    Calls Try.prog 58 #[v, .int .i64 m] w fun e w' => e = .returned (.bool b) ∧ w = w' := by
  go_enter Try.func58, Try.ntmps58
  go_wp2_with fail
  refine (indexIn_c v xs m b _ hx hb).mono ?_
  rintro e w1 ⟨r, rfl, hr1, hr2, rfl⟩
  go_wp2_with fail
  go_ret
  exact ⟨rfl, rfl⟩

set_option maxHeartbeats 1000000 in
theorem validCases_c (u z : Value) (xs ms : List Int) (r : Bool) (w : World) (hx : Rd w u xs) (hz : Rd w z ms) (hr : okCases xs ms = r) :
    Calls Try.prog 35 #[u, z] w fun e w' => e = .returned (.bool r) ∧ w = w' := by
  have hcx := hx
  have hat := hz
  obtain ⟨A, c, rfl, hc, hm, hd1⟩ := hx
  obtain ⟨A3, c3, rfl, hc3, hm3, hd3⟩ := hz
  have hA := hat.at
  clear hd1 hd3 hat
  have HR := hide hr
  clear hr
  go_enter Try.func35, Try.ntmps35
  go_wp2_with fail
  go_loop [5] (fun i => ∃ k : Nat, k ≤ ms.length ∧ i = .int .i64 k ∧ Hid (∀ i, i < k → 0 ≤ atL ms i ∧ atL ms i ≤ 1)) (fun i => ms.length - (intOf i).toNat)
  case atStart => exact ⟨0, Nat.zero_le _, rfl, fun i hi => by omega⟩
  case round =>
    obtain ⟨k, hk, rfl, hall⟩ := hrel
    by_cases hlt : k < ms.length
    · obtain ⟨g, off, rfl, hg, hcl⟩ := hA (by omega)
      have hc1 := hcl k hlt
      cases h1 : (decide (0 ≤ atL ms k) && decide (atL ms k ≤ 1))
      · have HF : Hid (r = false) := by show _ = _; rw [← HR.out, okCases, allB_bad hlt h1]; simp
        have H1 := hide h1
        obtain ⟨x, hxe⟩ : ∃ x, atL ms k = x := ⟨_, rfl⟩
        rw [hxe] at hc1 H1
        clear hcl hA hxe h1
        go_wp2_with fail
        refine (inRange_c false _ _ _ _ H1.out).mono ?_
        rintro e w1 ⟨rfl, rfl⟩
        go_wp2_with fail
        go_ret
        exact ⟨ret_bool HF.out.symm, rfl⟩
      · have HN : Hid (∀ i, i < k + 1 → 0 ≤ atL ms i ∧ atL ms i ≤ 1) := fun i hi => by
          by_cases e : i = k
          · subst e; simp at h1; omega
          · exact hall.out i (by omega)
        have H1 := hide h1
        obtain ⟨x, hxe⟩ : ∃ x, atL ms k = x := ⟨_, rfl⟩
        rw [hxe] at hc1 H1
        clear hcl hA hxe h1
        go_wp2_with fail
        refine (inRange_c true _ _ _ _ H1.out).mono ?_
        rintro e w1 ⟨rfl, rfl⟩
        go_wp2_with fail
        go_round
        case rel => exact ⟨k + 1, by omega, by go_num, HN⟩
        case measure => simp [intOf]; omega
    · have hma : allB 0 1 ms = true := allB_of_at fun i hi => hall.out i (by omega)
      have hd : ¬ (k : Int) < (ms.length : Int) := by omega
      clear hA
      cases hp : okData xs
      · have HF : Hid (r = false) := by show _ = _; rw [← HR.out, okCases, hp]; simp
        have HP := hide hp
        clear hp hma
        go_wp2_with fail
        refine (validData_c _ xs false _ hcx HP.out).mono ?_
        rintro e w1 ⟨rfl, rfl⟩
        go_wp2_with fail
        go_ret
        exact ⟨ret_bool HF.out.symm, rfl⟩
      · have HP := hide hp
        by_cases hl : (xs.length : Int) = (ms.length : Int)
        · have hlb : ((xs.length : Int) == (ms.length : Int)) = true := beq_iff_eq.2 hl
          have HF : Hid (r = decide (0 < (xs.length : Int))) := by
            show _ = _
            rw [← HR.out, okCases, hp, hma, Bool.eq_iff_iff]
            simp
            omega
          clear hp hma hl
          by_cases h0 : (0 : Int) < (xs.length : Int)
          all_goals
            go_wp2_with fail
            refine (validData_c _ xs true _ hcx HP.out).mono ?_
            rintro e w1 ⟨rfl, rfl⟩
            go_wp2_with fail
            go_ret
            exact ⟨ret_bool (by rw [HF.out]; first | (simp; done) | (simp; omega)), rfl⟩
        · have hlb : ((xs.length : Int) == (ms.length : Int)) = false := beq_eq_false_iff_ne.2 hl
          have HF : Hid (r = false) := by show _ = _; rw [← HR.out]; exact okCases_no (by omega)
          clear hp hma hl
          go_wp2_with fail
          refine (validData_c _ xs true _ hcx HP.out).mono ?_
          rintro e w1 ⟨rfl, rfl⟩
          go_wp2_with fail
          go_ret
          exact ⟨ret_bool HF.out.symm, rfl⟩

set_option maxHeartbeats 1000000 in
theorem partOf_c (u z : Value) (xs ms : List Int) (m : Int) (w : World) (hx : Rd w u xs) (hz : Rd w z ms) (hok : okCases xs ms = true) :
    Calls Try.prog 36 #[u, z, .int .i64 m] w fun e w' => ∃ v, e = .returned v ∧ Sl w' w.heap.size v (partTo xs ms m xs.length) ∧ Below w.heap.size w w' := by
  obtain ⟨hd, hl, h0, hma⟩ := okCases_all hok
  have hlen := (okData_all hd).2
  obtain ⟨A, c, rfl, hc, hm, _⟩ := id hx
  obtain ⟨A3, c3, rfl, hc3, hm3, _⟩ := id hz
  obtain ⟨g, off, rfl, hg, hcl⟩ := hx.at h0
  obtain ⟨g2, off2, rfl, hg2, hcl2⟩ := hz.at (by omega)
  rw [← hl] at hcl2 hc3 ⊢
  clear hl hd hma hok hx hz
  go_enter Try.func36, Try.ntmps36
  go_wp2_with fail
  go_loopw [7, 8] (fun s i wr => ∃ (k : Nat) (ys : List Int), k ≤ xs.length ∧ i = .int .i64 k ∧ Hid (ys = partTo xs ms m k) ∧ ys.length ≤ k ∧ Own wr w.heap.size 3 s ys ∧ Below w.heap.size w wr) (fun _ i _ => xs.length - (intOf i).toNat)
  case atStart => exact ⟨0, [], Nat.zero_le _, rfl, rfl, by simp, lit_own (w := w) [] rfl rfl rfl (by simp) (Nat.le_refl _), by (repeat (first | exact Below.refl _ _ | assumption | refine Below.setCell ?_ (by first | (simp; done) | omega | (simp; omega) | (simp at *; omega)) _ | refine Below.drew ?_ | refine below_drewN ?_ _ | refine below_alloc' ?_ _ | refine below_to' ?_ (by assumption)))⟩
  case round =>
    obtain ⟨k, ys, hk, rfl, hys, hyl, hown, hbel⟩ := hrel
    by_cases hlt : k < xs.length
    · have hc1 := (hbel.cell (p := ⟨g, off + k, none⟩) hg).trans (hcl k hlt)
      have hc2 := (hbel.cell (p := ⟨g2, off2 + k, none⟩) hg2).trans (hcl2 k hlt)
      have hi1 : (k : Int) < (xs.length : Int) := by omega
      by_cases he : atL ms k = m
      · have HY : Hid (ys ++ [atL xs k] = partTo xs ms m (k + 1)) := by show _ = _; rw [partTo_yes he, hys.out]
        rw [he] at hc2
        obtain ⟨X, hX⟩ : ∃ X, atL xs k = X := ⟨_, rfl⟩
        rw [hX] at hc1 HY
        clear hcl hcl2 he hX
        go_wp2_with (at_builtin; refine wpList_push_int _ rfl (.tmp 22) (.tmp 27) rfl ints w.heap.size _ ys X _ 1 rfl rfl hown hbel.size (by omega) ?_; intro v7 w7 hown7 hb7 hg7 hat7 hk7 hlt7)
        go_roundw
        case rel => exact ⟨k + 1, _, by omega, by go_num, HY, by simp; omega, hown7, hbel.trans hb7⟩
        case measure => simp [intOf]; omega
      · have HY : Hid (ys = partTo xs ms m (k + 1)) := by show _ = _; rw [partTo_no he, hys.out]
        have heb : (atL ms k == m) = false := beq_eq_false_iff_ne.2 he
        clear hcl hcl2 he
        go_wp2_with fail
        go_roundw
        case rel => exact ⟨k + 1, _, by omega, by go_num, HY, by omega, hown, hbel⟩
        case measure => simp [intOf]; omega
    · obtain rfl : k = xs.length := by omega
      go_wp2_with fail
      go_ret
      exact ⟨_, rfl, by rw [← hys.out]; exact hown.sl, hbel⟩
end Go.Proofs.Ytcmjmnlccempfaa
