
/-
  The statement FnExactTablesWith: for every input it returns true and writes nothing that was there.
-/
import Derived.Test.YtgageljahebjnaaTabT
import Derived.Test.YtgageljahebjnaaTabI
namespace Go.Proofs.Ytgageljahebjnaa
open Go.RowKit

set_option maxHeartbeats 400000 in
theorem sumIT_c (v : Value) (xs : List Int) (w : World) (hr : Rd w v xs) (hb : allB (-1000000) 1000000 xs = true) (hn : xs.length ≤ 2000000) :
    Calls Try.prog 45 #[v] w fun e w' => e = .returned (.int .i64 (sumL xs)) ∧ w = w' := by
  obtain ⟨A, c, rfl, hc, hm, hcell⟩ := hr
  go_enter Try.func45, Try.ntmps45
  go_wp2_with fail
  go_loop [3, 8] (fun s i => ∃ k : Nat, k ≤ xs.length ∧ i = .int .i64 k ∧ s = .int .i64 (sumL (xs.take k))) (fun _ i => xs.length - (intOf i).toNat)
  case atStart => exact ⟨0, Nat.zero_le _, rfl, rfl⟩
  case round =>
    obtain ⟨k, hk, rfl, rfl⟩ := hrel
    by_cases hlt : k < xs.length
    · obtain ⟨g, off, rfl, hg, hcl⟩ := hcell (by omega)
      have hck : w.cell? ⟨g, off + k, none⟩ = some (.int .i64 xs[k]) := by rw [hcl k hlt, getD_lt hlt]
      have hx := allB_get hb hlt
      have hs := sumL_bound (m := 1000000) (by omega) (allB_iff.1 hb) k
      have HT := hide (sumL_take hlt)
      obtain ⟨x, hxe⟩ : ∃ x, xs[k] = x := ⟨_, rfl⟩
      obtain ⟨S, hS⟩ : ∃ x, sumL (xs.take k) = x := ⟨_, rfl⟩
      rw [hxe] at hck hx HT
      rw [hS] at hs HT ⊢
      have ik : (k : Int) < (xs.length : Int) := by omega
      clear hcl hcell hb hxe hS
      go_wp2_with fail
      go_round
      case rel => exact ⟨k + 1, by omega, by go_num, by rw [HT.out]⟩
      case measure => simp [intOf]; omega
    · obtain rfl : k = xs.length := by omega
      rw [List.take_length]
      go_wp2_with fail
      go_ret
      exact ⟨rfl, rfl⟩


def okSums (xs : List Int) : Bool := allB 0 6 xs && (decide (1 ≤ xs.length) && decide (xs.length ≤ 3))
theorem okSums_all {xs : List Int} (h : okSums xs = true) : allB 0 6 xs = true ∧ 1 ≤ xs.length ∧ xs.length ≤ 3 := by simpa [okSums] using h
/-- What both return. -/
def twR (xs ys : List Int) : Int × Int := if okSums xs = true ∧ okSums ys = true ∧ sumL xs = sumL ys then tabL xs ys else (-1, -1)
theorem twR_no {xs ys : List Int} (h : ¬ (okSums xs = true ∧ okSums ys = true ∧ sumL xs = sumL ys)) : (twR xs ys).1 = -1 ∧ (twR xs ys).2 = -1 := by unfold twR; rw [if_neg h]; exact ⟨rfl, rfl⟩

set_option maxHeartbeats 400000 in
theorem validSums_c (v : Value) (xs : List Int) (b : Bool) (w : World) (hr : Rd w v xs) (hb : okSums xs = b) :
    Calls Try.prog 41 #[v] w fun e w' => e = .returned (.bool b) ∧ w = w' := by
  obtain ⟨A, c, rfl, hc, hm, hcell⟩ := hr
  go_enter Try.func41, Try.ntmps41
  go_wp2
  go_loop [3] (fun i => ∃ k : Nat, k ≤ xs.length ∧ i = .int .i64 k ∧ allB 0 6 (xs.take k) = true) (fun i => xs.length - (intOf i).toNat)
  case atStart => exact ⟨0, Nat.zero_le _, rfl, rfl⟩
  case round =>
    obtain ⟨k, hk, rfl, hall⟩ := hrel
    by_cases hlt : k < xs.length
    · obtain ⟨g, off, rfl, hg, hcl⟩ := hcell (by omega)
      have hck : w.cell? ⟨g, off + k, none⟩ = some (.int .i64 xs[k]) := by rw [hcl k hlt, getD_lt hlt]
      clear hcl hcell
      have HA := hide hall
      have HB := hide hb
      clear hall hb
      by_cases h1 : 0 ≤ xs[k] ∧ xs[k] ≤ 6
      · obtain ⟨h1, h2⟩ := h1
        go_wp2_with (go_at_call 22; refine (inRange_c true _ _ _ _ (by simp; omega)).mono ?_; rintro e w' ⟨rfl, rfl⟩)
        go_round
        case rel => exact ⟨k + 1, by omega, by go_num, allB_take_succ hlt HA.out h1 h2⟩
        case measure => simp [intOf]; omega
      · go_wp2_with (go_at_call 22; refine (inRange_c false _ _ _ _ (by simp; omega)).mono ?_; rintro e w' ⟨rfl, rfl⟩)
        go_ret
        refine ⟨ret_bool ?_, rfl⟩
        rw [← HB.out, okSums, allB_no hlt (by omega)]
        rfl
    · have hfin : Hid ((decide ((1 : Int) ≤ (xs.length : Int)) && decide ((xs.length : Int) ≤ 3)) = b) := by
        obtain rfl : k = xs.length := by omega
        rw [List.take_length] at hall
        show _ = _
        rw [← hb, okSums, hall, Bool.true_and]
        congr 1 <;> simp <;> omega
      go_wp2_with (go_at_call 22; refine (inRange_c b _ _ _ _ hfin.out).mono ?_; rintro e w' ⟨rfl, rfl⟩)
      go_ret
      exact ⟨rfl, rfl⟩

theorem wide6 {xs : List Int} (h : allB 0 6 xs = true) : allB (-1000000) 1000000 xs = true := allB_iff.2 fun x hx => by have := allB_iff.1 h x hx; omega

set_option maxHeartbeats 1000000 in
theorem TWS_c (u v : Value) (xs ys : List Int) (w : World) (hx : Rd w u xs) (hy : Rd w v ys) :
    Calls Try.prog 15 #[u, v] w fun e w' => e = .returned (.tuple #[.int .i64 (twR xs ys).1, .int .i64 (twR xs ys).2]) ∧ Below w.heap.size w w' := by
  cases hk : okSums xs
  · have HN := hide (twR_no (xs := xs) (ys := ys) (by rw [hk]; simp))
    rw [HN.out.1, HN.out.2]
    go_enter Try.func15, Try.ntmps15
    go_wp2_with fail
    refine (validSums_c _ xs false _ hx hk).mono ?_
    rintro e w1 ⟨rfl, rfl⟩
    go_wp2_with fail
    go_ret2
    exact ⟨rfl, Below.refl _ _⟩
  cases hk2 : okSums ys
  · have HN := hide (twR_no (xs := xs) (ys := ys) (by rw [hk2]; simp))
    rw [HN.out.1, HN.out.2]
    have K1 := hide (validSums_c _ xs true _ hx hk)
    have K2 := hide (validSums_c _ ys false _ hy hk2)
    clear hk hk2
    go_enter Try.func15, Try.ntmps15
    go_wp2_with fail
    refine K1.out.mono ?_
    rintro e w1 ⟨rfl, rfl⟩
    go_wp2_with fail
    refine K2.out.mono ?_
    rintro e w1 ⟨rfl, rfl⟩
    go_wp2_with fail
    go_ret2
    exact ⟨rfl, Below.refl _ _⟩
  obtain ⟨a1, l1, l2⟩ := okSums_all hk
  obtain ⟨a2, m1, m2⟩ := okSums_all hk2
  have K1 := hide (validSums_c _ xs true _ hx hk)
  have K2 := hide (validSums_c _ ys true _ hy hk2)
  have S1 := hide (sumST_c _ xs w hx (wide6 a1) (by omega))
  have S2 := hide (sumST_c _ ys w hy (wide6 a2) (by omega))
  have KT := hide (countTables_c a1 l2 ys u v w hx hy a2 m1 m2)
  have HR : Hid (twR xs ys = if sumL xs = sumL ys then tabL xs ys else (-1, -1)) := by
    show _ = _
    unfold twR
    by_cases h : sumL xs = sumL ys
    · rw [if_pos ⟨hk, hk2, h⟩, if_pos h]
    · rw [if_neg (fun q => h q.2.2), if_neg h]
  obtain ⟨s1, hs1⟩ : ∃ s, sumL xs = s := ⟨_, rfl⟩
  obtain ⟨s2, hs2⟩ : ∃ s, sumL ys = s := ⟨_, rfl⟩
  rw [hs1] at S1 HR
  rw [hs2] at S2 HR
  rw [HR.out]
  clear hk hk2 hs1 hs2
  by_cases hs : s1 = s2
  · have hb : (s1 != s2) = false := by simp [hs]
    rw [if_pos hs]
    clear hs
    go_enter Try.func15, Try.ntmps15
    go_wp2_with fail
    refine K1.out.mono ?_
    rintro e w1 ⟨rfl, rfl⟩
    go_wp2_with fail
    refine K2.out.mono ?_
    rintro e w1 ⟨rfl, rfl⟩
    go_wp2_with fail
    refine S1.out.mono ?_
    rintro e w1 ⟨rfl, rfl⟩
    go_wp2_with fail
    refine S2.out.mono ?_
    rintro e w1 ⟨rfl, rfl⟩
    go_wp2_with fail
    refine KT.out.mono ?_
    rintro e w1 ⟨rfl, hb1⟩
    go_wp2_with fail
    go_ret2
    exact ⟨rfl, hb1⟩
  · have hb : (s1 != s2) = true := by simp [hs]
    rw [if_neg hs]
    clear hs
    go_enter Try.func15, Try.ntmps15
    go_wp2_with fail
    refine K1.out.mono ?_
    rintro e w1 ⟨rfl, rfl⟩
    go_wp2_with fail
    refine K2.out.mono ?_
    rintro e w1 ⟨rfl, rfl⟩
    go_wp2_with fail
    refine S1.out.mono ?_
    rintro e w1 ⟨rfl, rfl⟩
    go_wp2_with fail
    refine S2.out.mono ?_
    rintro e w1 ⟨rfl, rfl⟩
    go_wp2_with fail
    go_ret2
    exact ⟨rfl, Below.refl _ _⟩

set_option maxHeartbeats 2000000 in
theorem TWI_c (u v : Value) (xs ys : List Int) (w : World) (hx : Rd w u xs) (hy : Rd w v ys) (hn1 : xs.length ≤ 2000000) (hn2 : ys.length ≤ 2000000) :
    Calls Try.prog 16 #[u, v] w fun e w' => e = .returned (.tuple #[.int .i64 (twR xs ys).1, .int .i64 (twR xs ys).2]) ∧ Below w.heap.size w w' := by
  have HX := hide hx
  have HY := hide hy
  obtain ⟨A, c, rfl, hc, hm, -⟩ := hx
  obtain ⟨A2, c2, rfl, hc2, hm2, -⟩ := hy
  by_cases hl1 : 1 ≤ xs.length ∧ xs.length ≤ 3
  · obtain ⟨l1, l2⟩ := hl1
    by_cases hl2 : 1 ≤ ys.length ∧ ys.length ≤ 3
    · obtain ⟨m1, m2⟩ := hl2
      cases hk : allB 0 6 xs
      · have HN := hide (twR_no (xs := xs) (ys := ys) (by simp [okSums, hk]))
        rw [HN.out.1, HN.out.2]
        have K1 := hide fun w h => allIn_c (.slice A xs.length c) xs 0 6 false w h hk
        clear hk
        go_enter Try.func16, Try.ntmps16
        go_wp2_with fail
        refine (in_c true _ _ _ _ (by simp; omega)).mono ?_
        rintro e w' ⟨rfl, rfl⟩
        go_wp2_with fail
        refine (in_c true _ _ _ _ (by simp; omega)).mono ?_
        rintro e w' ⟨rfl, rfl⟩
        go_wp2_with fail
        refine (K1.out _ HX.out).mono ?_
        rintro e w1 ⟨rfl, hb1⟩
        go_wp2_with fail
        go_ret2
        exact ⟨rfl, hb1⟩
      cases hk2 : allB 0 6 ys
      · have HN := hide (twR_no (xs := xs) (ys := ys) (by simp [okSums, hk2]))
        rw [HN.out.1, HN.out.2]
        have K1 := hide fun w h => allIn_c (.slice A xs.length c) xs 0 6 true w h hk
        have K2 := hide fun w h => allIn_c (.slice A2 ys.length c2) ys 0 6 false w h hk2
        clear hk hk2
        go_enter Try.func16, Try.ntmps16
        go_wp2_with fail
        refine (in_c true _ _ _ _ (by simp; omega)).mono ?_
        rintro e w' ⟨rfl, rfl⟩
        go_wp2_with fail
        refine (in_c true _ _ _ _ (by simp; omega)).mono ?_
        rintro e w' ⟨rfl, rfl⟩
        go_wp2_with fail
        refine (K1.out _ HX.out).mono ?_
        rintro e w1 ⟨rfl, hb1⟩
        go_wp2_with fail
        refine (K2.out _ (HY.out.below hb1)).mono ?_
        rintro e w2 ⟨rfl, hb2⟩
        go_wp2_with fail
        go_ret2
        exact ⟨rfl, hb1.trans (hb2.mono hb1.size)⟩
      have hk1 : okSums xs = true := by simp [okSums, hk, l1, l2]
      have hk3 : okSums ys = true := by simp [okSums, hk2, m1, m2]
      have K1 := hide fun w h => allIn_c (.slice A xs.length c) xs 0 6 true w h hk
      have K2 := hide fun w h => allIn_c (.slice A2 ys.length c2) ys 0 6 true w h hk2
      have S1 := hide fun w h => sumIT_c (.slice A xs.length c) xs w h (wide6 hk) hn1
      have S2 := hide fun w h => sumIT_c (.slice A2 ys.length c2) ys w h (wide6 hk2) hn2
      have KT := hide fun w h1 h2 => tables_c hk l2 ys (.slice A xs.length c) (.slice A2 ys.length c2) w h1 h2 hk2 m1 m2
      have HR : Hid (twR xs ys = if sumL xs = sumL ys then tabL xs ys else (-1, -1)) := by
        show _ = _
        unfold twR
        by_cases h : sumL xs = sumL ys
        · rw [if_pos ⟨hk1, hk3, h⟩, if_pos h]
        · rw [if_neg (fun q => h q.2.2), if_neg h]
      obtain ⟨s1, hs1⟩ : ∃ s, sumL xs = s := ⟨_, rfl⟩
      obtain ⟨s2, hs2⟩ : ∃ s, sumL ys = s := ⟨_, rfl⟩
      rw [hs1] at S1 HR
      rw [hs2] at S2 HR
      rw [HR.out]
      clear hk hk2 hk1 hk3 hs1 hs2
      by_cases hs : s1 = s2
      · have hb : (s1 != s2) = false := by simp [hs]
        rw [if_pos hs]
        clear hs
        go_enter Try.func16, Try.ntmps16
        go_wp2_with fail
        refine (in_c true _ _ _ _ (by simp; omega)).mono ?_
        rintro e w' ⟨rfl, rfl⟩
        go_wp2_with fail
        refine (in_c true _ _ _ _ (by simp; omega)).mono ?_
        rintro e w' ⟨rfl, rfl⟩
        go_wp2_with fail
        refine (K1.out _ HX.out).mono ?_
        rintro e w1 ⟨rfl, hb1⟩
        go_wp2_with fail
        refine (K2.out _ (HY.out.below hb1)).mono ?_
        rintro e w2 ⟨rfl, hb2⟩
        have hb02 := hb1.trans (hb2.mono hb1.size)
        go_wp2_with fail
        refine (S1.out _ (HX.out.below hb02)).mono ?_
        rintro e w3 ⟨rfl, rfl⟩
        go_wp2_with fail
        refine (S2.out _ (HY.out.below hb02)).mono ?_
        rintro e w3 ⟨rfl, rfl⟩
        go_wp2_with fail
        refine (KT.out _ (HX.out.below hb02) (HY.out.below hb02)).mono ?_
        rintro e w3 ⟨rfl, hb3⟩
        go_wp2_with fail
        go_ret2
        exact ⟨rfl, hb02.trans (hb3.mono hb02.size)⟩
      · have hb : (s1 != s2) = true := by simp [hs]
        rw [if_neg hs]
        clear hs
        go_enter Try.func16, Try.ntmps16
        go_wp2_with fail
        refine (in_c true _ _ _ _ (by simp; omega)).mono ?_
        rintro e w' ⟨rfl, rfl⟩
        go_wp2_with fail
        refine (in_c true _ _ _ _ (by simp; omega)).mono ?_
        rintro e w' ⟨rfl, rfl⟩
        go_wp2_with fail
        refine (K1.out _ HX.out).mono ?_
        rintro e w1 ⟨rfl, hb1⟩
        go_wp2_with fail
        refine (K2.out _ (HY.out.below hb1)).mono ?_
        rintro e w2 ⟨rfl, hb2⟩
        have hb02 := hb1.trans (hb2.mono hb1.size)
        go_wp2_with fail
        refine (S1.out _ (HX.out.below hb02)).mono ?_
        rintro e w3 ⟨rfl, rfl⟩
        go_wp2_with fail
        refine (S2.out _ (HY.out.below hb02)).mono ?_
        rintro e w3 ⟨rfl, rfl⟩
        go_wp2_with fail
        go_ret2
        exact ⟨rfl, hb02⟩
    · have HN := hide (twR_no (xs := xs) (ys := ys) (fun q => hl2 (okSums_all q.2.1).2))
      rw [HN.out.1, HN.out.2]
      go_enter Try.func16, Try.ntmps16
      go_wp2_with fail
      refine (in_c true _ _ _ _ (by simp; omega)).mono ?_
      rintro e w' ⟨rfl, rfl⟩
      go_wp2_with fail
      refine (in_c false _ _ _ _ (by simp; omega)).mono ?_
      rintro e w' ⟨rfl, rfl⟩
      go_wp2_with fail
      go_ret2
      exact ⟨rfl, Below.refl _ _⟩
  · have HN := hide (twR_no (xs := xs) (ys := ys) (fun q => hl1 (okSums_all q.1).2))
    rw [HN.out.1, HN.out.2]
    go_enter Try.func16, Try.ntmps16
    go_wp2_with fail
    refine (in_c false _ _ _ _ (by simp; omega)).mono ?_
    rintro e w' ⟨rfl, rfl⟩
    go_wp2_with fail
    go_ret2
    exact ⟨rfl, Below.refl _ _⟩

set_option maxHeartbeats 1000000 in
theorem FnExactTablesWith_c (u v : Value) (xs ys : List Int) (w : World) (hx : Rd w u xs) (hy : Rd w v ys) :
    Calls Try.prog 5 #[u, v] w fun e w' => e = .returned (.bool true) ∧ Below w.heap.size w w' := by
  have hcx := hx
  have hcy := hy
  obtain ⟨A, c, rfl, hc, hm, hd1⟩ := hx
  obtain ⟨A2, c2, rfl, hc2, hm2, hd2⟩ := hy
  clear hd1 hd2
  by_cases hl1 : 1048576 < xs.length
  · go_enter Try.func5, Try.ntmps5
    go_wp2
    go_ret
    exact ⟨rfl, Below.refl _ _⟩
  by_cases hl2 : 1048576 < ys.length
  · go_enter Try.func5, Try.ntmps5
    go_wp2
    go_ret
    exact ⟨rfl, Below.refl _ _⟩
  · go_enter Try.func5, Try.ntmps5
    go_wp2_with fail
    refine (toIntS_c _ xs _ hcx (by omega)).mono ?_
    rintro e w1 ⟨v1, rfl, hs1, hb1⟩
    go_wp2_with fail
    refine (toIntS_c _ ys _ (Rd.below hcy (by (repeat (first | exact Below.refl _ _ | assumption | refine Below.setCell ?_ (by first | (simp; done) | omega | (simp; omega) | (simp at *; omega)) _ | refine Below.drew ?_ | refine below_drewN ?_ _ | refine below_alloc' ?_ _ | refine below_to' ?_ (by assumption))))) (by omega)).mono ?_
    rintro e w2 ⟨v2, rfl, hs2, hb2⟩
    go_wp2_with fail
    refine (TWS_c _ _ xs ys _ (Rd.below hs1.rd (by (repeat (first | exact Below.refl _ _ | assumption | refine Below.setCell ?_ (by first | (simp; done) | omega | (simp; omega) | (simp at *; omega)) _ | refine Below.drew ?_ | refine below_drewN ?_ _ | refine below_alloc' ?_ _ | refine below_to' ?_ (by assumption))))) hs2.rd).mono ?_
    rintro e w3 ⟨rfl, hb3⟩
    go_wp2_with fail
    refine (toIntS_c _ xs _ (Rd.below hcx (by (repeat (first | exact Below.refl _ _ | assumption | refine Below.setCell ?_ (by first | (simp; done) | omega | (simp; omega) | (simp at *; omega)) _ | refine Below.drew ?_ | refine below_drewN ?_ _ | refine below_alloc' ?_ _ | refine below_to' ?_ (by assumption))))) (by omega)).mono ?_
    rintro e w4 ⟨v4, rfl, hs4, hb4⟩
    go_wp2_with fail
    refine (toIntS_c _ ys _ (Rd.below hcy (by (repeat (first | exact Below.refl _ _ | assumption | refine Below.setCell ?_ (by first | (simp; done) | omega | (simp; omega) | (simp at *; omega)) _ | refine Below.drew ?_ | refine below_drewN ?_ _ | refine below_alloc' ?_ _ | refine below_to' ?_ (by assumption))))) (by omega)).mono ?_
    rintro e w5 ⟨v5, rfl, hs5, hb5⟩
    go_wp2_with fail
    refine (TWI_c _ _ xs ys _ (Rd.below hs4.rd (by (repeat (first | exact Below.refl _ _ | assumption | refine Below.setCell ?_ (by first | (simp; done) | omega | (simp; omega) | (simp at *; omega)) _ | refine Below.drew ?_ | refine below_drewN ?_ _ | refine below_alloc' ?_ _ | refine below_to' ?_ (by assumption))))) hs5.rd (by omega) (by omega)).mono ?_
    rintro e w6 ⟨rfl, hb6⟩
    go_wp2_with fail
    refine (toIntS_c _ xs _ (Rd.below hcx (by (repeat (first | exact Below.refl _ _ | assumption | refine Below.setCell ?_ (by first | (simp; done) | omega | (simp; omega) | (simp at *; omega)) _ | refine Below.drew ?_ | refine below_drewN ?_ _ | refine below_alloc' ?_ _ | refine below_to' ?_ (by assumption))))) (by omega)).mono ?_
    rintro e w7 ⟨v7, rfl, hs7, hb7⟩
    go_wp2_with fail
    refine (eqIntS_c _ _ xs xs true _ (Rd.below hs4.rd (by (repeat (first | exact Below.refl _ _ | assumption | refine Below.setCell ?_ (by first | (simp; done) | omega | (simp; omega) | (simp at *; omega)) _ | refine Below.drew ?_ | refine below_drewN ?_ _ | refine below_alloc' ?_ _ | refine below_to' ?_ (by assumption))))) hs7.rd (by simp)).mono ?_
    rintro e w8 ⟨rfl, hb8⟩
    go_wp2_with fail
    refine (toIntS_c _ ys _ (Rd.below hcy (by (repeat (first | exact Below.refl _ _ | assumption | refine Below.setCell ?_ (by first | (simp; done) | omega | (simp; omega) | (simp at *; omega)) _ | refine Below.drew ?_ | refine below_drewN ?_ _ | refine below_alloc' ?_ _ | refine below_to' ?_ (by assumption))))) (by omega)).mono ?_
    rintro e w9 ⟨v9, rfl, hs9, hb9⟩
    go_wp2_with fail
    refine (eqIntS_c _ _ ys ys true _ (Rd.below hs5.rd (by (repeat (first | exact Below.refl _ _ | assumption | refine Below.setCell ?_ (by first | (simp; done) | omega | (simp; omega) | (simp at *; omega)) _ | refine Below.drew ?_ | refine below_drewN ?_ _ | refine below_alloc' ?_ _ | refine below_to' ?_ (by assumption))))) hs9.rd (by simp)).mono ?_
    rintro e w10 ⟨rfl, hb10⟩
    go_wp2_with fail
    go_ret
    refine ⟨rfl, ?_⟩
    (repeat (first | exact Below.refl _ _ | assumption | refine Below.setCell ?_ (by first | (simp; done) | omega | (simp; omega) | (simp at *; omega)) _ | refine Below.drew ?_ | refine below_drewN ?_ _ | refine below_alloc' ?_ _ | refine below_to' ?_ (by assumption)))

end Go.Proofs.Ytgageljahebjnaa
