/-
  Contracts: points with marks, and the line that is turned, in the program and in its reference.
-/
import Derived.Test.YtcmjmnlccempfaaPartP
import Derived.Test.YtcmjmnlccempfaaQTail
import Derived.Test.YtcmjmnlccempfaaDraw
import Derived.Test.YtcmjmnlccempfaaData
namespace Go.Proofs.Ytcmjmnlccempfaa
open Go.RowKit

theorem mul_abs_bd {a x m n : Int} (ha : -m ≤ a ∧ a ≤ m) (hx : -n ≤ x ∧ x ≤ n) (hm : 0 ≤ m) (hn : 0 ≤ n) : -(m * n) ≤ a * x ∧ a * x ≤ m * n := by
  have h1 : 0 ≤ (m - a) * (n + x) := Int.mul_nonneg (by omega) (by omega)
  have h2 : 0 ≤ (m + a) * (n - x) := Int.mul_nonneg (by omega) (by omega)
  have h3 : 0 ≤ (m - a) * (n - x) := Int.mul_nonneg (by omega) (by omega)
  have h4 : 0 ≤ (m + a) * (n + x) := Int.mul_nonneg (by omega) (by omega)
  have e1 : (m - a) * (n + x) = m * n + m * x - a * n - a * x := by grind
  have e2 : (m + a) * (n - x) = m * n - m * x + a * n - a * x := by grind
  have e3 : (m - a) * (n - x) = m * n - m * x - a * n + a * x := by grind
  have e4 : (m + a) * (n + x) = m * n + m * x + a * n + a * x := by grind
  omega
theorem results_tmp3' {fn : Func} {t u v : Tmp} (h : fn.results = #[.tmp t, .tmp u, .tmp v]) (tmps : Array Value) (P : Program) (w : World) :
    (results fn tmps).run P w = .ok (.tuple #[tmps.getD t undef, tmps.getD u undef, tmps.getD v undef]) w := by
  simp [results, h]
theorem sl_of_blk {w : World} {G B : Nat} {a b c : Int} {t : TypeId} (h : w.heap[G]? = some (.cells #[.int .i64 a, .int .i64 b, .int .i64 c] t (0, 0))) (hB : B ≤ G) : Sl w B (.slice (some ⟨G, 0, none⟩) 3 3) [a, b, c] := by
  refine ⟨some ⟨G, 0, none⟩, 3, rfl, by simp, by omega, fun _ => ⟨G, 0, rfl, hB, blk_lt h, fun j hj => ?_, fun j _ => blk_frozen h _⟩⟩
  rw [Nat.zero_add, blk_cell h j]
  rcases j with _ | _ | _ | j
  · rfl
  · rfl
  · rfl
  · simp at hj; omega

def okPv (xs ys : List Int) : Bool := decide (xs.length = ys.length) && (decide (1 ≤ (xs.length : Int)) && decide ((xs.length : Int) ≤ 7)) && allB (-12) 12 xs && allB (-12) 12 ys
theorem okPart_impl (xs ys ms : List Int) : okPart xs ys ms = (okPv xs ys && decide (ms.length = xs.length) && allB 0 1 ms) := by
  rw [Bool.eq_iff_iff, okPart_iff]
  simp [okPv]
  constructor
  · intro h
    refine ⟨⟨⟨⟨⟨h.2.1.1, by omega, by omega⟩, h.2.1.2.2.1⟩, h.2.1.2.2.2⟩, by omega⟩, h.1⟩
  · rintro ⟨⟨⟨⟨⟨a1, a2, a3⟩, a4⟩, a5⟩, a6⟩, a7⟩
    exact ⟨a7, ⟨a1, by omega, a4, a5⟩, by omega, by omega⟩

set_option maxHeartbeats 1000000 in
theorem placesValid_c (u v : Value) (xs ys : List Int) (r : Bool) (w : World) (hx : Rd w u xs) (hy : Rd w v ys) (hr : okPv xs ys = r) :
    Calls Try.prog 26 #[u, v, .int .i64 7] w fun e w' => e = .returned (.bool r) ∧ Below w.heap.size w w' := by
  have hx' := hx
  have hy' := hy
  obtain ⟨A, c, rfl, hc, hm, hcell⟩ := hx
  obtain ⟨A2, c2, rfl, hc2, hm2, hcell2⟩ := hy
  clear hcell hcell2
  by_cases hl : (xs.length : Int) = (ys.length : Int)
  · have hlb : ((xs.length : Int) == (ys.length : Int)) = true := beq_iff_eq.2 hl
    have hl' : xs.length = ys.length := by omega
    cases hin : (decide (1 ≤ (xs.length : Int)) && decide ((xs.length : Int) ≤ 7))
    · obtain rfl : r = false := by rw [← hr, okPv, hin]; simp
      clear hr hl hl'
      go_enter Try.func26, Try.ntmps26
      go_wp2_with fail
      refine (in_c false _ _ _ _ hin).mono ?_
      rintro e w1 ⟨rfl, rfl⟩
      go_wp2_with fail
      go_ret
      exact ⟨rfl, Below.refl _ _⟩
    cases hax : allB (-12) 12 xs
    · obtain rfl : r = false := by rw [← hr, okPv, hax]; simp
      clear hr hl hl'
      go_enter Try.func26, Try.ntmps26
      go_wp2_with fail
      refine (in_c true _ _ _ _ hin).mono ?_
      rintro e w1 ⟨rfl, rfl⟩
      go_wp2_with fail
      refine (allIn_c _ xs (-12) 12 false _ hx' hax).mono ?_
      rintro e w2 ⟨rfl, hb2⟩
      go_wp2_with fail
      go_ret
      exact ⟨rfl, hb2⟩
    · have hay : allB (-12) 12 ys = r := by rw [← hr, okPv, hin, hax]; simp [hl']
      clear hr hl hl'
      go_enter Try.func26, Try.ntmps26
      go_wp2_with fail
      refine (in_c true _ _ _ _ hin).mono ?_
      rintro e w1 ⟨rfl, rfl⟩
      go_wp2_with fail
      refine (allIn_c _ xs (-12) 12 true _ hx' hax).mono ?_
      rintro e w2 ⟨rfl, hb2⟩
      go_wp2_with fail
      refine (allIn_c _ ys (-12) 12 r _ (hy'.below hb2) hay).mono ?_
      rintro e w3 ⟨rfl, hb3⟩
      go_wp2_with fail
      go_ret
      exact ⟨rfl, by (repeat (first | exact Below.refl _ _ | assumption | refine Below.setCell ?_ (by first | (simp; done) | omega | (simp; omega) | (simp at *; omega)) _ | refine Below.drew ?_ | refine below_drewN ?_ _ | refine below_alloc' ?_ _ | refine below_to' ?_ (by assumption)))⟩
  · have hlb : ((xs.length : Int) == (ys.length : Int)) = false := beq_eq_false_iff_ne.2 hl
    obtain rfl : r = false := by rw [← hr, okPv]; simp; intro h; omega
    clear hr hl
    go_enter Try.func26, Try.ntmps26
    go_wp2_with fail
    go_ret
    exact ⟨rfl, Below.refl _ _⟩

theorem okP_mono {s : PL} {T U : Int} (h : okP s T) (hu : T ≤ U) : okP s U := by
  simp only [okP] at h ⊢
  omega
theorem len3 {n : Nat} (h : n ≤ 7) : (n : Int) ≤ 7 := by omega
/-- What the numbers of a turn are bounded by. -/
theorem turn_bd {a b c t x y m T : Int} (h : okP ⟨a, b, c, t⟩ T) (hT : T ≤ 427) (hx : -12 ≤ x ∧ x ≤ 12) (hy : -12 ≤ y ∧ y ≤ 12) (hm : m = 0 ∨ m = 1) :
    IntKind.i64.wrap (2 * m) = 2 * m ∧ IntKind.i64.wrap (2 * m - 1) = 2 * m - 1 ∧ IntKind.i64.wrap (a * x) = a * x ∧ IntKind.i64.wrap (b * y) = b * y ∧ IntKind.i64.wrap (a * x + b * y) = a * x + b * y ∧ IntKind.i64.wrap (a * x + b * y + c) = a * x + b * y + c ∧
    IntKind.i64.wrap ((2 * m - 1) * (a * x + b * y + c)) = (2 * m - 1) * (a * x + b * y + c) ∧ IntKind.i64.wrap ((2 * m - 1) * x) = (2 * m - 1) * x ∧ IntKind.i64.wrap ((2 * m - 1) * y) = (2 * m - 1) * y ∧ IntKind.i64.wrap (a + (2 * m - 1) * x) = a + (2 * m - 1) * x ∧ IntKind.i64.wrap (b + (2 * m - 1) * y) = b + (2 * m - 1) * y ∧ IntKind.i64.wrap (c + (2 * m - 1)) = c + (2 * m - 1) := by
  obtain ⟨h1, h2, h3, h4⟩ := h
  have ha : -5124 ≤ a ∧ a ≤ 5124 := by have : -(12 * T) ≤ a ∧ a ≤ 12 * T := h1; omega
  have hb : -5124 ≤ b ∧ b ≤ 5124 := by have : -(12 * T) ≤ b ∧ b ≤ 12 * T := h2; omega
  have hc : -427 ≤ c ∧ c ≤ 427 := by have : -T ≤ c ∧ c ≤ T := h3; omega
  have m1 := mul_abs_bd ha hx (by omega) (by omega)
  have m2 := mul_abs_bd hb hy (by omega) (by omega)
  have m3 := mul_abs_bd (a := 2 * m - 1) (x := a * x + b * y + c) (m := 1) (n := 200000) (by omega) (by omega) (by omega) (by omega)
  have m4 := mul_abs_bd (a := 2 * m - 1) (x := x) (m := 1) (n := 12) (by omega) (by omega) (by omega) (by omega)
  have m5 := mul_abs_bd (a := 2 * m - 1) (x := y) (m := 1) (n := 12) (by omega) (by omega) (by omega) (by omega)
  exact ⟨IntWalk.i64_in _ (by omega), IntWalk.i64_in _ (by omega), IntWalk.i64_in _ (by omega), IntWalk.i64_in _ (by omega), IntWalk.i64_in _ (by omega), IntWalk.i64_in _ (by omega), IntWalk.i64_in _ (by omega), IntWalk.i64_in _ (by omega), IntWalk.i64_in _ (by omega), IntWalk.i64_in _ (by omega), IntWalk.i64_in _ (by omega), IntWalk.i64_in _ (by omega)⟩

set_option maxRecDepth 20000 in
set_option maxHeartbeats 4000000 in
theorem turns_c (u v z : Value) (xs ys ms : List Int) (w : World) (hx : Rd w u xs) (hy : Rd w v ys) (hz : Rd w z ms) (hok : okPart xs ys ms = true) :
    Calls Try.prog 25 #[u, v, z] w fun e w' => ∃ v', e = .returned (.tuple #[v', .int .i64 (partX xs ys ms).2.1, .bool (partX xs ys ms).2.2]) ∧ Sl w' w.heap.size v' (partX xs ys ms).1 ∧ Below w.heap.size w w' := by
  obtain ⟨hma, ⟨hl1, hl2, hxa, hya⟩, hl3, hl4⟩ := okPart_iff.1 hok
  have hxb := at_all hxa (by omega)
  have hyb := at_all hya (by omega)
  have hmb := mark_at hma
  have HX := hide (partX_ok hok)
  have hcx := hx
  have hcy := hy
  have hcz := hz
  obtain ⟨A1, c1, rfl, hc1, hm1, hd1⟩ := hx
  obtain ⟨A2, c2, rfl, hc2, hm2, hd2⟩ := hy
  obtain ⟨A3, c3, rfl, hc3, hm3, hd3⟩ := hz
  clear hd1 hd2 hd3
  obtain ⟨g1, o1, rfl, hg1, hcl1⟩ := hcx.at hl4
  obtain ⟨g2, o2, rfl, hg2, hcl2⟩ := hcy.at (by omega)
  obtain ⟨g3, o3, rfl, hg3, hcl3⟩ := hcz.at (by omega)
  rw [← hl1] at hcl2 hc2 ⊢
  rw [← hl3] at hcl3 hc3 ⊢
  obtain ⟨N, hN⟩ : ∃ N, xs.length = N := ⟨_, rfl⟩
  have HN := hide hN
  rw [hN] at hcl1 hcl2 hcl3 hc1 hc2 hc3 hl2 hl4 ⊢
  clear hN hma hxa hya hl1 hl3 hok hcx hcy hcz
  go_enter Try.func25, Try.ntmps25
  go_wp2_with fail
  go_loopw [9, 10, 11, 12, 13, 14] (fun l n r cl i s wr => ∃ (a b c t : Int) (k g : Nat), k ≤ 60 ∧ r = .int .i64 k ∧ n = .int .i64 t ∧ l = .slice (some ⟨g, 0, none⟩) 3 3 ∧ w.heap.size ≤ g ∧ wr.heap[g]? = some (.cells #[.int .i64 a, .int .i64 b, .int .i64 c] 3 (0, 0)) ∧ okP ⟨a, b, c, t⟩ (7 * k) ∧ Hid (runP xs ys ms 60 zeroP = runP xs ys ms (60 - k) ⟨a, b, c, t⟩) ∧ Below w.heap.size w wr) (fun _ _ r _ _ _ _ => 60 - (intOf r).toNat)
  case atStart => exact ⟨0, 0, 0, 0, 0, w.heap.size, by omega, rfl, rfl, rfl, Nat.le_refl _, heap_alloc_new w _, by simp [okP], by show _ = _; rfl, (Below.refl _ _).alloc (Nat.le_refl _) _⟩
  case round =>
    obtain ⟨a, b, c, t, k, g, hk, rfl, rfl, rfl, hg, hG, hP, hrun, hbel⟩ := hrel
    by_cases hlt : k < 60
    · have hkd : decide ((k : Int) < 60) = true := decide_eq_true (by omega)
      go_wp2_with fail
      try simp only [hkd]
      go_loopw [9, 10, 12, 13, 14] (fun l n cl i s wr => ∃ (a' b' c' t' : Int) (j g' : Nat), j ≤ N ∧ i = .int .i64 j ∧ Hid (roundP xs ys ms ⟨a, b, c, t⟩ j = ⟨a', b', c', t'⟩) ∧ n = .int .i64 t' ∧ l = .slice (some ⟨g', 0, none⟩) 3 3 ∧ w.heap.size ≤ g' ∧ wr.heap[g']? = some (.cells #[.int .i64 a', .int .i64 b', .int .i64 c'] 3 (0, 0)) ∧ cl = .bool (decide (t' = t)) ∧ Below w.heap.size w wr) (fun _ _ _ i _ _ => N - (intOf i).toNat)
      case atStart => exact ⟨a, b, c, t, 0, g, Nat.zero_le _, rfl, rfl, rfl, rfl, hg, hG, by simp, hbel⟩
      case round =>
        obtain ⟨a', b', c', t', j, g', hj, rfl, hq, rfl, rfl, hg', hG', rfl, hbel'⟩ := hrel
        by_cases hjl : j < N
        · have hc1 := (hbel'.cell (p := ⟨g1, o1 + j, none⟩) hg1).trans (hcl1 j hjl)
          have hc2 := (hbel'.cell (p := ⟨g2, o2 + j, none⟩) hg2).trans (hcl2 j hjl)
          have hc3 := (hbel'.cell (p := ⟨g3, o3 + j, none⟩) hg3).trans (hcl3 j hjl)
          have HR := hide (roundP_succ xs ys ms ⟨a, b, c, t⟩ j)
          have hPj := okP_round hxb hyb hmb hP j
          rw [hq.out] at HR hPj
          have hxj := hxb j
          have hyj := hyb j
          have hmj := hmb j
          obtain ⟨x, hxe⟩ : ∃ x, atL xs j = x := ⟨_, rfl⟩
          obtain ⟨y, hye⟩ : ∃ x, atL ys j = x := ⟨_, rfl⟩
          obtain ⟨m, hme⟩ : ∃ x, atL ms j = x := ⟨_, rfl⟩
          rw [hxe] at HR hxj hc1
          rw [hye] at HR hyj hc2
          rw [hme] at HR hmj hc3
          obtain ⟨f1, f2, f3, f4, f5, f6, f7, f8, f9, f10, f11, f12⟩ := turn_bd hPj (by omega) hxj hyj hmj
          have ht := roundP_t xs ys ms ⟨a, b, c, t⟩ j
          rw [hq.out] at ht
          have ht' : t ≤ t' := ht
          have htb : 0 ≤ t' ∧ t' ≤ 7 * k + j := hPj.2.2.2
          have q0 : wr.cell? ⟨g', 0, none⟩ = some (.int .i64 a') := blk_cell hG' 0
          have q1 : wr.cell? ⟨g', 1, none⟩ = some (.int .i64 b') := blk_cell hG' 1
          have q2 : wr.cell? ⟨g', 2, none⟩ = some (.int .i64 c') := blk_cell hG' 2
          have hjN : (j : Int) < (N : Int) := by omega
          have HSd : Hid (sideP x y m ⟨a', b', c', t'⟩ = (2 * m - 1) * (a' * x + b' * y + c')) := rfl
          clear hcl1 hcl2 hcl3 hxe hye hme hP hPj ht hxb hyb hmb hq hxj hyj hmj
          by_cases cs : (2 * m - 1) * (a' * x + b' * y + c') ≤ 0
          · have HSt := hide (stepP_yes (x := x) (y := y) (m := m) (s := ⟨a', b', c', t'⟩) (by rw [HSd.out]; exact cs))
            go_wp2_with fail
            go_quiet (fail)
            go_wp2_with fail
            refine wp_region_quiet_tail 25 (by kernel_rfl) (by kernel_rfl) ?_
            simp only [List.take_succ_cons, List.take_zero, List.drop_succ_cons, List.drop_zero]
            repeat (go_big_quiet_step (fail))
            refine wpQuiet_nil ?_
            intro _ hw'
            obtain ⟨nq2, rfl⟩ := hw'
            go_wp2_with fail
            go_roundw
            case rel => exact ⟨a' + (2 * m - 1) * x, b' + (2 * m - 1) * y, c' + (2 * m - 1), t' + 1, j + 1, wr.heap.size, by omega, by go_num, by show _ = _; rw [HR.out, HSt.out], rfl, rfl, hbel'.size, heap_alloc_new _ _, by rw [decide_eq_false (show ¬ t' + 1 = t by omega)], (below_drewN hbel' _).alloc hbel'.size _⟩
            case measure => simp [intOf]; omega
          · have HSt := hide (stepP_no (x := x) (y := y) (m := m) (s := ⟨a', b', c', t'⟩) (by rw [HSd.out]; exact cs))
            have hcd : decide ((2 * m - 1) * (a' * x + b' * y + c') ≤ 0) = false := decide_eq_false cs
            go_wp2_with fail
            go_quiet (fail)
            go_wp2_with fail
            go_roundw
            case rel => exact ⟨a', b', c', t', j + 1, g', by omega, by go_num, by show _ = _; rw [HR.out, HSt.out], rfl, rfl, hg', hG', rfl, below_drewN hbel' _⟩
            case measure => simp [intOf]; omega
        · obtain rfl : j = N := by omega
          have hPN := okP_round hxb hyb hmb hP j
          rw [hq.out] at hPN
          clear hcl1 hcl2 hcl3
          by_cases hte : t' = t
          · have hclean : (roundP xs ys ms ⟨a, b, c, t⟩ xs.length).t = (⟨a, b, c, t⟩ : PL).t := by rw [HN.out, hq.out]; exact hte
            have he := (round_clean hclean).1
            rw [HN.out, hq.out] at he
            injection he with e1 e2 e3 e4
            subst e1 e2 e3 e4
            obtain ⟨f, hf⟩ : ∃ f, 60 - k = f + 1 := ⟨59 - k, by omega⟩
            have HF : Hid (partX xs ys ms = ([a', b', c'], t', true)) := by show _ = _; rw [HX.out, hrun.out, hf, runP_clean f hclean]
            clear hclean hq hP hPN hxb hyb hmb hrun hf
            go_wp2_with fail
            go_ret3
            rw [HF.out]
            exact ⟨_, rfl, sl_of_blk hG' hg', hbel'⟩
          · have hnc : ¬ (roundP xs ys ms ⟨a, b, c, t⟩ xs.length).t = (⟨a, b, c, t⟩ : PL).t := by rw [HN.out, hq.out]; exact hte
            obtain ⟨f, hf⟩ : ∃ f, 60 - k = f + 1 := ⟨59 - k, by omega⟩
            have HF : Hid (runP xs ys ms 60 zeroP = runP xs ys ms (60 - (k + 1)) ⟨a', b', c', t'⟩) := by
              show _ = _
              rw [hrun.out, hf, runP_next f hnc, HN.out, hq.out, show 60 - (k + 1) = f from by omega]
            have HP2 := hide (okP_mono hPN (show 7 * (k : Int) + j ≤ 7 * ((k + 1 : Nat) : Int) by omega))
            have htd : decide (t' = t) = false := decide_eq_false hte
            rw [htd]
            clear hnc hq hP hPN hxb hyb hmb hrun hf hte htd hkd
            go_wp2_with fail
            go_roundw
            case rel => exact ⟨a', b', c', t', k + 1, g', by omega, by go_num, rfl, rfl, hg', hG', HP2.out, HF, hbel'⟩
            case measure => simp [intOf]; omega
    · have hk6 : k = 60 := by omega
      have HF : Hid (partX xs ys ms = ([], t, false)) := by show _ = _; rw [HX.out, hrun.out, hk6]; rfl
      have hkd : ¬ (k : Int) < 60 := by omega
      clear hk6
      clear hrun hP hxb hyb hmb hcl1 hcl2 hcl3
      go_wp2_with fail
      go_ret3
      rw [HF.out]
      exact ⟨_, rfl, Sl.nil _ _, hbel⟩
end Go.Proofs.Ytcmjmnlccempfaa
