/-
  Contract: TwoSides of the program.
-/
import Derived.Test.YtgclgcfhcomplaaTwoP
import Derived.Test.YtgclgcfhcomplaaQTail
namespace Go.Proofs.Ytgclgcfhcomplaa
open Go.RowKit

set_option maxHeartbeats 2000000 in
theorem part_q (F : FuncId) (C : Array Value) (may : Nat → Bool) (n : Nat) (u v : Int) (w : World) (hn : n ≤ 10) (hu : 0 ≤ u) (huv : u ≤ v) (hv : v ≤ 12)
    (hcf : ∀ (args : Array Value) (w : World), (callFunc F args).run Try.prog w = .ok (.enter F args) w)
    (hmay : ∀ (h m : Nat), h ≤ n → Calls Try.prog F (#[.int .i64 h] ++ C) (w.drewN m) fun e w'' => e = .returned (.bool (may h)) ∧ ∃ m', w'' = w.drewN m') :
    Calls Try.prog 58 #[.int .i64 n, .int .i64 u, .int .i64 v, .func (.func F) #[] C] w fun e w' => e = .returned (.int .i64 (partN may n u (v - u) (n + 1))) ∧ ∃ m, w' = w.drewN m := by
  have HM := hide hmay
  clear hmay
  go_enter Try.func58, Try.ntmps58
  go_wp2_with fail
  go_loopw [9, 10] (fun o i wr => ∃ h : Nat, h ≤ n + 1 ∧ i = .int .i64 h ∧ o = .int .i64 (partN may n u (v - u) h) ∧ ∃ m, wr = w.drewN m) (fun _ i _ => n + 1 - (intOf i).toNat)
  case atStart => exact ⟨0, Nat.zero_le _, rfl, rfl, 0, rfl⟩
  case round =>
    obtain ⟨h, hh, rfl, rfl, m, rfl⟩ := hrel
    by_cases hlt : h ≤ n
    · have hS := partN_bd may (u := u) (w := v - u) hu (by omega) (by omega) hn h (by omega)
      have hT := termN_bd (u := u) (w := v - u) hu (by omega) (by omega) hn h hlt
      have hP := powN_bd12 (x := u + (v - u)) (by omega) (n := n) hn
      have HS := hide (partN_succ may n u (v - u) h)
      obtain ⟨S, hS'⟩ : ∃ S, partN may n u (v - u) h = S := ⟨_, rfl⟩
      obtain ⟨T, hT'⟩ : ∃ T, termN n h u (v - u) = T := ⟨_, rfl⟩
      obtain ⟨P, hP'⟩ : ∃ P, powN (u + (v - u)) n = P := ⟨_, rfl⟩
      obtain ⟨b, hb⟩ : ∃ b, may h = b := ⟨_, rfl⟩
      rw [hS', hT', hb] at HS
      rw [hS'] at hS ⊢
      rw [hT', hP'] at hT
      rw [hP'] at hP
      have HB := hide hb
      have HT := hide hT'
      clear hS' hT' hP' hb
      go_wp2_with fail
      refine (HM.out h m hlt).mono ?_
      rw [HB.out]
      rintro e w2 ⟨rfl, m2, rfl⟩
      cases b
      · go_wp2_with fail
        go_roundw
        case rel => exact ⟨h + 1, by omega, by go_num, by rw [HS.out]; simp, m2, rfl⟩
        case measure => simp [intOf]; omega
      · go_wp2_with fail
        refine (exactI_c n h u v _ hn hlt hu huv hv).mono ?_
        rw [HT.out]
        rintro e w3 ⟨rfl, rfl⟩
        go_wp2_with fail
        go_roundw
        case rel => exact ⟨h + 1, by omega, by go_num, by rw [HS.out]; simp, m2, rfl⟩
        case measure => simp [intOf]; omega
    · obtain rfl : h = n + 1 := by omega
      obtain ⟨S, hS'⟩ : ∃ S, partN may n u (v - u) (n + 1) = S := ⟨_, rfl⟩
      rw [hS']
      have HS := hide hS'
      clear hS'
      go_wp2_with fail
      go_ret
      exact ⟨ret_int HS.out.symm, m, rfl⟩

theorem callFuncTwo3 (args : Array Value) (w : World) : (callFunc 75 args).run Try.prog w = .ok (.enter 75 args) w := by kernel_rfl

set_option maxHeartbeats 1000000 in
theorem two5_c (n h k : Nat) (u v : Int) (p q r f s : Nat) (w : World) (hn : n ≤ 10) (hh : h ≤ n) (hk : k ≤ n) (hu : 0 ≤ u ∧ u ≤ 12) (hv : 0 ≤ v ∧ v ≤ 12)
    (hp : w.cell? ⟨p, 0, none⟩ = some (.int .i64 n)) (hq : w.cell? ⟨q, 0, none⟩ = some (.int .i64 v)) (hr : w.cell? ⟨r, 0, none⟩ = some (.int .i64 u))
    (hf : w.cell? ⟨f, 0, none⟩ = some (.func (.func 75) #[] #[.pointer (some ⟨p, 0, none⟩), .pointer (some ⟨q, 0, none⟩), .pointer (some ⟨r, 0, none⟩)])) (hs : w.cell? ⟨s, 0, none⟩ = some (.int .i64 k)) :
    Calls Try.prog 78 #[.int .i64 h, .pointer (some ⟨f, 0, none⟩), .pointer (some ⟨s, 0, none⟩)] w fun e w' => e = .returned (.bool (farP n k u v h)) ∧ ∃ m, w' = w.drewN m := by
  have HB := hide (farI_eq hk hh u v)
  have hcf := callFuncTwo3
  have c1 := fun m => two3_c n h u v p q r (w.drewN m) hn (by omega) hu hv hp hq hr
  have c2 := fun m => two3_c n k u v p q r (w.drewN m) hn (by omega) hu hv hp hq hr
  obtain ⟨X, hX⟩ : ∃ L, farI n u v h = L := ⟨_, rfl⟩
  obtain ⟨Y, hY⟩ : ∃ L, farI n u v k = L := ⟨_, rfl⟩
  rw [hX, hY] at HB
  simp only [hX] at c1
  simp only [hY] at c2
  have C1 := hide c1
  have C2 := hide c2
  clear hX hY c1 c2 hp hq hr
  go_enter Try.func78, Try.ntmps78
  go_wp2_with fail
  go_quiet ((go_at_call 75; first | with_reducible exact quiet_eq (C1.out _) | with_reducible exact quiet_eq (C2.out _)))
  go_wp2
  go_ret
  exact ⟨ret_bool HB.out, _, rfl⟩

theorem box_new (w : World) (t : TypeId) (a : Value) : (w.alloc (.cells #[a] t)).cell? ⟨w.heap.size, 0, none⟩ = some a := cell_of_row _ w.heap.size 0 #[a] t (0, 0) (heap_alloc_new w _)
theorem box_past (w : World) (o : Obj) {B : Nat} {a : Value} (hB : B < w.heap.size) (h : w.cell? ⟨B, 0, none⟩ = some a) : (w.alloc o).cell? ⟨B, 0, none⟩ = some a :=
  (((Below.refl w.heap.size w).alloc (Nat.le_refl _) o).cell (p := ⟨B, 0, none⟩) hB).trans h
/-- Four numbers in blocks of their own. -/
theorem boxes4 (w : World) (t : TypeId) (a b c d : Value) : ∃ W : World, (((w.alloc (.cells #[a] t)).alloc (.cells #[b] t)).alloc (.cells #[c] t)).alloc (.cells #[d] t) = W ∧ Below w.heap.size w W ∧ W.heap.size = w.heap.size + 4 ∧
    W.cell? ⟨w.heap.size, 0, none⟩ = some a ∧ W.cell? ⟨w.heap.size + 1, 0, none⟩ = some b ∧ W.cell? ⟨w.heap.size + 1 + 1, 0, none⟩ = some c ∧ W.cell? ⟨w.heap.size + 1 + 1 + 1, 0, none⟩ = some d := by
  have s1 := size_alloc' w (.cells #[a] t)
  have s2 := size_alloc' (w.alloc (.cells #[a] t)) (.cells #[b] t)
  have s3 := size_alloc' ((w.alloc (.cells #[a] t)).alloc (.cells #[b] t)) (.cells #[c] t)
  have s4 := size_alloc' (((w.alloc (.cells #[a] t)).alloc (.cells #[b] t)).alloc (.cells #[c] t)) (.cells #[d] t)
  have b1 := box_new w t a
  have b2 := box_new (w.alloc (.cells #[a] t)) t b
  have b3 := box_new ((w.alloc (.cells #[a] t)).alloc (.cells #[b] t)) t c
  have b4 := box_new (((w.alloc (.cells #[a] t)).alloc (.cells #[b] t)).alloc (.cells #[c] t)) t d
  rw [s1] at s2 b2
  rw [s2] at s3 b3
  rw [s3] at s4 b4
  refine ⟨_, rfl, by (repeat (first | exact Below.refl _ _ | assumption | refine Below.setCell ?_ (by first | (simp; done) | omega | (simp; omega) | (simp at *; omega)) _ | refine Below.drew ?_ | refine below_drewN ?_ _ | refine below_alloc' ?_ _ | refine below_to' ?_ (by assumption))), by rw [s4], ?_, ?_, ?_, b4⟩
  · exact box_past _ _ (by omega) (box_past _ _ (by omega) (box_past _ _ (by omega) b1))
  · exact box_past _ _ (by omega) (box_past _ _ (by omega) b2)
  · exact box_past _ _ (by omega) b3
theorem cells4 {W w' : World} {B : Nat} (hb : Below W.heap.size W w') (hW : W.heap.size = B + 4) {a b c d : Value} (ha : W.cell? ⟨B, 0, none⟩ = some a) (hB : W.cell? ⟨B + 1, 0, none⟩ = some b) (hc : W.cell? ⟨B + 1 + 1, 0, none⟩ = some c) (hd : W.cell? ⟨B + 1 + 1 + 1, 0, none⟩ = some d) :
    w'.cell? ⟨B, 0, none⟩ = some a ∧ w'.cell? ⟨B + 1, 0, none⟩ = some b ∧ w'.cell? ⟨B + 1 + 1, 0, none⟩ = some c ∧ w'.cell? ⟨B + 1 + 1 + 1, 0, none⟩ = some d :=
  ⟨(hb.cell (p := ⟨B, 0, none⟩) (by show B < _; omega)).trans ha, (hb.cell (p := ⟨B + 1, 0, none⟩) (by show B + 1 < _; omega)).trans hB, (hb.cell (p := ⟨B + 1 + 1, 0, none⟩) (by show B + 1 + 1 < _; omega)).trans hc, (hb.cell (p := ⟨B + 1 + 1 + 1, 0, none⟩) (by show B + 1 + 1 + 1 < _; omega)).trans hd⟩

set_option maxHeartbeats 4000000 in
theorem TwoI_c (n k u v : Int) (w : World) : Calls Try.prog 28 #[.int .i64 n, .int .i64 k, .int .i64 u, .int .i64 v] w fun e w' =>
    ∃ v', e = .returned v' ∧ Sl w' w.heap.size v' (twoL n k u v) ∧ Below w.heap.size w w' := by
  have hmf : ∀ (fn : Fn) (first cap : Array Value) (w : World), (Instr.makeFunc fn first cap).run Try.prog w = .ok (.func fn first cap) w := fun _ _ _ _ => rfl
  have hst : ∀ (fn : Fn) (first cap : Array Value) (a : Addr) (m : Mode) (w : World), (store a (.func fn first cap) m).run Try.prog w = stored Try.prog w a (.func fn first cap) m := fun _ _ _ a m w => run_store Try.prog w a _ m rfl
  obtain ⟨W, hW, hbW, hWs, hWn, hWk, hWu, hWv⟩ := boxes4 w 3 (.int .i64 n) (.int .i64 k) (.int .i64 u) (.int .i64 v)
  cases hok : okTries n u v
  · have HB := hide (twoL_bad (n := n) (k := k) (u := u) (v := v) (by rw [okTwoS, hok]; rfl))
    have HK := hide hok
    clear hok
    go_enter Try.func28, Try.ntmps28
    go_wp2_with fail
    refine (triesI_c n u v false _ HK.out).mono ?_
    rintro e w' ⟨rfl, rfl⟩
    go_wp2_with fail
    go_ret
    exact ⟨_, rfl, by rw [HB.out]; exact Sl.nil _ _, hbW⟩
  · cases hk : (decide (0 ≤ k) && decide (k ≤ n))
    · have HB := hide (twoL_bad (n := n) (k := k) (u := u) (v := v) (by rw [okTwoS, hok, hk]; rfl))
      have HK := hide hok
      have HK2 := hide hk
      clear hok hk
      go_enter Try.func28, Try.ntmps28
      go_wp2_with fail
      refine (triesI_c n u v true _ HK.out).mono ?_
      rintro e w' ⟨rfl, rfl⟩
      go_wp2_with fail
      refine (in_c false _ _ _ _ HK2.out).mono ?_
      rintro e w' ⟨rfl, rfl⟩
      go_wp2_with fail
      go_ret
      exact ⟨_, rfl, by rw [HB.out]; exact Sl.nil _ _, hbW⟩
    · obtain ⟨⟨h1, h2⟩, ⟨h3, h4⟩, h5, h6⟩ := okTries_iff.1 hok
      have hk' : 0 ≤ k ∧ k ≤ n := by simpa using hk
      obtain ⟨N, rfl⟩ := Int.eq_ofNat_of_zero_le h1
      obtain ⟨K, rfl⟩ := Int.eq_ofNat_of_zero_le hk'.1
      have HB := hide (twoL_ok (n := N) (k := K) (u := u) (v := v) (by rw [okTwoS, hok, hk]; rfl))
      have HK := hide hok
      have HK2 := hide hk
      clear hok hk
      have hbH := partN_bd (fun h => decide ((K : Int) ≤ (h : Int))) (u := u) (w := v - u) h5 (by omega) (by omega) (n := N) (by omega) (N + 1) (Nat.le_refl _)
      have hbD := partN_bd (fun h => decide (h ≤ K)) (u := u) (w := v - u) h5 (by omega) (by omega) (n := N) (by omega) (N + 1) (Nat.le_refl _)
      have hpw := powN_bd12 (x := v) (by omega) (n := N) (by omega)
      have hbH' : 0 ≤ tailN N K u v ∧ tailN N K u v ≤ 61917364224 * ((N + 1 : Nat) : Int) := hbH
      have hbD' : 0 ≤ downN N K u v ∧ downN N K u v ≤ 61917364224 * ((N + 1 : Nat) : Int) := hbD
      clear hbH hbD
      have C1 := hide fun (w1 : World) (hb : Below W.heap.size W w1) => part_c 73 #[.pointer (some ⟨w.heap.size + 1, 0, none⟩)] (fun h => decide ((K : Int) ≤ (h : Int))) N u v w1 (by omega) h5 h6 h4 callFuncTwo1 (fun h w' _ hb' => two1_c h K (w.heap.size + 1) w' ((cells4 (below_to' hb hb') hWs hWn hWk hWu hWv).2.1))
      have C2 := hide fun (w1 : World) (hb : Below W.heap.size W w1) => part_c 74 #[.pointer (some ⟨w.heap.size + 1, 0, none⟩)] (fun h => decide (h ≤ K)) N u v w1 (by omega) h5 h6 h4 callFuncTwo2 (fun h w' _ hb' => (two2_c h K (w.heap.size + 1) w' ((cells4 (below_to' hb hb') hWs hWn hWk hWu hWv).2.1)).mono fun e w2 h2 => by simpa using h2)
      have C4 := hide fun (w3 : World) (m : Nat) (hb : Below W.heap.size W w3) => part_q 76 #[.pointer (some ⟨w.heap.size, 0, none⟩), .pointer (some ⟨w.heap.size + 1 + 1, 0, none⟩), .pointer (some ⟨w.heap.size + 1 + 1 + 1, 0, none⟩), .pointer (some ⟨w.heap.size + 1, 0, none⟩)] (likelyP N K u v) N u v (w3.drewN m) (by omega) h5 h6 h4 callFuncTwo4
        (fun h m' hh => by
          obtain ⟨g1, g2, g3, g4⟩ := cells4 hb hWs hWn hWk hWu hWv
          exact Calls.quiet_of (two4_c N h K u v _ _ _ _ _ (by omega) hh (by omega) h5 h6 h4 g1 g3 g4 g2))
      have C5 := hide fun (w3 : World) (m : Nat) (F : Nat) (hb : Below W.heap.size W w3) (hf : w3.cell? ⟨F, 0, none⟩ = some (.func (.func 75) #[] #[.pointer (some ⟨w.heap.size, 0, none⟩), .pointer (some ⟨w.heap.size + 1 + 1 + 1, 0, none⟩), .pointer (some ⟨w.heap.size + 1 + 1, 0, none⟩)])) =>
        part_q 78 #[.pointer (some ⟨F, 0, none⟩), .pointer (some ⟨w.heap.size + 1, 0, none⟩)] (farP N K u v) N u v (w3.drewN m) (by omega) h5 h6 h4 callFuncTwo5
        (fun h m' hh => by
          obtain ⟨g1, g2, g3, g4⟩ := cells4 hb hWs hWn hWk hWu hWv
          exact Calls.quiet_of (two5_c N h K u v _ _ _ F _ _ (by omega) hh (by omega) (by omega) (by omega) g1 g4 g3 hf g2))
      have e1 : partN (fun h => decide ((K : Int) ≤ (h : Int))) N u (v - u) (N + 1) = tailN N K u v := rfl
      have e3 : partN (fun h => decide (h ≤ K)) N u (v - u) (N + 1) = downN N K u v := rfl
      rw [e1] at C1
      rw [e3] at C2
      obtain ⟨A, hA⟩ : ∃ A, powN v N = A := ⟨_, rfl⟩
      obtain ⟨H, hH⟩ : ∃ H, tailN N K u v = H := ⟨_, rfl⟩
      obtain ⟨D, hD⟩ : ∃ D, downN N K u v = D := ⟨_, rfl⟩
      obtain ⟨L, hL⟩ : ∃ L, partN (likelyP N K u v) N u (v - u) (N + 1) = L := ⟨_, rfl⟩
      obtain ⟨F, hF⟩ : ∃ L, partN (farP N K u v) N u (v - u) (N + 1) = L := ⟨_, rfl⟩
      rw [hA] at hpw
      rw [hH] at hbH' C1
      rw [hD] at hbD' C2
      rw [hL] at C4
      rw [hF] at C5
      rw [hA, hH, hD, hL, hF] at HB
      have HA := hide hA
      clear hA hH hD hL hF e1 e3
      go_enter Try.func28, Try.ntmps28
      go_wp2_with fail
      refine (triesI_c N u v true _ HK.out).mono ?_
      rintro e w' ⟨rfl, rfl⟩
      go_wp2_with fail
      refine (in_c true _ _ _ _ HK2.out).mono ?_
      rintro e w' ⟨rfl, rfl⟩
      go_wp2_with fail
      refine (powerI_c v N _ (by omega) (by omega)).mono ?_
      rw [HA.out]
      rintro e w' ⟨rfl, rfl⟩
      go_wp2_with fail
      refine (C1.out _ (Below.refl _ _)).mono ?_
      rintro e w1 ⟨rfl, hb1⟩
      obtain ⟨g1, g2, g3, g4⟩ := cells4 hb1 hWs hWn hWk hWu hWv
      go_wp2_with fail
      refine (C2.out _ hb1).mono ?_
      rintro e w2 ⟨rfl, hb2⟩
      have hbW2 := below_to' hb1 hb2
      obtain ⟨g1, g2, g3, g4⟩ := cells4 hbW2 hWs hWn hWk hWu hWv
      go_wp2_with fail
      have hbW3 := below_alloc' hbW2 (.cells #[.func (.func 75) #[] #[.pointer (some ⟨w.heap.size, 0, none⟩), .pointer (some ⟨w.heap.size + 1 + 1 + 1, 0, none⟩), .pointer (some ⟨w.heap.size + 1 + 1, 0, none⟩)]] 63)
      have hf3 := box_new w2 63 (.func (.func 75) #[] #[.pointer (some ⟨w.heap.size, 0, none⟩), .pointer (some ⟨w.heap.size + 1 + 1 + 1, 0, none⟩), .pointer (some ⟨w.heap.size + 1 + 1, 0, none⟩)])
      have hl3 : w2.heap.size < (w2.alloc (.cells #[.func (.func 75) #[] #[.pointer (some ⟨w.heap.size, 0, none⟩), .pointer (some ⟨w.heap.size + 1 + 1 + 1, 0, none⟩), .pointer (some ⟨w.heap.size + 1 + 1, 0, none⟩)]] 63)).heap.size := by simp
      obtain ⟨w3, hw3⟩ : ∃ w3, w2.alloc (.cells #[.func (.func 75) #[] #[.pointer (some ⟨w.heap.size, 0, none⟩), .pointer (some ⟨w.heap.size + 1 + 1 + 1, 0, none⟩), .pointer (some ⟨w.heap.size + 1 + 1, 0, none⟩)]] 63) = w3 := ⟨_, rfl⟩
      rw [hw3] at hbW3 hf3 hl3 ⊢
      obtain ⟨k1, k2, k3, k4⟩ := cells4 hbW3 hWs hWn hWk hWu hWv
      obtain ⟨F0, hF0⟩ : ∃ F0, w2.heap.size = F0 := ⟨_, rfl⟩
      rw [hF0] at hf3 hl3 ⊢
      clear hF0
      have K4 := hide fun m => C4.out w3 m hbW3
      have K5 := hide fun m => C5.out w3 m F0 hbW3 hf3
      clear hbW2 hb2 hb1 hWn hWk hWu hWv C1 C2 C4 C5 g1 g2 g3 g4 hW
      have hw1 : IntKind.i64.wrap (2 * D) = 2 * D := IntWalk.i64_in _ (by omega)
      have hw2 : IntKind.i64.wrap (2 * H) = 2 * H := IntWalk.i64_in _ (by omega)
      have hb3 : Below w.heap.size w w3 := hbW.trans (hbW3.mono (by omega))
      by_cases m1 : D < H
      all_goals by_cases m2 : 2 * D < A
      all_goals by_cases m3 : 2 * H < A
      all_goals try (exfalso; omega)
      all_goals
        refine wp_region_quiet_tail 16 (by kernel_rfl) (by kernel_rfl) ?_
        simp only [List.take_succ_cons, List.take_zero, List.drop_succ_cons, List.drop_zero]
        repeat (go_big_quiet_step ((go_at_call 58; first | with_reducible exact Calls.quiet_of (K4.out _) | with_reducible exact Calls.quiet_of (K5.out _))))
        refine wpQuiet_nil ?_
        intro _ hw'
        obtain ⟨nq, rfl⟩ := hw'
        go_wp2_with fail
        go_ret
        refine ⟨_, rfl, ?_, by (repeat (first | exact Below.refl _ _ | assumption | refine Below.setCell ?_ (by first | (simp; done) | omega | (simp; omega) | (simp at *; omega)) _ | refine Below.drew ?_ | refine below_drewN ?_ _ | refine below_alloc' ?_ _ | refine below_to' ?_ (by assumption)))⟩
        have hz := hb3.size
        rw [HB.out]
        first
          | (rw [show min (2 * min H D) A = 2 * H from by omega]; exact lit_sl [2 * H, L, F] rfl rfl rfl (by simp) (by simpa using hz))
          | (rw [show min (2 * min H D) A = 2 * D from by omega]; exact lit_sl [2 * D, L, F] rfl rfl rfl (by simp) (by simpa using hz))
          | (rw [show min (2 * min H D) A = A from by omega]; exact lit_sl [A, L, F] rfl rfl rfl (by simp) (by simpa using hz))
end Go.Proofs.Ytgclgcfhcomplaa
