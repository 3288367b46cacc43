/-
  Contract: the places of the middle, in the program.
-/
import Derived.Test.YtgclgcfhcomplaaMid
import Derived.Test.YtgclgcfhcomplaaTwoJ
import Derived.Test.YtgclgcfhcomplaaDraw
namespace Go.Proofs.Ytgclgcfhcomplaa
open Go.RowKit

theorem callFuncMid1 (args : Array Value) (w : World) : (callFunc 59 args).run Try.prog w = .ok (.enter 59 args) w := by kernel_rfl
theorem callFuncMid2 (args : Array Value) (w : World) : (callFunc 60 args).run Try.prog w = .ok (.enter 60 args) w := by kernel_rfl

set_option maxHeartbeats 400000 in
theorem mid1_c (h j : Nat) (p : Nat) (w : World) (hp : w.cell? ⟨p, 0, none⟩ = some (.int .i64 j)) :
    Calls Try.prog 59 #[.int .i64 h, .pointer (some ⟨p, 0, none⟩)] w fun e w' => e = .returned (.bool (decide (h < j))) ∧ Below w.heap.size w w' := by
  go_enter Try.func59, Try.ntmps59
  go_wp2
  go_ret
  exact ⟨ret_bool (by simp), Below.refl _ _⟩

set_option maxHeartbeats 400000 in
theorem mid2_c (h j n : Nat) (p q : Nat) (w : World) (hn : n ≤ 10) (hj : j ≤ n) (hp : w.cell? ⟨p, 0, none⟩ = some (.int .i64 j)) (hq : w.cell? ⟨q, 0, none⟩ = some (.int .i64 n)) :
    Calls Try.prog 60 #[.int .i64 h, .pointer (some ⟨p, 0, none⟩), .pointer (some ⟨q, 0, none⟩)] w fun e w' => e = .returned (.bool (decide (j ≤ h) && decide (h ≤ n - j))) ∧ ∃ m, w' = w.drewN m := by
  have HB : Hid ((decide ((j : Int) ≤ (h : Int)) && decide ((h : Int) ≤ (n : Int) - (j : Int))) = (decide (j ≤ h) && decide (h ≤ n - j))) := by
    show _ = _
    rw [Bool.eq_iff_iff]
    simp
    omega
  go_enter Try.func60, Try.ntmps60
  go_wp2_with fail
  refine (in_c _ _ _ _ _ HB.out).mono ?_
  rintro e w' ⟨rfl, rfl⟩
  go_wp2_with fail
  go_ret
  exact ⟨rfl, 0, rfl⟩

set_option maxHeartbeats 4000000 in
theorem MidI_c (n a b : Int) (w : World) : Calls Try.prog 19 #[.int .i64 n, .int .i64 a, .int .i64 b] w fun e w' =>
    e = .returned (.tuple #[.int .i64 (midX n a b), .int .i64 (midY n a b)]) ∧ Below w.heap.size w w' := by
  have hmf : ∀ (fn : Fn) (first cap : Array Value) (w : World), (Instr.makeFunc fn first cap).run Try.prog w = .ok (.func fn first cap) w := fun _ _ _ _ => rfl
  obtain ⟨W, hW, hbW, hWs, hWn⟩ : ∃ W, w.alloc (.cells #[.int .i64 n] 3) = W ∧ Below w.heap.size w W ∧ W.heap.size = w.heap.size + 1 ∧ W.cell? ⟨w.heap.size, 0, none⟩ = some (.int .i64 n) := ⟨_, rfl, (Below.refl _ _).alloc (Nat.le_refl _) _, by simp, box_new _ _ _⟩
  cases h1 : (decide (1 ≤ n) && decide (n ≤ 10))
  · have HX := hide (mid_bad (n := n) (a := a) (b := b) (by rw [okMid, h1]; rfl))
    have H1 := hide h1
    clear h1
    go_enter Try.func19, Try.ntmps19
    go_wp2_with fail
    refine (in_c false _ _ _ _ H1.out).mono ?_
    rintro e w' ⟨rfl, rfl⟩
    go_wp2_with fail
    go_ret2
    rw [HX.out.1, HX.out.2]
    exact ⟨rfl, hbW⟩
  cases h4 : okLevel a b
  · have HX := hide (mid_bad (n := n) (a := a) (b := b) (by rw [okMid, h1, h4]; rfl))
    have H1 := hide h1
    have H4 := hide h4
    clear h1 h4
    go_enter Try.func19, Try.ntmps19
    go_wp2_with fail
    refine (in_c true _ _ _ _ H1.out).mono ?_
    rintro e w' ⟨rfl, rfl⟩
    go_wp2_with fail
    refine (levelI_c _ _ false _ H4.out).mono ?_
    rintro e w' ⟨rfl, rfl⟩
    go_wp2_with fail
    go_ret2
    rw [HX.out.1, HX.out.2]
    exact ⟨rfl, hbW⟩
  · obtain ⟨g1, g2⟩ : 1 ≤ n ∧ n ≤ 10 := by simpa using h1
    obtain ⟨⟨g7, g8⟩, g9, g10⟩ := okLevel_iff.1 h4
    obtain ⟨N, rfl⟩ := Int.eq_ofNat_of_zero_le (show 0 ≤ n by omega)
    have HX := hide (mid_ok (n := N) (a := a) (b := b) (by rw [okMid, h1, h4]; rfl))
    have hpw := pow2_bd (n := N) (by omega)
    have hfb := fewN_bd (n := N) (by omega)
    have HGd : Hid (∀ j, goodM N a b j = decide (2 * fewN N j * b ≤ a * powN 2 N)) := fun j => rfl
    have HM := hide fun j (h : 2 * j ≤ N) => mid_part (n := N) (j := j) h
    have C1 := hide fun (B : Nat) (j : Nat) (w1 : World) (hB : B < w1.heap.size) (hj : w1.cell? ⟨B, 0, none⟩ = some (.int .i64 j)) =>
      part_c 59 #[.pointer (some ⟨B, 0, none⟩)] (fun h => decide (h < j)) N 1 2 w1 (by omega) (by omega) (by omega) (by omega) callFuncMid1 (fun h w' _ hb' => mid1_c h j B w' ((hb'.cell (p := ⟨B, 0, none⟩) hB).trans hj))
    have C2 := hide fun (B A : Nat) (j : Nat) (w1 : World) (m : Nat) (hjn : j ≤ N) (hj : w1.cell? ⟨B, 0, none⟩ = some (.int .i64 j)) (ha : w1.cell? ⟨A, 0, none⟩ = some (.int .i64 N)) =>
      part_q 60 #[.pointer (some ⟨B, 0, none⟩), .pointer (some ⟨A, 0, none⟩)] (fun h => decide (j ≤ h) && decide (h ≤ N - j)) N 1 2 (w1.drewN m) (by omega) (by omega) (by omega) (by omega) callFuncMid2 (fun h m' _ => Calls.quiet_of (mid2_c h j N B A _ (by omega) hjn hj ha))
    have e1 : ∀ j, partN (fun h => decide (h < j)) N 1 (2 - 1) (N + 1) = fewN N j := fun j => rfl
    simp only [e1] at C1
    have hsh1 : (2 : Int) ^ N = powN 2 N := pow2_int N
    have hsh2 : wrap64 (a * (2 : Int) ^ N) = a * powN 2 N := by
      rw [hsh1]
      have := mul_pos_bd (a := a) (b := powN 2 N) (m := 100) (n := 1024) (by omega) (by omega)
      exact IntWalk.wrap64_in _ ⟨by omega, by omega⟩
    have hsh3 : wrap64 ((2 : Int) ^ N) = powN 2 N := by
      rw [hsh1]
      exact IntWalk.wrap64_in _ ⟨by omega, by omega⟩
    obtain ⟨P, hP⟩ : ∃ P, powN 2 N = P := ⟨_, rfl⟩
    rw [hP] at hpw HX HGd hsh1 hsh2 hsh3
    simp only [hP] at hfb HM
    have HS2 := hide hsh2
    have HS3 := hide hsh3
    have H1 := hide h1
    have H4 := hide h4
    clear h1 h4 e1 hP hsh1 hsh2 hsh3
    go_enter Try.func19, Try.ntmps19
    go_wp2_with fail
    refine (in_c true _ _ _ _ H1.out).mono ?_
    rintro e w' ⟨rfl, rfl⟩
    go_wp2_with fail
    refine (levelI_c _ _ true _ H4.out).mono ?_
    rintro e w' ⟨rfl, rfl⟩
    go_wp2_with fail
    go_loopg [8, 9] (N / 2) (fun gk p l wr => ∃ B : Nat, gk ≤ N / 2 ∧ p = .pointer (some ⟨B, 0, none⟩) ∧ W.heap.size ≤ B ∧ B < wr.heap.size ∧ wr.cell? ⟨B, 0, none⟩ = some (.int .i64 gk) ∧ wr.frozen? ⟨B, 0, none⟩ = false ∧ Hid (∀ h, gk < h → h ≤ N / 2 → goodM N a b h = false) ∧ Below W.heap.size W wr)
    case atStart =>
      rw [show (N : Int) / 2 = ((N / 2 : Nat) : Int) from by omega]
      exact ⟨W.heap.size, Nat.le_refl _, by rw [hWs], Nat.le_refl _, by simp, box_new _ _ _, blk_frozen (heap_alloc_new W _) 0, fun h h1 h2 => by omega, (Below.refl _ _).alloc (Nat.le_refl _) _⟩
    case round =>
      obtain ⟨B, hj, rfl, hB1, hB2, hcj, hfj, hno, hbel⟩ := hrel
      have hcn : wr.cell? ⟨w.heap.size, 0, none⟩ = some (.int .i64 N) := (hbel.cell (p := ⟨w.heap.size, 0, none⟩) (by show w.heap.size < _; omega)).trans hWn
      have hBw : Below w.heap.size w wr := hbW.trans (hbel.mono (by omega))
      by_cases h0 : 1 ≤ gk
      · have HG := hide (HGd.out gk)
        have hF := hfb gk
        have c1 := C1.out B gk wr hB2 hcj
        have HMj := hide (HM.out gk (by omega))
        obtain ⟨F, hFe⟩ : ∃ F, fewN N gk = F := ⟨_, rfl⟩
        rw [hFe] at HG hF c1 HMj
        have K1 := hide c1
        have HF := hide hFe
        clear hFe c1 hfb C1
        have hmb := mul_pos_bd (a := 2 * F) (b := b) (m := 2048) (n := 100) (by omega) (by omega)
        have hma := mul_pos_bd (a := a) (b := P) (m := 100) (n := 1024) (by omega) (by omega)
        have hs2 := HS2.out
        by_cases c : 2 * F * b ≤ a * P
        · go_wp2_with fail
          refine K1.out.mono ?_
          rintro e w2 ⟨rfl, hb2⟩
          have hcj2 := (hb2.cell (p := ⟨B, 0, none⟩) hB2).trans hcj
          have hcn2 := (hb2.cell (p := ⟨w.heap.size, 0, none⟩) (by show w.heap.size < _; omega)).trans hcn
          have K2 := hide fun m => C2.out B w.heap.size gk w2 m (by omega) hcj2 hcn2
          have eM : partN (fun h => decide (gk ≤ h) && decide (h ≤ N - gk)) N 1 (2 - 1) (N + 1) = P - 2 * F := HMj.out
          rw [eM] at K2
          clear eM hcj hcn C2
          go_wp2_with fail
          go_quiet ((go_at_call 58; exact Calls.quiet_of (K2.out _)))
          go_wp2_with fail
          go_ret2
          have e : midJ N a b = gk := lastTo_eq (by rw [HG.out]; exact decide_eq_true c) _ (by omega) fun h h1 h2 => hno.out h h1 (by omega)
          rw [HX.out.1, HX.out.2, e, HF.out]
          exact ⟨rfl, below_drewN (hBw.trans (hb2.mono hBw.size)) _⟩
        · go_wp2_with fail
          refine K1.out.mono ?_
          rintro e w2 ⟨rfl, hb2⟩
          have hcj2 := (hb2.cell (p := ⟨B, 0, none⟩) hB2).trans hcj
          have hcn2 := (hb2.cell (p := ⟨w.heap.size, 0, none⟩) (by show w.heap.size < _; omega)).trans hcn
          clear hcj hcn C2
          go_wp2_with fail
          go_roundg (gk - 1)
          case measure => omega
          case rel =>
            have hsz := hb2.size
            rw [show (gk : Int) - 1 = ((gk - 1 : Nat) : Int) from by omega]
            refine ⟨w2.heap.size, by omega, rfl, by omega, by simp, box_new _ _ _, blk_frozen (heap_alloc_new w2 _) 0, fun h h1 h2 => ?_, (hbel.trans (hb2.mono hbel.size)).alloc (by omega) _⟩
            by_cases e : h = gk
            · subst e; rw [HG.out]; exact decide_eq_false (by omega)
            · exact hno.out h (by omega) h2
      · obtain rfl : gk = 0 := by omega
        have e : midJ N a b = 0 := lastTo_eq (goodM0 g9) _ (by omega) fun h h1 h2 => hno.out h h1 (by omega)
        have hz := HX.out
        rw [e, fewN_zero] at hz
        have HX0 : Hid (midX N a b = 0 ∧ midY N a b = P) := ⟨by rw [hz.1]; rfl, by rw [hz.2]; omega⟩
        have hs3 := HS3.out
        have hd : ¬ (1 : Int) ≤ ((0 : Nat) : Int) := by omega
        clear C1 C2 hfb e hz
        go_wp2_with fail
        go_quiet (fail)
        go_wp2_with fail
        go_ret2
        rw [HX0.out.1, HX0.out.2]
        exact ⟨by rw [← HS3.out]; rfl, below_drewN hBw _⟩
end Go.Proofs.Ytgclgcfhcomplaa
