/-
  Contracts: how far two samples are apart, in the program and in its reference.
-/
import Derived.Test.YtcmjmnlccempfaaGapP
import Derived.Test.YtcmjmnlccempfaaSam
import Derived.Test.YtcmjmnlccempfaaConcat
namespace Go.Proofs.Ytcmjmnlccempfaa
open Go.RowKit

theorem apartN_def (xs ys : List Int) (x : Int) : apartN xs ys x = max (cntLe xs x * ys.length - cntLe ys x * xs.length) (-(cntLe xs x * ys.length - cntLe ys x * xs.length)) := rfl
theorem cntLe_bd' (xs : List Int) (x : Int) : 0 ≤ cntLe xs x ∧ cntLe xs x ≤ xs.length := cntLe_bd xs x xs.length
theorem gapTo'_bd (xs ys zs : List Int) (k : Nat) : 0 ≤ gapTo' xs ys zs k ∧ gapTo' xs ys zs k ≤ xs.length * ys.length := by
  obtain ⟨h0, _, h2⟩ := gapTo'_spec xs ys zs k
  refine ⟨h0, ?_⟩
  rcases h2 with h | ⟨j, _, h⟩
  · rw [h]; exact Int.mul_nonneg (by omega) (by omega)
  · rw [h]; exact apartN_bd _ _ _

set_option maxHeartbeats 1000000 in
theorem upTo_c (v : Value) (xs : List Int) (x : Int) (w : World) (hr : Rd w v xs) (hn : xs.length ≤ 1000) : Calls Try.prog 49 #[v, .int .i64 x] w fun e w' => e = .returned (.int .i64 (cntLe xs x)) ∧ w = w' := by
  have hat := hr
  obtain ⟨A, c, rfl, hc, hm, hd⟩ := hr
  have hA := hat.at
  clear hat hd
  have HE : Hid (cntLe xs x = sumTo (fun i => if atL xs i ≤ x then 1 else 0) xs.length) := rfl
  go_enter Try.func49, Try.ntmps49
  go_wp2_with fail
  go_loop [5, 6] (fun o i => ∃ k : Nat, k ≤ xs.length ∧ i = .int .i64 k ∧ o = .int .i64 (sumTo (fun i => if atL xs i ≤ x then 1 else 0) k)) (fun _ i => xs.length - (intOf i).toNat)
  case atStart => exact ⟨0, Nat.zero_le _, rfl, rfl⟩
  case round =>
    obtain ⟨k, hk, rfl, rfl⟩ := hrel
    by_cases hlt : k < xs.length
    · obtain ⟨g, off, rfl, hg, hcl⟩ := hA (by omega)
      have hck := hcl k hlt
      have hS := cntLe_bd xs x k
      have HS := hide (sumTo_succ (fun i => if atL xs i ≤ x then 1 else 0) k)
      obtain ⟨S, hSe⟩ : ∃ S, sumTo (fun i => if atL xs i ≤ x then 1 else 0) k = S := ⟨_, rfl⟩
      obtain ⟨y, hy⟩ : ∃ y, atL xs k = y := ⟨_, rfl⟩
      rw [hSe, hy] at HS
      rw [hSe] at hS ⊢
      rw [hy] at hck
      clear hcl hA hSe hy
      by_cases cy : y ≤ x
      · rw [if_pos cy] at HS
        go_wp2_with fail
        go_round
        case rel => exact ⟨k + 1, by omega, by go_num, by rw [HS.out]⟩
        case measure => simp [intOf]; omega
      · rw [if_neg cy] at HS
        go_wp2_with fail
        go_round
        case rel => exact ⟨k + 1, by omega, by go_num, by rw [HS.out, Int.add_zero]⟩
        case measure => simp [intOf]; omega
    · obtain rfl : k = xs.length := by omega
      obtain ⟨S, hSe⟩ : ∃ S, sumTo (fun i => if atL xs i ≤ x then 1 else 0) xs.length = S := ⟨_, rfl⟩
      rw [hSe] at HE ⊢
      clear hA hSe
      go_wp2_with fail
      go_ret
      exact ⟨ret_int HE.out.symm, rfl⟩

set_option maxHeartbeats 1000000 in
theorem atMost_c (v : Value) (xs : List Int) (x : Int) (w : World) (hr : Rd w v xs) (hn : xs.length ≤ 1000) : Calls Try.prog 53 #[v, .int .i64 x] w fun e w' => e = .returned (.int .i64 (cntLe xs x)) ∧ w = w' := by
  have hat := hr
  obtain ⟨A, c, rfl, hc, hm, hd⟩ := hr
  have hA := hat.at
  clear hat hd
  have HE : Hid (cntLe xs x = sumTo (fun i => if atL xs i ≤ x then 1 else 0) xs.length) := rfl
  go_enter Try.func53, Try.ntmps53
  go_wp2_with fail
  go_loop [5, 7, 10] (fun o s i => ∃ k : Nat, k ≤ xs.length ∧ i = .int .i64 k ∧ o = .int .i64 (sumTo (fun i => if atL xs i ≤ x then 1 else 0) k)) (fun _ _ i => xs.length - (intOf i).toNat)
  case atStart => exact ⟨0, Nat.zero_le _, rfl, rfl⟩
  case round =>
    obtain ⟨k, hk, rfl, rfl⟩ := hrel
    by_cases hlt : k < xs.length
    · obtain ⟨g, off, rfl, hg, hcl⟩ := hA (by omega)
      have hck := hcl k hlt
      have hS := cntLe_bd xs x k
      have HS := hide (sumTo_succ (fun i => if atL xs i ≤ x then 1 else 0) k)
      obtain ⟨S, hSe⟩ : ∃ S, sumTo (fun i => if atL xs i ≤ x then 1 else 0) k = S := ⟨_, rfl⟩
      obtain ⟨y, hy⟩ : ∃ y, atL xs k = y := ⟨_, rfl⟩
      rw [hSe, hy] at HS
      rw [hSe] at hS ⊢
      rw [hy] at hck
      clear hcl hA hSe hy
      by_cases cy : y ≤ x
      · rw [if_pos cy] at HS
        go_wp2_with fail
        go_round
        case rel => exact ⟨k + 1, by omega, by go_num, by rw [HS.out]⟩
        case measure => simp [intOf]; omega
      · rw [if_neg cy] at HS
        go_wp2_with fail
        go_round
        case rel => exact ⟨k + 1, by omega, by go_num, by rw [HS.out, Int.add_zero]⟩
        case measure => simp [intOf]; omega
    · obtain rfl : k = xs.length := by omega
      obtain ⟨S, hSe⟩ : ∃ S, sumTo (fun i => if atL xs i ≤ x then 1 else 0) xs.length = S := ⟨_, rfl⟩
      rw [hSe] at HE ⊢
      clear hA hSe
      go_wp2_with fail
      go_ret
      exact ⟨ret_int HE.out.symm, rfl⟩

set_option maxHeartbeats 1000000 in
theorem apart_c (i k : Int) (m n : Nat) (w : World) (hi : 0 ≤ i ∧ i ≤ 10) (hk : 0 ≤ k ∧ k ≤ 10) (hm : m ≤ 10) (hn : n ≤ 10) :
    Calls Try.prog 52 #[.int .i64 i, .int .i64 k, .int .i64 m, .int .i64 n] w fun e w' => e = .returned (.int .i64 (max (i * n - k * m) (-(i * n - k * m)))) ∧ w = w' := by
  have m1 := mul_pos_bd (a := i) (b := (n : Int)) (m := 10) (n := 10) hi (by omega)
  have m2 := mul_pos_bd (a := k) (b := (m : Int)) (m := 10) (n := 10) hk (by omega)
  by_cases c : i * n - k * m < -(i * n - k * m)
  all_goals
    go_enter Try.func52, Try.ntmps52
    go_wp2
    go_ret
    exact ⟨ret_int (by omega), rfl⟩

set_option maxHeartbeats 4000000 in
theorem gapS_c (u v : Value) (xs ys : List Int) (w : World) (hx : Rd w u xs) (hy : Rd w v ys) (hl : xs.length + ys.length ≤ 10) (hx0 : 0 < xs.length) (hy0 : 0 < ys.length) :
    Calls Try.prog 29 #[u, v] w fun e w' => e = .returned (.int .i64 (gapN xs ys)) ∧ Below w.heap.size w w' := by
  have hcx := hx
  have hcy := hy
  obtain ⟨A, c, rfl, hc, hm, hd1⟩ := hx
  obtain ⟨A2, c2, rfl, hc2, hm2, hd2⟩ := hy
  clear hd1 hd2
  go_enter Try.func29, Try.ntmps29
  go_wp2_with (at_builtin; first
    | (refine wpList_append_rd _ rfl (.tmp 9) (.tmp 10) rfl ints w.heap.size _ _ [] xs rfl rfl (lit_own [] rfl rfl rfl (by simp) (Nat.le_refl _)) (hcx.alloc _) (by simp) (by simp) (by omega) (by omega) ?_; intro v4 w4 hown4 hb4 hg4 hat4 hk4 hlt4; have hb4' : Below w.heap.size w w4 := ((Below.refl _ _).alloc (Nat.le_refl _) _).trans hb4; have hsz4 := hb4'.size)
    | (refine wpList_append_rd _ rfl (.tmp 11) (.tmp 12) rfl ints w.heap.size _ _ _ ys rfl rfl hown4 (hcy.below hb4') hsz4 (by simp; omega) (by omega) (by omega) ?_; intro v5 w5 hown5 hb5 hg5 hat5 hk5 hlt5))
  have hb05 : Below w.heap.size w w5 := hb4'.trans hb5
  rw [List.nil_append] at hown5
  have hr5 := hown5.sl.rd
  have hx5 := hcx.below hb05
  have hy5 := hcy.below hb05
  have hlz : (xs ++ ys).length = xs.length + ys.length := List.length_append
  have HZ := hide hlz
  clear hlz hb4 hb5 hg4 hg5 hat4 hat5 hk4 hk5 hown4 hown5 hb4' hsz4 hlt4 hlt5
  obtain ⟨zs, hzs⟩ : ∃ zs, xs ++ ys = zs := ⟨_, rfl⟩
  have HG : Hid (gapN xs ys = gapTo' xs ys zs zs.length) := by show _ = _; rw [← hzs]; rfl
  rw [hzs] at hr5 HZ
  clear hzs
  obtain ⟨A5, c5, rfl, hc5, hm5, _⟩ := id hr5
  have hat := hr5.at
  go_wp2_with fail
  go_loopw [5, 7, 8] (fun o i x wr => ∃ k : Nat, k ≤ zs.length ∧ i = .int .i64 k ∧ o = .int .i64 (gapTo' xs ys zs k) ∧ ∃ m, wr = w5.drewN m) (fun _ i _ _ => zs.length - (intOf i).toNat)
  case atStart => exact ⟨0, Nat.zero_le _, rfl, rfl, 0, rfl⟩
  case round =>
    obtain ⟨k, hk, rfl, rfl, q, hq⟩ := hrel
    by_cases hlt : k < zs.length
    · have HQ := hide hq
      have hcw : ∀ p, wr.cell? p = w5.cell? p := by subst hq; exact fun _ => rfl
      obtain ⟨g, off, rfl, hg, hcl⟩ := hat (by omega)
      have hck := (hcw _).trans (hcl k hlt)
      have hxw : Rd wr (.slice A xs.length c) xs := by subst hq; exact hx5
      have hyw : Rd wr (.slice A2 ys.length c2) ys := by subst hq; exact hy5
      clear hq
      have HS := hide (gapTo'_succ xs ys zs k)
      have hS := gapTo'_bd xs ys zs k
      have hmm := mul_pos_bd (a := (xs.length : Int)) (b := (ys.length : Int)) (m := 10) (n := 10) (by omega) (by omega)
      have hb1 := cntLe_bd' xs (atL zs k)
      have hb2 := cntLe_bd' ys (atL zs k)
      have HD := hide (apartN_def xs ys (atL zs k))
      obtain ⟨z, hz⟩ : ∃ z, atL zs k = z := ⟨_, rfl⟩
      rw [hz] at hck HS hb1 hb2 HD
      have K1 := hide fun m => upTo_c _ xs z (wr.drewN m) (hxw.drewN m) (by omega)
      have K2 := hide fun m => upTo_c _ ys z (wr.drewN m) (hyw.drewN m) (by omega)
      obtain ⟨X, hX⟩ : ∃ q, cntLe xs z = q := ⟨_, rfl⟩
      obtain ⟨Y, hY⟩ : ∃ q, cntLe ys z = q := ⟨_, rfl⟩
      rw [hX] at hb1 HD K1
      rw [hY] at hb2 HD K2
      obtain ⟨S, hSe⟩ : ∃ q, gapTo' xs ys zs k = q := ⟨_, rfl⟩
      rw [hSe] at HS hS ⊢
      have m1 := mul_pos_bd (a := X) (b := (ys.length : Int)) (m := 10) (n := 10) (by omega) (by omega)
      have m2 := mul_pos_bd (a := Y) (b := (xs.length : Int)) (m := 10) (n := 10) (by omega) (by omega)
      have f1 : IntKind.i64.wrap (X * (ys.length : Int)) = X * (ys.length : Int) := IntWalk.i64_in _ (by omega)
      have f2 : IntKind.i64.wrap (Y * (xs.length : Int)) = Y * (xs.length : Int) := IntWalk.i64_in _ (by omega)
      have f3 : IntKind.i64.wrap (X * (ys.length : Int) - Y * (xs.length : Int)) = X * (ys.length : Int) - Y * (xs.length : Int) := IntWalk.i64_in _ (by omega)
      obtain ⟨M1, hM1⟩ : ∃ q, X * (ys.length : Int) = q := ⟨_, rfl⟩
      obtain ⟨M2, hM2⟩ : ∃ q, Y * (xs.length : Int) = q := ⟨_, rfl⟩
      have HM1 := hide hM1
      have HM2 := hide hM2
      rw [hM1, hM2] at HD
      rw [hM1] at m1
      rw [hM2] at m2
      have f1' : IntKind.i64.wrap (X * (ys.length : Int)) = M1 := by rw [f1, hM1]
      have f2' : IntKind.i64.wrap (Y * (xs.length : Int)) = M2 := by rw [f2, hM2]
      have f3' : IntKind.i64.wrap (M1 - M2) = M1 - M2 := IntWalk.i64_in _ (by omega)
      clear hcl hat hX hY hz hSe f1 f2 f3 hM1 hM2 hcw
      by_cases ca : S < M1 - M2
      all_goals by_cases cb : max S (M1 - M2) < -(M1 - M2)
      all_goals
        go_wp2_with fail
        go_quiet ((go_at_call 49; first | with_reducible exact quiet_eq (K1.out _) | with_reducible exact quiet_eq (K2.out _)))
        go_wp2_with fail
        go_roundw
        case rel => exact ⟨k + 1, by omega, by go_num, by rw [HS.out, HD.out]; congr 1; omega, q + nq, by rw [HQ.out, World.drewN_drewN]⟩
        case measure => simp [intOf]; omega
    · obtain rfl : k = zs.length := by omega
      obtain ⟨S, hSe⟩ : ∃ q, gapTo' xs ys zs zs.length = q := ⟨_, rfl⟩
      rw [hSe] at HG ⊢
      clear hat hSe
      go_wp2_with fail
      go_ret
      exact ⟨ret_int HG.out.symm, by first | exact below_drewN hb05 _ | (rw [hq]; exact below_drewN hb05 _)⟩

set_option maxRecDepth 20000 in
set_option maxHeartbeats 4000000 in
theorem gapI_c (u v : Value) (xs ys : List Int) (w : World) (hx : Rd w u xs) (hy : Rd w v ys) (hl : xs.length + ys.length ≤ 10) (hx0 : 0 < xs.length) (hy0 : 0 < ys.length) :
    Calls Try.prog 31 #[u, v] w fun e w' => e = .returned (.int .i64 (gapN xs ys)) ∧ Below w.heap.size w w' := by
  have hcx := hx
  have hcy := hy
  obtain ⟨A, c, rfl, hc, hm, hd1⟩ := hx
  obtain ⟨A2, c2, rfl, hc2, hm2, hd2⟩ := hy
  clear hd1 hd2
  obtain ⟨W, hW, hbW, hWs, hW0, hW1⟩ : ∃ W, w.alloc (.cells #[.slice A xs.length c, .slice A2 ys.length c2] 22) = W ∧ Below w.heap.size w W ∧ W.heap.size = w.heap.size + 1 ∧ W.cell? ⟨w.heap.size, 0, none⟩ = some (.slice A xs.length c) ∧ W.cell? ⟨w.heap.size, 1, none⟩ = some (.slice A2 ys.length c2) :=
    ⟨_, rfl, (Below.refl _ _).alloc (Nat.le_refl _) _, by simp, by simp, by simp⟩
  have hxW := hcx.below hbW
  have hyW := hcy.below hbW
  go_enter Try.func31, Try.ntmps31
  go_wp2_with fail
  refine (concat_c w.heap.size _ _ xs ys _ hW0 hW1 (by omega) hxW hyW hx0 (by omega) hy0 (by omega)).mono ?_
  rintro e w5 ⟨v5, rfl, hown5, hb5⟩
  have hb05 : Below w.heap.size w w5 := below_to' hbW hb5
  have hr5 := hown5.sl.rd
  have hx5 := hcx.below hb05
  have hy5 := hcy.below hb05
  have hlz : (xs ++ ys).length = xs.length + ys.length := List.length_append
  have HZ := hide hlz
  clear hlz hb5 hown5 hW hbW hWs hW0 hW1 hxW hyW
  obtain ⟨zs, hzs⟩ : ∃ zs, xs ++ ys = zs := ⟨_, rfl⟩
  have HG : Hid (gapN xs ys = gapTo' xs ys zs zs.length) := by show _ = _; rw [← hzs]; rfl
  rw [hzs] at hr5 HZ
  clear hzs
  obtain ⟨A5, c5, rfl, hc5, hm5, _⟩ := id hr5
  have hat := hr5.at
  go_wp2_with fail
  go_loop [5, 7, 13] (fun o s i => ∃ k : Nat, k ≤ zs.length ∧ i = .int .i64 k ∧ o = .int .i64 (gapTo' xs ys zs k)) (fun _ _ i => zs.length - (intOf i).toNat)
  case atStart => exact ⟨0, Nat.zero_le _, rfl, rfl⟩
  case round =>
    obtain ⟨k, hk, rfl, rfl⟩ := hrel
    by_cases hlt : k < zs.length
    · obtain ⟨g, off, rfl, hg, hcl⟩ := hat (by omega)
      have hck := hcl k hlt
      have HS := hide (gapTo'_succ xs ys zs k)
      have hS := gapTo'_bd xs ys zs k
      have hmm := mul_pos_bd (a := (xs.length : Int)) (b := (ys.length : Int)) (m := 10) (n := 10) (by omega) (by omega)
      have hb1 := cntLe_bd' xs (atL zs k)
      have hb2 := cntLe_bd' ys (atL zs k)
      have hap := apartN_bd xs ys (atL zs k)
      have HD := hide (apartN_def xs ys (atL zs k))
      obtain ⟨z, hz⟩ : ∃ z, atL zs k = z := ⟨_, rfl⟩
      rw [hz] at hck HS hb1 hb2 HD hap
      have K1 := hide (atMost_c _ xs z w5 hx5 (by omega))
      have K2 := hide (atMost_c _ ys z w5 hy5 (by omega))
      have K3 := hide (apart_c (cntLe xs z) (cntLe ys z) xs.length ys.length w5 (by omega) (by omega) (by omega) (by omega))
      rw [← HD.out] at K3
      obtain ⟨X, hX⟩ : ∃ q, cntLe xs z = q := ⟨_, rfl⟩
      obtain ⟨Y, hY⟩ : ∃ q, cntLe ys z = q := ⟨_, rfl⟩
      obtain ⟨D, hDe⟩ : ∃ q, apartN xs ys z = q := ⟨_, rfl⟩
      rw [hX] at K1 K3
      rw [hY] at K2 K3
      rw [hDe] at K3 HS hap
      obtain ⟨S, hSe⟩ : ∃ q, gapTo' xs ys zs k = q := ⟨_, rfl⟩
      rw [hSe] at HS hS ⊢
      clear hcl hat hX hY hz hSe hDe HD
      by_cases ca : S < D
      all_goals
        go_wp2_with fail
        refine K1.out.mono ?_
        rintro e w6 ⟨rfl, rfl⟩
        go_wp2_with fail
        refine K2.out.mono ?_
        rintro e w6 ⟨rfl, rfl⟩
        go_wp2_with fail
        refine K3.out.mono ?_
        rintro e w6 ⟨rfl, rfl⟩
        go_wp2_with fail
        go_round
        case rel => exact ⟨k + 1, by omega, by go_num, by rw [HS.out]; congr 1; omega⟩
        case measure => simp [intOf]; omega
    · obtain rfl : k = zs.length := by omega
      obtain ⟨S, hSe⟩ : ∃ q, gapTo' xs ys zs zs.length = q := ⟨_, rfl⟩
      rw [hSe] at HG ⊢
      clear hat hSe
      go_wp2_with fail
      go_ret
      exact ⟨ret_int HG.out.symm, hb05⟩

def gapX (xs ys : List Int) : Int := if okTwo xs ys then gapN xs ys else -1
theorem gapX_bad {xs ys : List Int} (h : okTwo xs ys = false) : gapX xs ys = -1 := by simp [gapX, h]
theorem gapX_ok {xs ys : List Int} (h : okTwo xs ys = true) : gapX xs ys = gapN xs ys := by simp [gapX, h]

set_option maxHeartbeats 1000000 in
theorem GapS_c (u v : Value) (xs ys : List Int) (w : World) (hx : Rd w u xs) (hy : Rd w v ys) (hn1 : xs.length ≤ 2000000) (hn2 : ys.length ≤ 2000000) :
    Calls Try.prog 14 #[u, v] w fun e w' => e = .returned (.int .i64 (gapX xs ys)) ∧ Below w.heap.size w w' := by
  have hcx := hx
  have hcy := hy
  obtain ⟨A, c, rfl, hc, hm, hd1⟩ := hx
  obtain ⟨A2, c2, rfl, hc2, hm2, hd2⟩ := hy
  clear hd1 hd2
  cases hok : okTwo xs ys
  · have HX := hide (gapX_bad hok)
    have HK := hide hok
    clear hok
    go_enter Try.func14, Try.ntmps14
    go_wp2_with fail
    refine (samplesS_c _ _ xs ys false _ hcx hcy hn1 hn2 HK.out).mono ?_
    rintro e w1 ⟨rfl, rfl⟩
    go_wp2_with fail
    go_ret
    exact ⟨ret_int HX.out.symm, Below.refl _ _⟩
  · obtain ⟨h1, h2, h3, h4, h5⟩ := okTwo_all hok
    have HX := hide (gapX_ok hok)
    have HK := hide hok
    clear hok h1 h2
    go_enter Try.func14, Try.ntmps14
    go_wp2_with fail
    refine (samplesS_c _ _ xs ys true _ hcx hcy hn1 hn2 HK.out).mono ?_
    rintro e w1 ⟨rfl, rfl⟩
    go_wp2_with fail
    refine (gapS_c _ _ xs ys _ (hcx) (hcy) h3 h4 h5).mono ?_
    rintro e w2 ⟨rfl, hb2⟩
    go_wp2_with fail
    go_ret
    exact ⟨ret_int HX.out.symm, by (repeat (first | exact Below.refl _ _ | assumption | refine Below.setCell ?_ (by first | (simp; done) | omega | (simp; omega) | (simp at *; omega)) _ | refine Below.drew ?_ | refine below_drewN ?_ _ | refine below_alloc' ?_ _ | refine below_to' ?_ (by assumption)))⟩

set_option maxHeartbeats 1000000 in
theorem GapI_c (u v : Value) (xs ys : List Int) (w : World) (hx : Rd w u xs) (hy : Rd w v ys) (hn1 : xs.length ≤ 2000000) (hn2 : ys.length ≤ 2000000) :
    Calls Try.prog 15 #[u, v] w fun e w' => e = .returned (.int .i64 (gapX xs ys)) ∧ Below w.heap.size w w' := by
  have hcx := hx
  have hcy := hy
  obtain ⟨A, c, rfl, hc, hm, hd1⟩ := hx
  obtain ⟨A2, c2, rfl, hc2, hm2, hd2⟩ := hy
  clear hd1 hd2
  cases hok : okTwo xs ys
  · have HX := hide (gapX_bad hok)
    have HK := hide hok
    clear hok
    go_enter Try.func15, Try.ntmps15
    go_wp2_with fail
    refine (samplesI_c _ _ xs ys false _ hcx hcy hn1 hn2 HK.out).mono ?_
    rintro e w1 ⟨rfl, hb1⟩
    go_wp2_with fail
    go_ret
    exact ⟨ret_int HX.out.symm, hb1⟩
  · obtain ⟨h1, h2, h3, h4, h5⟩ := okTwo_all hok
    have HX := hide (gapX_ok hok)
    have HK := hide hok
    clear hok h1 h2
    go_enter Try.func15, Try.ntmps15
    go_wp2_with fail
    refine (samplesI_c _ _ xs ys true _ hcx hcy hn1 hn2 HK.out).mono ?_
    rintro e w1 ⟨rfl, hb1⟩
    go_wp2_with fail
    refine (gapI_c _ _ xs ys _ (hcx.below hb1) (hcy.below hb1) h3 h4 h5).mono ?_
    rintro e w2 ⟨rfl, hb2⟩
    go_wp2_with fail
    go_ret
    exact ⟨ret_int HX.out.symm, by (repeat (first | exact Below.refl _ _ | assumption | refine Below.setCell ?_ (by first | (simp; done) | omega | (simp; omega) | (simp at *; omega)) _ | refine Below.drew ?_ | refine below_drewN ?_ _ | refine below_alloc' ?_ _ | refine below_to' ?_ (by assumption)))⟩
end Go.Proofs.Ytcmjmnlccempfaa
