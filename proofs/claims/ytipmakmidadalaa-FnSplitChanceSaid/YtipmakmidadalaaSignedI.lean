/-
  Contract: SignedRanks of the program. The statement FnExactSignedRanks.
-/
import Derived.Test.YtipmakmidadalaaSigned
namespace Go.Proofs.Ytipmakmidadalaa
open Go.RowKit

set_option maxHeartbeats 1000000 in
theorem SignedI_c (v : Value) (xs : List Int) (w : World) (hr : Rd w v xs) :
    Calls Try.prog 14 #[v] w fun e w' => e = .returned (.tuple #[.int .i64 (signedUp true xs), .int .i64 (signedUp false xs)]) ∧ Below w.heap.size w w' := by
  have hr' := hr
  by_cases hok : okData xs = true
  · obtain ⟨hall, hlen⟩ := okData_all hok
    obtain ⟨A, c, rfl, hc, hm, hcell⟩ := hr
    go_enter Try.func14, Try.ntmps14
    go_wp2_with fail
    refine (ValidData_c _ xs true _ hr' hok).mono ?_
    rintro e w0 ⟨rfl, hb0⟩
    go_wp2_with fail
    go_loopw [4, 5, 17] (fun s z i wr => ∃ k : Nat, k ≤ xs.length ∧ i = .int .i64 k ∧ Own wr w.heap.size 3 s ((nzL (xs.take k)).map sgn) ∧ Own wr w.heap.size 3 z (absL (xs.take k)) ∧ Apart s z ∧ Below w.heap.size w wr) (fun _ _ i _ => xs.length - (intOf i).toNat)
    case atStart => exact ⟨0, by omega, rfl, Own.nil _ _ _, Own.nil _ _ _, fun g => by simp [Value.ownBlock], by (repeat (first | exact Below.refl _ _ | assumption | refine Below.setCell ?_ (by first | (simp; done) | omega | (simp; omega) | (simp at *; omega)) _ | refine Below.drew ?_ | refine below_drewN ?_ _ | refine below_alloc' ?_ _ | refine below_to' ?_ (by assumption)))⟩
    case round =>
      obtain ⟨k, hk, rfl, howns, hownz, hne, hbel⟩ := hrel
      by_cases hlt : k < xs.length
      · obtain ⟨g, off, rfl, hg, hcl⟩ := hcell (by omega)
        have hck : wr.cell? ⟨g, off + k, none⟩ = some (.int .i64 xs[k]) := by rw [hbel.cell hg, hcl k hlt, getD_lt hlt]
        have hxk := allB_get hall hlt
        have hsz := hbel.size
        have hl1 : (nzL (xs.take k)).length ≤ 1000 := by have := nzL_len (xs.take k); simp at this; omega
        have hl2 : (absL (xs.take k)).length ≤ 1000 := by rw [absL_len]; exact hl1
        by_cases h0 : xs[k] = 0
        · have h0' : (xs[k] != 0) = false := by simp [h0]
          have HN := hide (nzL_take_out hlt h0)
          have HA := hide (absL_take_out hlt h0)
          clear h0 hcl hcell hall hok
          go_wp2_with fail
          go_roundw
          case rel => exact ⟨k + 1, by omega, by go_num, by rw [HN.out]; exact howns, by rw [HA.out]; exact hownz, hne, hbel⟩
          case measure => simp [intOf]; omega
        · have h0' : (xs[k] != 0) = true := by simp [h0]
          have HN := hide (nzL_take_in hlt h0)
          have HA := hide (absL_take_in hlt h0)
          have HM : Hid (max xs[k] (-xs[k]) = if xs[k] < -xs[k] then -xs[k] else xs[k]) := (max_if _ _).symm
          have hneg : IntKind.i64.wrap (-xs[k]) = -xs[k] := IntWalk.i64_in _ (by omega)
          clear h0 hcl hcell hall hok
          by_cases hmx : xs[k] < -xs[k]
          all_goals
            go_wp2_with fail
            refine (signI_c _ _ (by omega)).mono ?_
            rintro e w' ⟨rfl, rfl⟩
            go_wp2_with (at_builtin; first
              | (refine wpList_push_int _ rfl (.tmp 23) (.tmp 26) rfl ints w.heap.size _ ((nzL (xs.take k)).map sgn) _ _ 1 rfl rfl howns hsz (by simp; omega) ?_; intro v5 w5 hown5 hb5 hg5 hat5 hk5 hlt5; have hownz5 := hownz.keep hg5 hne.ne; have hap5 : Apart v5 _ := hne.grow (n := wr.heap.size + 1) hat5 (fun g hz => by have := World.ownsRow.lt hownz g hz; omega); have hsz5 := (hbel.trans hb5).size)
              | (refine wpList_push_int _ rfl (.tmp 28) (.tmp 33) rfl ints w.heap.size _ _ _ _ 1 rfl rfl hownz5 hsz5 (by omega) ?_; intro v6 w6 hown6 hb6 hg6 hat6 hk6 hlt6))
            go_roundw
            case rel =>
              refine ⟨k + 1, by omega, by go_num, by rw [HN.out, List.map_append]; exact hown5.keep hg6 hap5.symm.ne, ?_, (hap5.symm.grow (n := w5.heap.size + 1) hat6 (fun g hz => by have := World.ownsRow.lt hown5 g hz; omega)).symm, hbel.trans (hb5.trans hb6)⟩
              rw [HA.out, HM.out]
              first | exact hown6 | (rw [if_pos hmx]; exact hown6) | (rw [if_neg (by omega)]; exact hown6)
            case measure => simp [intOf]; omega
      · obtain rfl : k = xs.length := by omega
        rw [List.take_length] at howns hownz
        have hsz := hbel.size
        have hlz : (absL xs).length ≤ 10 := by have := nzL_len xs; rw [absL_len]; omega
        have hrl : (rankL (absL xs)).length = ((nzL xs).map sgn).length := by rw [rankL_len, absL_len, List.length_map]
        have hbd : ∀ r ∈ rankL (absL xs), 0 ≤ r ∧ r ≤ 100 := fun r h => by have := rankL_bd h; omega
        have hln := nzL_len xs
        have hPT : Hid (signedUp true xs = partUp true ((nzL xs).map sgn) (rankL (absL xs)) (rankL (absL xs)).length) := by show _ = _; rw [signedUp, if_pos hok, partUp_sgn, hrl, List.length_map]
        have hPF : Hid (signedUp false xs = partUp false ((nzL xs).map sgn) (rankL (absL xs)) (rankL (absL xs)).length) := by show _ = _; rw [signedUp, if_pos hok, partUp_sgn, hrl, List.length_map]
        clear hok hall hcell
        go_wp2_with fail
        refine (ranksI_c _ (absL xs) _ hownz.sl.rd (by omega)).mono ?_
        rintro e w1 ⟨v1, rfl, hsr, hb1⟩
        have hs1 := (howns.sl.rd).below hb1
        obtain ⟨R, hR⟩ : ∃ R, R = rankL (absL xs) := ⟨_, rfl⟩
        obtain ⟨S, hS⟩ : ∃ S, S = (nzL xs).map sgn := ⟨_, rfl⟩
        have hRl : R.length ≤ 10 := by rw [hR, rankL_len]; exact hlz
        rw [← hR] at hrl hbd hPT hPF hsr
        rw [← hS] at hrl hPT hPF hs1
        obtain ⟨A1, c1, rfl, hc1, hm1, hcell1⟩ := hsr
        obtain ⟨A2, c2, rfl, hc2, hm2, hcell2⟩ := hs1
        have HRL := hide hrl
        clear hR hS hc hm howns hownz hrl
        go_wp2_with fail
        go_loop [8, 9, 39] (fun a b i => ∃ k : Nat, k ≤ R.length ∧ i = .int .i64 k ∧ a = .int .i64 (partUp true S R k) ∧ b = .int .i64 (partUp false S R k)) (fun _ _ i => R.length - (intOf i).toNat)
        case atStart => exact ⟨0, Nat.zero_le _, rfl, by rw [partUp_zero], by rw [partUp_zero]⟩
        case round =>
          obtain ⟨k, hk, rfl, rfl, rfl⟩ := hrel
          by_cases hlt2 : k < R.length
          · have hrl := HRL.out
            have hlt : k < S.length := by omega
            obtain ⟨g1, off1, rfl, _, hg1, hcl1, _⟩ := hcell1 (by omega)
            obtain ⟨g2, off2, rfl, hg2, hcl2⟩ := hcell2 (by omega)
            have hck1 : w1.cell? ⟨g1, off1 + k, none⟩ = some (.int .i64 R[k]) := by rw [hcl1 k hlt2, getD_lt hlt2]
            have hck2 : w1.cell? ⟨g2, off2 + k, none⟩ = some (.int .i64 S[k]) := by rw [hcl2 k hlt, getD_lt hlt]
            have hr1 := hbd _ (List.getElem_mem hlt2)
            have hP1 := partUp_bd true hbd (by omega) hrl.symm k
            have hP2 := partUp_bd false hbd (by omega) hrl.symm k
            have HU := hide (partUp_succ true hlt hlt2)
            have HD := hide (partUp_succ false hlt hlt2)
            clear hcl1 hcl2 hcell1 hcell2 hbd hrl
            by_cases hp : 0 < S[k]
            · go_wp2
              go_round
              case rel => exact ⟨k + 1, by omega, by go_num, by rw [HU.out]; simp [hp], by rw [HD.out]; simp [hp]⟩
              case measure => simp [intOf]; omega
            · go_wp2
              go_round
              case rel => exact ⟨k + 1, by omega, by go_num, by rw [HU.out]; simp [hp], by rw [HD.out]; simp [hp]⟩
              case measure => simp [intOf]; omega
          · obtain rfl : k = R.length := by omega
            go_wp2
            go_ret2
            rw [hPT.out, hPF.out]
            exact ⟨rfl, by (repeat (first | exact Below.refl _ _ | assumption | refine Below.setCell ?_ (by first | (simp; done) | omega | (simp; omega) | (simp at *; omega)) _ | refine Below.drew ?_ | refine below_drewN ?_ _ | refine below_alloc' ?_ _ | refine below_to' ?_ (by assumption)))⟩
  · have HP : Hid (signedUp true xs = -1) := by show _ = _; rw [signedUp, if_neg hok]
    have HQ : Hid (signedUp false xs = -1) := by show _ = _; rw [signedUp, if_neg hok]
    obtain ⟨A, c, rfl, hc, hm, hcell⟩ := hr
    clear hcell
    go_enter Try.func14, Try.ntmps14
    go_wp2_with fail
    refine (ValidData_c _ xs false _ hr' (by simpa using hok)).mono ?_
    rintro e w0 ⟨rfl, hb0⟩
    go_wp2_with fail
    go_ret2
    rw [HP.out, HQ.out]
    exact ⟨rfl, hb0⟩

set_option maxHeartbeats 1000000 in
theorem FnExactSignedRanks_c (v : Value) (xs : List Int) (w : World) (hr : Rd w v xs) :
    Calls Try.prog 3 #[v] w fun e w' => e = .returned (.bool true) ∧ Below w.heap.size w w' := by
  have hr' := hr
  obtain ⟨A, c, rfl, hc, hm, hcell⟩ := hr
  clear hcell
  by_cases hbig : 1048576 < xs.length
  · go_enter Try.func3, Try.ntmps3
    go_wp2
    go_ret
    exact ⟨rfl, Below.refl _ _⟩
  · obtain ⟨X, hX⟩ : ∃ X, signedUp true xs = X := ⟨_, rfl⟩
    obtain ⟨Y, hY⟩ : ∃ Y, signedUp false xs = Y := ⟨_, rfl⟩
    go_enter Try.func3, Try.ntmps3
    go_wp2_with fail
    refine (toIntS_c _ xs _ hr' (by omega)).mono ?_
    rintro e w1 ⟨v1, rfl, hs1, hb1⟩
    go_wp2_with fail
    refine (SignedS_c _ xs _ hs1.rd).mono ?_
    rw [hX, hY]
    rintro e w2 ⟨rfl, hb2⟩
    go_wp2_with fail
    refine (toIntS_c _ xs _ (Rd.below hr' (by (repeat (first | exact Below.refl _ _ | assumption | refine Below.setCell ?_ (by first | (simp; done) | omega | (simp; omega) | (simp at *; omega)) _ | refine Below.drew ?_ | refine below_drewN ?_ _ | refine below_alloc' ?_ _ | refine below_to' ?_ (by assumption))))) (by omega)).mono ?_
    rintro e w3 ⟨v3, rfl, hs3, hb3⟩
    have hrd3 := hs3.rd
    go_wp2_with fail
    refine (SignedI_c _ xs _ hs3.rd).mono ?_
    rw [hX, hY]
    rintro e w4 ⟨rfl, hb4⟩
    go_wp2_with fail
    refine (toIntS_c _ xs _ (Rd.below hr' (by (repeat (first | exact Below.refl _ _ | assumption | refine Below.setCell ?_ (by first | (simp; done) | omega | (simp; omega) | (simp at *; omega)) _ | refine Below.drew ?_ | refine below_drewN ?_ _ | refine below_alloc' ?_ _ | refine below_to' ?_ (by assumption))))) (by omega)).mono ?_
    rintro e w5 ⟨v5, rfl, hs5, hb5⟩
    go_wp2_with fail
    refine (eqIntS_c _ _ xs xs true _ (Rd.below hrd3 (by (repeat (first | exact Below.refl _ _ | assumption | refine Below.setCell ?_ (by first | (simp; done) | omega | (simp; omega) | (simp at *; omega)) _ | refine Below.drew ?_ | refine below_drewN ?_ _ | refine below_alloc' ?_ _ | refine below_to' ?_ (by assumption))))) hs5.rd (by simp)).mono ?_
    rintro e w6 ⟨rfl, hb6⟩
    go_wp2_with fail
    go_ret
    exact ⟨rfl, by (repeat (first | exact Below.refl _ _ | assumption | refine Below.setCell ?_ (by first | (simp; done) | omega | (simp; omega) | (simp at *; omega)) _ | refine Below.drew ?_ | refine below_drewN ?_ _ | refine below_alloc' ?_ _ | refine below_to' ?_ (by assumption)))⟩
end Go.Proofs.Ytipmakmidadalaa
