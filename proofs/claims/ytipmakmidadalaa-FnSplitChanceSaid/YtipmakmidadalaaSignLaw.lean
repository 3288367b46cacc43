/-
  The statement FnSignedRanks: for every code it returns true and writes nothing that was there.
-/
import Derived.Test.YtipmakmidadalaaSignedI
import Derived.Test.YtipmakmidadalaaRankP
import Derived.Test.YtipmakmidadalaaHelp
import Derived.Test.YtipmakmidadalaaDraw12
namespace Go.Proofs.Ytipmakmidadalaa
open Go.RowKit

theorem okData_neg (xs : List Int) : okData (negL xs) = okData xs := by
  have h : allB (-200) 200 (negL xs) = allB (-200) 200 xs := by
    rw [Bool.eq_iff_iff]
    constructor
    · intro h
      refine allB_iff.2 fun x hx => ?_
      have := allB_iff.1 h (-x) (List.mem_map.2 ⟨x, hx, rfl⟩)
      omega
    · exact negL_allB
  rw [okData, okData, h, negL_len]
theorem nzL_neg (xs : List Int) : nzL (negL xs) = negL (nzL xs) := by
  simp only [nzL, negL, List.filter_map]
  congr 1
  apply List.filter_congr
  intro x _
  simp
theorem absL_neg (xs : List Int) : absL (negL xs) = absL xs := by
  simp only [absL]
  rw [nzL_neg]
  simp only [negL, List.map_map]
  apply List.map_congr_left
  intro x _
  simp only [Function.comp]
  omega
theorem partUp_neg (p : Bool) {ss rs : List Int} (h0 : ∀ s ∈ ss, s ≠ 0) (k : Nat) : partUp p (negL ss) rs k = partUp (!p) ss rs k := by
  simp only [partUp, negL]
  rw [List.zip_map_left, ← List.map_take, List.map_map]
  congr 1
  apply List.map_congr_left
  intro q hq
  have hm : q.1 ∈ ss := by
    have := List.mem_of_mem_take hq
    exact (List.of_mem_zip (a := q.1) (b := q.2) this).1
  have := h0 _ hm
  simp only [Function.comp, Prod.map, id]
  by_cases hp : 0 < q.1
  · have : ¬ (0 < -q.1) := by omega
    cases p <;> simp [hp, this] <;> omega
  · have : 0 < -q.1 := by omega
    cases p <;> simp [hp, this] <;> omega
theorem partUp_both {ss rs : List Int} (hl : ss.length = rs.length) : ∀ k, k ≤ ss.length → partUp true ss rs k + partUp false ss rs k = sumL (rs.take k) := by
  intro k
  induction k with
  | zero => intro _; simp [partUp_zero, sumL_nil]
  | succ k ih =>
    intro hk
    have h1 : k < ss.length := by omega
    have h2 : k < rs.length := by omega
    rw [partUp_succ true h1 h2, partUp_succ false h1 h2, sumL_take h2, ← ih (by omega)]
    by_cases hp : 0 < ss[k]
    · simp [hp]; omega
    · simp [hp]; omega
theorem signed_facts {xs : List Int} (h : okData xs = true) : signedUp true xs + signedUp false xs = (nzL xs).length * ((nzL xs).length + 1) ∧ signedUp true (negL xs) = signedUp false xs ∧ signedUp false (negL xs) = signedUp true xs ∧ 0 ≤ signedUp true xs ∧ signedUp true xs ≤ 1000 ∧ 0 ≤ signedUp false xs ∧ signedUp false xs ≤ 1000 := by
  have hl : (nzL xs).length = (rankL (absL xs)).length := by rw [rankL_len, absL_len]
  have h0 : ∀ s ∈ nzL xs, s ≠ 0 := fun s hs => by simpa [nzL] using (List.mem_filter.1 hs).2
  have hlen := (okData_all h).2
  have hnl := nzL_len xs
  have hbd : ∀ r ∈ rankL (absL xs), 0 ≤ r ∧ r ≤ 100 := fun r hr => by have := rankL_bd hr; rw [absL_len] at this; omega
  have b1 := partUp_bd true hbd (by omega) hl (nzL xs).length
  have b2 := partUp_bd false hbd (by omega) hl (nzL xs).length
  have hs := partUp_both hl _ (Nat.le_refl _)
  have hn := partUp_neg true (rs := rankL (absL xs)) h0 (nzL xs).length
  have hm := partUp_neg false (rs := rankL (absL xs)) h0 (nzL xs).length
  have hz : (nzL (negL xs)).length = (nzL xs).length := by rw [nzL_neg, negL_len]
  simp only [signedUp, okData_neg, h, if_true, absL_neg, hz]
  rw [nzL_neg]
  refine ⟨?_, hn, hm, by omega, by omega, by omega, by omega⟩
  rw [hs, hl, List.take_length, sum_rankL, rankL_len]
theorem signed_bad {xs : List Int} (h : okData xs = false) : signedUp true xs = -1 := by simp [signedUp, h]

set_option maxHeartbeats 1000000 in
theorem FnSignedRanks_c (A : Option Addr) (n c : Nat) (bs : List Int) (w : World) (hl : bs.length = n) (hnc : n ≤ c) (hc : c ≤ 9223372036854775807) (hr : Rd8 w w.heap.size A bs) :
    Calls Try.prog 9 #[.slice A n c] w fun e w' => e = .returned (.bool true) ∧ Below w.heap.size w w' := by
  by_cases hbig : 1048576 < n
  · go_enter Try.func9, Try.ntmps9
    go_wp2
    go_ret
    exact ⟨rfl, Below.refl _ _⟩
  · go_enter Try.func9, Try.ntmps9
    go_wp2_with fail
    refine (DrawSignedRanks_c A n c bs _ hl hnc hc hr).mono ?_
    rintro e w1 ⟨v, xs, rfl, hsl, hxl, hb1⟩
    have hrd := hsl.rd
    by_cases hok : okData xs = true
    · obtain ⟨f1, f2, f3, f4, f5, f6, f7⟩ := signed_facts hok
      obtain ⟨hall, hlen⟩ := okData_all hok
      have hnl := nzL_len xs
      obtain ⟨X, hX⟩ : ∃ X, signedUp true xs = X := ⟨_, rfl⟩
      obtain ⟨Y, hY⟩ : ∃ Y, signedUp false xs = Y := ⟨_, rfl⟩
      obtain ⟨N, hN⟩ : ∃ N, (nzL xs).length = N := ⟨_, rfl⟩
      rw [hX, hY, hN] at f1
      rw [hX] at f3 f4 f5
      rw [hY] at f2 f6 f7
      rw [hN] at hnl
      have HX := hide hX
      have HY := hide hY
      have HN := hide hN
      have F1 := hide f1
      have F2 := hide f2
      have F3 := hide f3
      have hbn : allB (-1000000000) 1000000000 xs = true := allB_iff.2 fun x hx => by have := allB_iff.1 hall x hx; omega
      have HB := hide hbn
      clear hX hY hN f1 f2 f3 hok hall hbn
      have hmb := mul_pos_bd (a := (N : Int)) (b := (N : Int) + 1) (m := 10) (n := 11) (by omega) (by omega)
      go_wp2_with fail
      refine (SignedI_c _ xs _ hrd).mono ?_
      rw [HX.out, HY.out]
      rintro e w2 ⟨rfl, hb2⟩
      go_wp2_with fail
      refine (SignedS_c _ xs _ (Rd.below hrd (by (repeat (first | exact Below.refl _ _ | assumption | refine Below.setCell ?_ (by first | (simp; done) | omega | (simp; omega) | (simp at *; omega)) _ | refine Below.drew ?_ | refine below_drewN ?_ _ | refine below_alloc' ?_ _ | refine below_to' ?_ (by assumption)))))).mono ?_
      rw [HX.out, HY.out]
      rintro e w3 ⟨rfl, hb3⟩
      have hrd3 : Rd w3 v xs := (Rd.below hrd (by (repeat (first | exact Below.refl _ _ | assumption | refine Below.setCell ?_ (by first | (simp; done) | omega | (simp; omega) | (simp at *; omega)) _ | refine Below.drew ?_ | refine below_drewN ?_ _ | refine below_alloc' ?_ _ | refine below_to' ?_ (by assumption)))))
      have hb13 : Below w.heap.size w w3 := by (repeat (first | exact Below.refl _ _ | assumption | refine Below.setCell ?_ (by first | (simp; done) | omega | (simp; omega) | (simp at *; omega)) _ | refine Below.drew ?_ | refine below_drewN ?_ _ | refine below_alloc' ?_ _ | refine below_to' ?_ (by assumption)))
      obtain ⟨Av, cv, rfl, hcv, hmv, hcell⟩ := hrd3
      go_wp2_with fail
      go_loop [8, 9] (fun m i => ∃ k : Nat, k ≤ xs.length ∧ i = .int .i64 k ∧ m = .int .i64 (nzL (xs.take k)).length) (fun _ i => xs.length - (intOf i).toNat)
      case atStart => exact ⟨0, Nat.zero_le _, rfl, rfl⟩
      case round =>
        obtain ⟨k, hk, rfl, rfl⟩ := hrel
        by_cases hlt : k < xs.length
        · obtain ⟨g, off, rfl, hg, hcl⟩ := hcell (by omega)
          have hck : w3.cell? ⟨g, off + k, none⟩ = some (.int .i64 xs[k]) := by rw [hcl k hlt, getD_lt hlt]
          have hzl : (nzL (xs.take k)).length ≤ k := by have := nzL_len (xs.take k); simp at this; omega
          by_cases h0 : xs[k] = 0
          · have h0' : (xs[k] != 0) = false := by simp [h0]
            have HZ := hide (nzL_take_out hlt h0)
            clear h0 hcl hcell
            go_wp2
            go_round
            case rel => exact ⟨k + 1, by omega, by go_num, by rw [HZ.out]⟩
            case measure => simp [intOf]; omega
          · have h0' : (xs[k] != 0) = true := by simp [h0]
            have HZ := hide (nzL_take_in hlt h0)
            clear h0 hcl hcell
            go_wp2
            go_round
            case rel => exact ⟨k + 1, by omega, by go_num, by rw [HZ.out]; simp⟩
            case measure => simp [intOf]; omega
        · obtain rfl : k = xs.length := by omega
          rw [List.take_length, HN.out]
          have hrd3 : Rd w3 (.slice Av xs.length cv) xs := ⟨Av, cv, rfl, hcv, hmv, hcell⟩
          clear hcell
          go_wp2_with fail
          refine (negated_c _ xs _ hrd3 (by omega) HB.out).mono ?_
          rintro e w4 ⟨v4, rfl, hs4, hb4⟩
          go_wp2_with fail
          refine (SignedI_c _ (negL xs) _ hs4.rd).mono ?_
          rw [F2.out, F3.out]
          rintro e w5 ⟨rfl, hb5⟩
          have hxy : (X + Y == (N : Int) * ((N : Int) + 1)) = true := beq_iff_eq.2 F1.out
          go_wp2_with fail
          go_ret
          exact ⟨ret_bool (by simp [F1.out]), by (repeat (first | exact Below.refl _ _ | assumption | refine Below.setCell ?_ (by first | (simp; done) | omega | (simp; omega) | (simp at *; omega)) _ | refine Below.drew ?_ | refine below_drewN ?_ _ | refine below_alloc' ?_ _ | refine below_to' ?_ (by assumption)))⟩
    · have HM := hide (signed_bad (xs := xs) (by simpa using hok))
      obtain ⟨Y, hY⟩ : ∃ Y, signedUp false xs = Y := ⟨_, rfl⟩
      have HY := hide hY
      clear hY hok
      go_wp2_with fail
      refine (SignedI_c _ xs _ hrd).mono ?_
      rw [HM.out, HY.out]
      rintro e w2 ⟨rfl, hb2⟩
      go_wp2_with fail
      refine (SignedS_c _ xs _ (Rd.below hrd (by (repeat (first | exact Below.refl _ _ | assumption | refine Below.setCell ?_ (by first | (simp; done) | omega | (simp; omega) | (simp at *; omega)) _ | refine Below.drew ?_ | refine below_drewN ?_ _ | refine below_alloc' ?_ _ | refine below_to' ?_ (by assumption)))))).mono ?_
      rw [HM.out, HY.out]
      rintro e w3 ⟨rfl, hb3⟩
      go_wp2_with fail
      go_ret
      exact ⟨ret_bool (by simp), by (repeat (first | exact Below.refl _ _ | assumption | refine Below.setCell ?_ (by first | (simp; done) | omega | (simp; omega) | (simp at *; omega)) _ | refine Below.drew ?_ | refine below_drewN ?_ _ | refine below_alloc' ?_ _ | refine below_to' ?_ (by assumption)))⟩
end Go.Proofs.Ytipmakmidadalaa
