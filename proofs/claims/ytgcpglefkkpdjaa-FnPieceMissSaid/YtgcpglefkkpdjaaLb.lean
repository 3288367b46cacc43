/-
  The statement FnPieceMiss: for every code it returns true and writes nothing that was there.
-/
import Derived.Test.YtgcpglefkkpdjaaPM
import Derived.Test.YtgcpglefkkpdjaaMissLaw
import Derived.Test.YtgcpglefkkpdjaaDraws9
namespace Go.Proofs.Ytgcpglefkkpdjaa
open Go.RowKit

set_option maxHeartbeats 400000 in
theorem lessOf_c (a b c d : Int) (r : Bool) (w : World) (ha : -1000000000 ≤ a ∧ a ≤ 1000000000) (hb : 0 < b ∧ b ≤ 1000000000) (hc : -1000000000 ≤ c ∧ c ≤ 1000000000) (hd : 0 < d ∧ d ≤ 1000000000) (hr : decide (a * d < c * b) = r) :
    Calls Try.prog 28 #[.agg #[.int .i64 a, .int .i64 b], .agg #[.int .i64 c, .int .i64 d]] w fun e w' => e = .returned (.bool r) ∧ Below w.heap.size w w' := by
  have h1 := mul_bds (a := a) (b := d) (M := 1000000000) (N := 1000000000) (by omega) (by omega)
  have h2 := mul_bds (a := c) (b := b) (M := 1000000000) (N := 1000000000) (by omega) (by omega)
  have HR := hide hr
  clear hr
  go_enter Try.func28, Try.ntmps28
  go_wp2
  go_ret
  refine ⟨ret_bool HR.out, ?_⟩
  (repeat (first | exact Below.refl _ _ | assumption | refine Below.setCell ?_ (by first | (simp; done) | omega | (simp; omega) | (simp at *; omega)) _ | refine Below.drew ?_ | refine below_drewN ?_ _ | refine below_alloc' ?_ _ | refine below_to' ?_ (by assumption)))

/-- All numbers of a piece are the same as its first one. -/
def sameB (xs : List Int) (i m : Nat) : Bool := (seg xs i m).all fun z => z == xs.getD i 0
theorem sameB_succ {xs : List Int} {i m : Nat} (hi : i ≤ m) (hm : m < xs.length) : sameB xs i (m + 1) = (sameB xs i m && (xs[m] == xs.getD i 0)) := by
  simp [sameB, seg_succ hi hm]
theorem sameB_iff {xs : List Int} {i m : Nat} (hi : i < m) (hm : m ≤ xs.length) : sameB xs i m = true ↔ missN (seg xs i m) = 0 := by
  rw [(missN_nonneg _ _ rfl).2]
  have h0 : xs.getD i 0 ∈ seg xs i m := by
    rw [getD_lt (by omega)]
    have h := seg_len (xs := xs) (i := i) hm
    have : (seg xs i m)[0]? = some (xs[i]'(by omega)) := by
      simp [seg, List.getElem?_take, show 0 < m - i from by omega]
    exact List.mem_of_getElem? this
  simp only [sameB, List.all_eq_true, beq_iff_eq]
  exact ⟨fun h z hz y hy => by rw [h z hz, h y hy], fun h z hz => h z hz _ h0⟩

theorem miss_more {xs : List Int} {i k : Nat} (hik : i ≤ k) (hk : k + 1 < xs.length) : ¬ missR (seg xs i (k + 1 + 1)) < missR (seg xs i (k + 1)) := by
  have h1 := seg_len (xs := xs) (i := i) (k := k + 1) (by omega)
  have h2 := seg_len (xs := xs) (i := i) (k := k + 1 + 1) (by omega)
  rw [missR_eq, missR_eq, qf_lt (by omega) (by omega), seg_succ (by omega) hk]
  have := missN_mul (seg xs i (k + 1)) xs[k + 1]
  have e : (((seg xs i (k + 1) ++ [xs[k + 1]]).length : Nat) : Int) = ((seg xs i (k + 1)).length : Int) + 1 := by simp
  rw [e]
  omega
theorem miss_zero {xs : List Int} {i k : Nat} (hik : i ≤ k) (hk : k < xs.length) : ((missR (seg xs i (k + 1))).num == 0) = sameB xs i (k + 1) := by
  have h1 := seg_len (xs := xs) (i := i) (k := k + 1) (by omega)
  rw [Bool.eq_iff_iff, beq_iff_eq, sameB_iff (by omega) (by omega), missR_eq, qf_num_zero _ _ (by omega)]
theorem miss_bounds {xs : List Int} {i k : Nat} (hall : allB (-30) 30 xs = true) (hl : xs.length ≤ 8) (hik : i < k) (hk : k ≤ xs.length) :
    (-1000000000 ≤ (missR (seg xs i k)).num ∧ (missR (seg xs i k)).num ≤ 1000000000) ∧ 0 < ((missR (seg xs i k)).den : Int) ∧ ((missR (seg xs i k)).den : Int) ≤ 8 := by
  have h1 := seg_len (xs := xs) (i := i) hk
  obtain ⟨hs, hq⟩ := sums_bound (seg_allB hall i k)
  have hP := mul_bd (a := ((seg xs i k).length : Int)) (b := sqL (seg xs i k)) (M := 8) (N := 7200) (by omega) (by omega)
  have hS := sq_le (x := sumL (seg xs i k)) (m := 240) (by omega)
  have := qf_bounds (u := missN (seg xs i k)) (d := (seg xs i k).length) (M := 1000000000) (N := 8) (by unfold missN; omega) (by omega)
  exact this

set_option maxHeartbeats 1000000 in
theorem FnPieceMiss_c (A : Option Addr) (n c : Nat) (bs : List Int) (w : World) (hl : bs.length = n) (hnc : n ≤ c) (hc : c ≤ 9223372036854775807) (hr : Rd8 w w.heap.size A bs) :
    Calls Try.prog 7 #[.slice A n c] w fun e w' => e = .returned (.bool true) ∧ Below w.heap.size w w' := by
  by_cases hbig : 1048576 < n
  · go_enter Try.func7, Try.ntmps7
    go_wp2
    go_ret
    exact ⟨rfl, Below.refl _ _⟩
  · go_enter Try.func7, Try.ntmps7
    go_wp2_with fail
    refine (DrawPieceMiss_c A n c bs _ hl hnc hc hr).mono ?_
    rintro e w1 ⟨v, xs, i, k, rfl, hsl, hxl, hi1, hi2, hk1, hk2, hb1⟩
    have hrd := hsl.rd
    by_cases hok : okPM xs i k
    · obtain ⟨i, rfl⟩ := Int.eq_ofNat_of_zero_le hok.2.1
      obtain ⟨k, rfl⟩ := Int.eq_ofNat_of_zero_le (Int.le_trans hok.2.1 hok.2.2.1)
      have HO := hide hok
      clear hok
      go_wp2_with fail
      refine (PieceMissI_yes _ xs i k _ hrd HO.out).mono ?_
      rintro e w2 ⟨rfl, hb2⟩
      go_wp2_with fail
      refine (PieceMissS_yes _ xs i k _ (Rd.below hrd (by (repeat (first | exact Below.refl _ _ | assumption | refine Below.setCell ?_ (by first | (simp; done) | omega | (simp; omega) | (simp at *; omega)) _ | refine Below.drew ?_ | refine below_drewN ?_ _ | refine below_alloc' ?_ _ | refine below_to' ?_ (by assumption))))) HO.out).mono ?_
      rintro e w3 ⟨rfl, hb3⟩
      obtain ⟨hc3, hf3⟩ := bcell hb3
      have hz3 := hb3.size
      have hz3' : w2.heap.size < w3.heap.size := by simp at hz3; omega
      have hrd3 : Rd (w3.alloc (.cells #[.int .i64 (missR (seg xs i (k + 1))).num, .int .i64 ((missR (seg xs i (k + 1))).den : Int)] 29)) v xs := (Rd.below hrd (by (repeat (first | exact Below.refl _ _ | assumption | refine Below.setCell ?_ (by first | (simp; done) | omega | (simp; omega) | (simp at *; omega)) _ | refine Below.drew ?_ | refine below_drewN ?_ _ | refine below_alloc' ?_ _ | refine below_to' ?_ (by assumption)))))
      obtain ⟨_, _, hik, hkl⟩ := HO.out
      have hik' : i ≤ k := by omega
      have hkl' : k < xs.length := by omega
      clear hik hkl
      obtain ⟨Av, cv, rfl, hcv, hmv, hcell⟩ := id hrd3
      obtain ⟨g, off, rfl, hg, hcl⟩ := hcell (by omega)
      have hci := hcl i (by omega)
      rw [getD_lt (by omega)] at hci
      clear hcell
      have HC := hide hcl
      clear hcl
      go_wp2_with fail
      go_loopw [10, 11] (fun s j wr => ∃ m : Nat, i ≤ m ∧ m ≤ k + 1 ∧ j = .int .i64 m ∧ s = .bool (sameB xs i m) ∧ ∃ nd, wr = (w3.alloc (.cells #[.int .i64 (missR (seg xs i (k + 1))).num, .int .i64 ((missR (seg xs i (k + 1))).den : Int)] 29)).drewN nd) (fun _ j _ => k + 1 - (intOf j).toNat)
      case atStart => exact ⟨i, Nat.le_refl _, by omega, rfl, by simp [sameB, seg_self], 0, rfl⟩
      case round =>
        obtain ⟨m, him, hmk, rfl, rfl, nd, rfl⟩ := hrel
        by_cases hlt : m ≤ k
        · have hck := HC.out m (by omega)
          rw [getD_lt (by omega)] at hck
          have hi1 : (m : Int) < (xs.length : Int) := by omega
          have hi2 : (i : Int) < (xs.length : Int) := by omega
          have HS := hide (sameB_succ (xs := xs) him (by omega))
          rw [getD_lt (by omega)] at HS
          cases hsb : sameB xs i m
          · have HB := hide hsb
            clear hsb
            go_wp2
            go_quiet (fail)
            go_wp2
            go_roundw
            case rel => exact ⟨m + 1, by omega, by omega, by go_num, by rw [HS.out, HB.out]; rfl, _, rfl⟩
            case measure => simp [intOf]; omega
          · have HB := hide hsb
            clear hsb
            go_wp2
            go_quiet (fail)
            go_wp2
            go_roundw
            case rel => exact ⟨m + 1, by omega, by omega, by go_num, by rw [HS.out, HB.out]; rfl, _, rfl⟩
            case measure => simp [intOf]; omega
        · obtain rfl : m = k + 1 := by omega
          have HZ := hide (miss_zero (xs := xs) hik' hkl')
          obtain ⟨hall, hl1, hl2⟩ := okSteps_all HO.out.1
          have HB1 := hide (miss_bounds hall hl2 (show i < k + 1 by omega) (by omega))
          have hrd4 := hrd3.drewN nd
          clear hall
          go_wp2_with fail
          by_cases hk1 : k + 1 < xs.length
          · have HB2 := hide (miss_bounds (xs := xs) (okSteps_all HO.out.1).1 hl2 (show i < k + 1 + 1 by omega) (by omega))
            have HM := hide (miss_more hik' hk1)
            refine (PieceMissI_yes _ xs i (k + 1) _ hrd4 ⟨HO.out.1, by omega, by omega, by omega⟩).mono ?_
            rintro e w5 ⟨rfl, hb5⟩
            obtain ⟨hc5, hf5⟩ := bcell hb5
            have hz5 := hb5.size
            have hz5' : w3.heap.size < w5.heap.size := by simp at hz5; omega
            have hz5'' : w2.heap.size < w5.heap.size := by omega
            have hzz := HZ.out
            go_wp2_with fail
            obtain ⟨hn1, hd1, hd2⟩ := HB1.out
            obtain ⟨hn2, hd3, hd4⟩ := HB2.out
            refine (lessOf_c _ _ _ _ false _ hn2 ⟨hd3, by omega⟩ hn1 ⟨hd1, by omega⟩ (by have := HM.out; rw [Rat.lt_iff] at this; simpa using this)).mono ?_
            rintro e w6 ⟨rfl, hb6⟩
            go_wp2_with fail
            go_ret
            refine ⟨rfl, ?_⟩
            (repeat (first | exact Below.refl _ _ | assumption | refine Below.setCell ?_ (by first | (simp; done) | omega | (simp; omega) | (simp at *; omega)) _ | refine Below.drew ?_ | refine below_drewN ?_ _ | refine below_alloc' ?_ _ | refine below_to' ?_ (by assumption)))
          · refine (PieceMissI_no _ xs i (k + 1 : Nat) _ hrd4 (fun h => hk1 (by have := h.2.2.2; omega))).mono ?_
            rintro e w5 ⟨rfl, hb5⟩
            obtain ⟨hc5, hf5⟩ := bcell hb5
            have hz5 := hb5.size
            have hz5' : w3.heap.size < w5.heap.size := by simp at hz5; omega
            have hz5'' : w2.heap.size < w5.heap.size := by omega
            have hzz := HZ.out
            go_wp2_with fail
            go_ret
            refine ⟨rfl, ?_⟩
            (repeat (first | exact Below.refl _ _ | assumption | refine Below.setCell ?_ (by first | (simp; done) | omega | (simp; omega) | (simp at *; omega)) _ | refine Below.drew ?_ | refine below_drewN ?_ _ | refine below_alloc' ?_ _ | refine below_to' ?_ (by assumption)))
    · have HO := hide hok
      clear hok
      go_wp2_with fail
      refine (PieceMissI_no _ xs i k _ hrd HO.out).mono ?_
      rintro e w2 ⟨rfl, hb2⟩
      go_wp2_with fail
      refine (PieceMissS_no _ xs i k _ (Rd.below hrd (by (repeat (first | exact Below.refl _ _ | assumption | refine Below.setCell ?_ (by first | (simp; done) | omega | (simp; omega) | (simp at *; omega)) _ | refine Below.drew ?_ | refine below_drewN ?_ _ | refine below_alloc' ?_ _ | refine below_to' ?_ (by assumption))))) HO.out (by omega) (by omega)).mono ?_
      rintro e w3 ⟨rfl, hb3⟩
      obtain ⟨hc3, hf3⟩ := bcell hb3
      have hz3 := hb3.size
      have hz3' : w2.heap.size < w3.heap.size := by simp at hz3; omega
      go_wp2_with fail
      go_ret
      refine ⟨rfl, ?_⟩
      (repeat (first | exact Below.refl _ _ | assumption | refine Below.setCell ?_ (by first | (simp; done) | omega | (simp; omega) | (simp at *; omega)) _ | refine Below.drew ?_ | refine below_drewN ?_ _ | refine below_alloc' ?_ _ | refine below_to' ?_ (by assumption)))
end Go.Proofs.Ytgcpglefkkpdjaa
