/-
  Contracts: PieceMiss, of the reference and of the program.
-/
import Derived.Test.YtgcpglefkkpdjaaMiss
import Derived.Test.YtgcpglefkkpdjaaFew
namespace Go.Proofs.Ytgcpglefkkpdjaa
open Go.RowKit

def okPM (xs : List Int) (i k : Int) : Prop := okSteps xs = true ∧ 0 ≤ i ∧ i ≤ k ∧ k < xs.length


set_option maxHeartbeats 400000 in
theorem PieceMissS_no (v : Value) (xs : List Int) (i k : Int) (w : World) (hr : Rd w v xs) (h : ¬ okPM xs i k) (hi : -9223372036854775808 ≤ i ∧ i ≤ 9223372036854775807) (hk : -9223372036854775808 ≤ k ∧ k ≤ 9223372036854775807) :
    Calls Try.prog 20 #[v, .int .i64 i, .int .i64 k] w fun e w' => e = .returned (.tuple #[.agg #[.int .i64 0, .int .i64 0], .bool false]) ∧ Below w.heap.size w w' := by
  have hr' := hr
  obtain ⟨A, c, rfl, hc, hm, hcell⟩ := hr
  clear hcell
  cases hok : okSteps xs
  · have HO := hide hok
    clear hok
    go_enter Try.func20, Try.ntmps20
    go_wp2_with (go_at_call 42; refine (validSteps_c _ xs false _ (hr'.alloc _) HO.out).mono ?_; rintro e w' ⟨rfl, rfl⟩)
    refine bodyPost_ret (v := .tuple #[.agg #[.int .i64 0, .int .i64 0], .bool false]) (by simp [results, Try.results20, go_sem]) rfl ⟨rfl, ?_⟩
    (repeat (first | exact Below.refl _ _ | assumption | refine Below.setCell ?_ (by first | (simp; done) | omega | (simp; omega) | (simp at *; omega)) _ | refine Below.drew ?_ | refine below_drewN ?_ _ | refine below_alloc' ?_ _ | refine below_to' ?_ (by assumption)))
  · obtain ⟨hall, hl1, hl2⟩ := okSteps_all hok
    have HO := hide hok
    by_cases h1 : 0 ≤ i ∧ i ≤ (xs.length : Int) - 1
    · have h2 : ¬ (i ≤ k ∧ k ≤ (xs.length : Int) - 1) := fun h2 => h ⟨hok, h1.1, h2.1, by omega⟩
      clear hok h hall
      obtain ⟨h1a, h1b⟩ := h1
      go_enter Try.func20, Try.ntmps20
      go_wp2_with (go_at_call 42; refine (validSteps_c _ xs true _ (hr'.alloc _) HO.out).mono ?_; rintro e w' ⟨rfl, rfl⟩)
      refine (inRange_c true _ _ _ _ (by simp; omega)).mono ?_
      rintro e w' ⟨rfl, rfl⟩
      go_wp2_with fail
      refine (inRange_c false _ _ _ _ (by simp; omega)).mono ?_
      rintro e w' ⟨rfl, rfl⟩
      go_wp2_with fail
      refine bodyPost_ret (v := .tuple #[.agg #[.int .i64 0, .int .i64 0], .bool false]) (by simp [results, Try.results20, go_sem]) rfl ⟨rfl, ?_⟩
      (repeat (first | exact Below.refl _ _ | assumption | refine Below.setCell ?_ (by first | (simp; done) | omega | (simp; omega) | (simp at *; omega)) _ | refine Below.drew ?_ | refine below_drewN ?_ _ | refine below_alloc' ?_ _ | refine below_to' ?_ (by assumption)))
    · clear hok h hall
      go_enter Try.func20, Try.ntmps20
      go_wp2_with (go_at_call 42; refine (validSteps_c _ xs true _ (hr'.alloc _) HO.out).mono ?_; rintro e w' ⟨rfl, rfl⟩)
      refine (inRange_c false _ _ _ _ (by simp; omega)).mono ?_
      rintro e w' ⟨rfl, rfl⟩
      go_wp2_with fail
      refine bodyPost_ret (v := .tuple #[.agg #[.int .i64 0, .int .i64 0], .bool false]) (by simp [results, Try.results20, go_sem]) rfl ⟨rfl, ?_⟩
      (repeat (first | exact Below.refl _ _ | assumption | refine Below.setCell ?_ (by first | (simp; done) | omega | (simp; omega) | (simp at *; omega)) _ | refine Below.drew ?_ | refine below_drewN ?_ _ | refine below_alloc' ?_ _ | refine below_to' ?_ (by assumption)))

set_option maxHeartbeats 400000 in
theorem PieceMissS_yes (v : Value) (xs : List Int) (i k : Nat) (w : World) (hr : Rd w v xs) (h : okPM xs i k) :
    Calls Try.prog 20 #[v, .int .i64 i, .int .i64 k] w fun e w' => e = .returned (.tuple #[.agg #[.int .i64 (missR (seg xs i (k + 1))).num, .int .i64 ((missR (seg xs i (k + 1))).den : Int)], .bool true]) ∧ Below w.heap.size w w' := by
  have hr' := hr
  obtain ⟨A, c, rfl, hc, hm, hcell⟩ := hr
  clear hcell
  obtain ⟨hok, h0, h1, h2⟩ := h
  obtain ⟨hall, hl1, hl2⟩ := okSteps_all hok
  have HO := hide hok
  have HA := hide hall
  clear hok hall
  go_enter Try.func20, Try.ntmps20
  go_wp2_with (go_at_call 42; refine (validSteps_c _ xs true _ (hr'.alloc _) HO.out).mono ?_; rintro e w' ⟨rfl, rfl⟩)
  refine (inRange_c true _ _ _ _ (by simp; omega)).mono ?_
  rintro e w' ⟨rfl, rfl⟩
  go_wp2_with fail
  refine (inRange_c true _ _ _ _ (by simp; omega)).mono ?_
  rintro e w' ⟨rfl, rfl⟩
  go_wp2_with fail
  refine (missS_c _ xs i (k + 1) _ (hr'.alloc _) HA.out (by omega) (by omega) (by omega)).mono ?_
  rintro e w' ⟨rfl, hb1⟩
  obtain ⟨hc1, hf1⟩ := bcell hb1
  have hz1 := hb1.size
  go_wp2_with fail
  refine bodyPost_ret (v := .tuple #[.agg #[.int .i64 (missR (seg xs i (k + 1))).num, .int .i64 ((missR (seg xs i (k + 1))).den : Int)], .bool true]) (by simp [results, Try.results20, go_sem, hc1]) rfl ⟨rfl, ?_⟩
  (repeat (first | exact Below.refl _ _ | assumption | refine Below.setCell ?_ (by first | (simp; done) | omega | (simp; omega) | (simp at *; omega)) _ | refine Below.drew ?_ | refine below_drewN ?_ _ | refine below_alloc' ?_ _ | refine below_to' ?_ (by assumption)))

set_option maxHeartbeats 400000 in
theorem PieceMissI_no (v : Value) (xs : List Int) (i k : Int) (w : World) (hr : Rd w v xs) (h : ¬ okPM xs i k) :
    Calls Try.prog 21 #[v, .int .i64 i, .int .i64 k] w fun e w' => e = .returned (.tuple #[.agg #[.int .i64 0, .int .i64 0], .bool false]) ∧ Below w.heap.size w w' := by
  have hr' := hr
  obtain ⟨A, c, rfl, hc, hm, hcell⟩ := hr
  clear hcell
  cases hok : okSteps xs
  · have HO := hide hok
    clear hok
    go_enter Try.func21, Try.ntmps21
    go_wp2_with (go_at_call 44; refine (rowValid_c _ xs false _ (hr'.alloc _) HO.out).mono ?_; rintro e w' ⟨rfl, hb1⟩; obtain ⟨hc1, hf1⟩ := bcell hb1; have hz1 := hb1.size)
    refine bodyPost_ret (v := .tuple #[.agg #[.int .i64 0, .int .i64 0], .bool false]) (by simp [results, Try.results21, go_sem, hc1]) rfl ⟨rfl, ?_⟩
    (repeat (first | exact Below.refl _ _ | assumption | refine Below.setCell ?_ (by first | (simp; done) | omega | (simp; omega) | (simp at *; omega)) _ | refine Below.drew ?_ | refine below_drewN ?_ _ | refine below_alloc' ?_ _ | refine below_to' ?_ (by assumption)))
  · obtain ⟨hall, hl1, hl2⟩ := okSteps_all hok
    have HO := hide hok
    by_cases h1 : i < 0
    · clear hok h hall
      go_enter Try.func21, Try.ntmps21
      go_wp2_with (go_at_call 44; refine (rowValid_c _ xs true _ (hr'.alloc _) HO.out).mono ?_; rintro e w' ⟨rfl, hb1⟩; obtain ⟨hc1, hf1⟩ := bcell hb1; have hz1 := hb1.size)
      refine bodyPost_ret (v := .tuple #[.agg #[.int .i64 0, .int .i64 0], .bool false]) (by simp [results, Try.results21, go_sem, hc1]) rfl ⟨rfl, ?_⟩
      (repeat (first | exact Below.refl _ _ | assumption | refine Below.setCell ?_ (by first | (simp; done) | omega | (simp; omega) | (simp at *; omega)) _ | refine Below.drew ?_ | refine below_drewN ?_ _ | refine below_alloc' ?_ _ | refine below_to' ?_ (by assumption)))
    · by_cases h2 : k < i
      · clear hok h hall
        go_enter Try.func21, Try.ntmps21
        go_wp2_with (go_at_call 44; refine (rowValid_c _ xs true _ (hr'.alloc _) HO.out).mono ?_; rintro e w' ⟨rfl, hb1⟩; obtain ⟨hc1, hf1⟩ := bcell hb1; have hz1 := hb1.size)
        refine bodyPost_ret (v := .tuple #[.agg #[.int .i64 0, .int .i64 0], .bool false]) (by simp [results, Try.results21, go_sem, hc1]) rfl ⟨rfl, ?_⟩
        (repeat (first | exact Below.refl _ _ | assumption | refine Below.setCell ?_ (by first | (simp; done) | omega | (simp; omega) | (simp at *; omega)) _ | refine Below.drew ?_ | refine below_drewN ?_ _ | refine below_alloc' ?_ _ | refine below_to' ?_ (by assumption)))
      · have h3 : (xs.length : Int) ≤ k := by
          by_cases h3 : k < xs.length
          · exact absurd ⟨hok, by omega, by omega, h3⟩ h
          · omega
        clear hok h hall
        go_enter Try.func21, Try.ntmps21
        go_wp2_with (go_at_call 44; refine (rowValid_c _ xs true _ (hr'.alloc _) HO.out).mono ?_; rintro e w' ⟨rfl, hb1⟩; obtain ⟨hc1, hf1⟩ := bcell hb1; have hz1 := hb1.size)
        refine bodyPost_ret (v := .tuple #[.agg #[.int .i64 0, .int .i64 0], .bool false]) (by simp [results, Try.results21, go_sem, hc1]) rfl ⟨rfl, ?_⟩
        (repeat (first | exact Below.refl _ _ | assumption | refine Below.setCell ?_ (by first | (simp; done) | omega | (simp; omega) | (simp at *; omega)) _ | refine Below.drew ?_ | refine below_drewN ?_ _ | refine below_alloc' ?_ _ | refine below_to' ?_ (by assumption)))

set_option maxHeartbeats 400000 in
theorem PieceMissI_yes (v : Value) (xs : List Int) (i k : Nat) (w : World) (hr : Rd w v xs) (h : okPM xs i k) :
    Calls Try.prog 21 #[v, .int .i64 i, .int .i64 k] w fun e w' => e = .returned (.tuple #[.agg #[.int .i64 (missR (seg xs i (k + 1))).num, .int .i64 ((missR (seg xs i (k + 1))).den : Int)], .bool true]) ∧ Below w.heap.size w w' := by
  have hr' := hr
  obtain ⟨A, c, rfl, hc, hm, hcell⟩ := hr
  clear hcell
  obtain ⟨hok, h0, h1, h2⟩ := h
  obtain ⟨hall, hl1, hl2⟩ := okSteps_all hok
  have HO := hide hok
  have HA := hide hall
  clear hok hall
  go_enter Try.func21, Try.ntmps21
  go_wp2_with (go_at_call 44; refine (rowValid_c _ xs true _ (hr'.alloc _) HO.out).mono ?_; rintro e w' ⟨rfl, hb1⟩; obtain ⟨hc1, hf1⟩ := bcell hb1; have hz1 := hb1.size)
  have hs := ((hr'.alloc (.cells #[.int .i64 0, .int .i64 0] 29)).below hb1).seg (i := i) (k := k + 1) (by omega) (by omega)
  have hls := seg_len (xs := xs) (i := i) (k := k + 1) (by omega)
  refine (pieceMiss_c _ _ _ hs (seg_allB HA.out _ _) (by omega) (by omega)).mono ?_
  clear hs hls
  rintro e w2 ⟨rfl, hb2⟩
  obtain ⟨hc2, hf2⟩ := bcell hb2
  have hz2 := hb2.size
  have hz3 : w.heap.size < w'.heap.size := by simp at hz1; omega
  go_wp2_with fail
  refine bodyPost_ret (v := .tuple #[.agg #[.int .i64 (missR (seg xs i (k + 1))).num, .int .i64 ((missR (seg xs i (k + 1))).den : Int)], .bool true]) (by simp [results, Try.results21, go_sem, hc1, hc2, hz3]) rfl ⟨rfl, ?_⟩
  (repeat (first | exact Below.refl _ _ | assumption | refine Below.setCell ?_ (by first | (simp; done) | omega | (simp; omega) | (simp at *; omega)) _ | refine Below.drew ?_ | refine below_drewN ?_ _ | refine below_alloc' ?_ _ | refine below_to' ?_ (by assumption)))

set_option maxHeartbeats 400000 in
theorem eqFrac_same (a b : Int) (w : World) : Calls Try.prog 22 #[.agg #[.int .i64 a, .int .i64 b], .agg #[.int .i64 a, .int .i64 b]] w fun e w' => e = .returned (.bool true) ∧ Below w.heap.size w w' := by
  go_enter Try.func22, Try.ntmps22
  go_wp2
  go_ret
  refine ⟨rfl, ?_⟩
  (repeat (first | exact Below.refl _ _ | assumption | refine Below.setCell ?_ (by first | (simp; done) | omega | (simp; omega) | (simp at *; omega)) _ | refine Below.drew ?_ | refine below_drewN ?_ _ | refine below_alloc' ?_ _ | refine below_to' ?_ (by assumption)))
end Go.Proofs.Ytgcpglefkkpdjaa
