/-
  Contracts: the bounds of chances (LowBound, HighBound), in the program and in its reference.
-/
import Derived.Test.YtgclgcfhcomplaaTwoP
namespace Go.Proofs.Ytgclgcfhcomplaa
open Go.RowKit

/-- The last number below m that is good, 0 if there is none. -/
def lastTo (good : Nat → Bool) : Nat → Nat
  | 0 => 0
  | m + 1 => if good m then m else lastTo good m
theorem lastTo_succ (good : Nat → Bool) (m : Nat) : lastTo good (m + 1) = if good m then m else lastTo good m := rfl
theorem lastTo_eq {good : Nat → Bool} {u : Nat} (hg : good u = true) : ∀ m : Nat, u < m → (∀ h, u < h → h < m → good h = false) → lastTo good m = u := by
  intro m
  induction m with
  | zero => intro h; omega
  | succ m ih =>
    intro hu hn
    rw [lastTo_succ]
    by_cases c : m = u
    · subst c; simp [hg]
    · rw [hn m (by omega) (by omega)]
      exact ih (by omega) fun h h1 h2 => hn h h1 (by omega)
theorem lastTo_spec {good : Nat → Bool} (h0 : good 0 = true) : ∀ m : Nat, good (lastTo good (m + 1)) = true ∧ lastTo good (m + 1) ≤ m ∧ ∀ h, lastTo good (m + 1) < h → h ≤ m → good h = false := by
  intro m
  induction m with
  | zero => simp [lastTo, h0]; omega
  | succ m ih =>
    rw [lastTo_succ]
    cases c : good (m + 1)
    · simp only [Bool.false_eq_true, if_false]
      refine ⟨ih.1, by omega, fun h h1 h2 => ?_⟩
      by_cases e : h = m + 1
      · subst e; exact c
      · exact ih.2.2 h h1 (by omega)
    · simp only [if_true]
      exact ⟨c, Nat.le_refl _, fun h h1 h2 => by omega⟩

/-- At most a of b of all ways have k hits. -/
def goodL (n k : Nat) (v a b : Int) (u : Nat) : Bool := decide (tailN n k u v * b ≤ a * powN v n)
theorem powN_zero0 (n : Nat) : powN 0 (n + 1) = 0 := by rw [powN_succ]; simp
theorem powN_nonneg {x : Int} (h : 0 ≤ x) (n : Nat) : 0 ≤ powN x n := (powN_mono h (Int.le_refl x) n).1
theorem partN_zero {p : Nat → Bool} {n : Nat} {u w : Int} (h : ∀ k, k ≤ n → p k = true → termN n k u w = 0) : ∀ m, m ≤ n + 1 → partN p n u w m = 0 := by
  intro m
  induction m with
  | zero => intro _; rfl
  | succ m ih =>
    intro hm
    rw [partN_succ, ih (by omega)]
    cases c : p m
    · simp
    · simp [h m (by omega) c]
theorem tail_at0 {n k : Nat} (hk : 1 ≤ k) (v : Int) : tailN n k 0 v = 0 := partN_zero (fun h _ hp => by
  simp at hp
  obtain ⟨j, rfl⟩ : ∃ j, h = j + 1 := ⟨h - 1, by omega⟩
  rw [termN, powN_zero0]
  simp) _ (Nat.le_refl _)
theorem good0 {n k : Nat} {v a b : Int} (hk : 1 ≤ k) (hv : 0 ≤ v) (ha : 0 ≤ a) : goodL n k v a b 0 = true := by
  have e : tailN n k ((0 : Nat) : Int) v = 0 := tail_at0 hk v
  rw [goodL, e, Int.zero_mul]
  exact decide_eq_true (Int.mul_nonneg ha (powN_nonneg hv n))
/-- The ways with at most k hits, as the ways of misses. -/
theorem good_rev {n k u V : Nat} {a b : Int} (hk : k + 1 ≤ n) (hu : u ≤ V) : decide ((powN V n - tailN n ((k + 1 : Nat) : Int) u V) * b ≤ a * powN V n) = goodL n (n - k) V a b (V - u) := by
  have h1 := down_all n k (u : Int) (V : Int)
  have h2 := tailN_rev (n := n) (k := k) (by omega) (u : Int) (V : Int)
  rw [show ((k + 1 : Nat) : Int) = (k : Int) + 1 from by omega, h1, goodL, ← h2, show ((V - u : Nat) : Int) = (V : Int) - u from by omega]

def okLow (n k v a b : Int) : Bool := okTries n 0 v && (decide (1 ≤ k) && decide (k ≤ n)) && okLevel a b
theorem okLow_impl (n k v a b : Int) : okLow n k v a b = ((decide (1 ≤ n) && decide (n ≤ 10)) && (decide (1 ≤ k) && decide (k ≤ n)) && (decide (1 ≤ v) && decide (v ≤ 12)) && okLevel a b) := by
  rw [Bool.eq_iff_iff]
  simp [okLow, okTries]
  intro _
  omega
def okHigh (n k v a b : Int) : Bool := okTries n 0 v && (decide (0 ≤ k) && decide (k ≤ n - 1)) && okLevel a b
theorem okHigh_impl (n k v a b : Int) : okHigh n k v a b = ((decide (1 ≤ n) && decide (n ≤ 10)) && (decide (0 ≤ k) && decide (k ≤ n - 1)) && (decide (1 ≤ v) && decide (v ≤ 12)) && okLevel a b) := by
  rw [Bool.eq_iff_iff]
  simp [okHigh, okTries]
  intro _
  omega
theorem okHigh_low (n k v a b : Int) : okLow n (n - k) v a b = okHigh n k v a b := by
  rw [Bool.eq_iff_iff]
  simp [okHigh, okLow, okTries]
  intro _
  omega
def lowX (n k v a b : Int) : Int := if okLow n k v a b then ((lastTo (goodL n.toNat k.toNat v a b) (v.toNat + 1) : Nat) : Int) else -1
def highX (n k v a b : Int) : Int := if okHigh n k v a b then v - lowX n (n - k) v a b else -1
theorem lowX_bad {n k v a b : Int} (h : okLow n k v a b = false) : lowX n k v a b = -1 := by simp [lowX, h]
theorem lowX_ok {n k V : Nat} {a b : Int} (h : okLow n k V a b = true) : lowX n k V a b = ((lastTo (goodL n k V a b) (V + 1) : Nat) : Int) := by simp [lowX, h]
theorem highX_bad {n k v a b : Int} (h : okHigh n k v a b = false) : highX n k v a b = -1 := by simp [highX, h]
theorem highX_ok {n k v a b : Int} (h : okHigh n k v a b = true) : highX n k v a b = v - lowX n (n - k) v a b := by simp [highX, h]
theorem highX_eq {n k u V : Nat} {a b : Int} (h : okHigh n k V a b = true) (hk : k + 1 ≤ n) (hu : u ≤ V) (hg : goodL n (n - k) V a b (V - u) = true) (hn : ∀ h, h < u → goodL n (n - k) V a b (V - h) = false) : highX n k V a b = u := by
  have h2 : okLow n ((n - k : Nat) : Int) V a b = true := by rw [show ((n - k : Nat) : Int) = (n : Int) - k from by omega, okHigh_low, h]
  have e : lastTo (goodL n (n - k) V a b) (V + 1) = V - u := lastTo_eq hg _ (by omega) fun h h1 h3 => by
    have := hn (V - h) (by omega)
    rwa [show V - (V - h) = h from by omega] at this
  rw [highX_ok h, show (n : Int) - k = ((n - k : Nat) : Int) from by omega, lowX_ok h2, e]
  omega

set_option maxHeartbeats 2000000 in
theorem LowI_c (n k v a b : Int) (w : World) (hn : -9223372036854775808 ≤ n - 1 ∧ n ≤ 9223372036854775807) : Calls Try.prog 24 #[.int .i64 n, .int .i64 k, .int .i64 v, .int .i64 a, .int .i64 b] w fun e w' =>
    e = .returned (.int .i64 (lowX n k v a b)) ∧ Below w.heap.size w w' := by
  cases h1 : (decide (1 ≤ n) && decide (n ≤ 10))
  · have HX := hide (lowX_bad (n := n) (k := k) (v := v) (a := a) (b := b) (by rw [okLow_impl, h1]; rfl))
    have H1 := hide h1
    clear h1
    go_enter Try.func24, Try.ntmps24
    go_wp2_with fail
    refine (in_c false _ _ _ _ H1.out).mono ?_
    rintro e w' ⟨rfl, rfl⟩
    go_wp2_with fail
    go_ret
    exact ⟨ret_int HX.out.symm, Below.refl _ _⟩
  cases h2 : (decide (1 ≤ k) && decide (k ≤ n))
  · have HX := hide (lowX_bad (n := n) (k := k) (v := v) (a := a) (b := b) (by rw [okLow_impl, h1, h2]; rfl))
    have H1 := hide h1
    have H2 := hide h2
    clear h1 h2
    go_enter Try.func24, Try.ntmps24
    go_wp2_with fail
    refine (in_c true _ _ _ _ H1.out).mono ?_
    rintro e w' ⟨rfl, rfl⟩
    go_wp2_with fail
    refine (in_c false _ _ _ _ H2.out).mono ?_
    rintro e w' ⟨rfl, rfl⟩
    go_wp2_with fail
    go_ret
    exact ⟨ret_int HX.out.symm, Below.refl _ _⟩
  cases h3 : (decide (1 ≤ v) && decide (v ≤ 12))
  · have HX := hide (lowX_bad (n := n) (k := k) (v := v) (a := a) (b := b) (by rw [okLow_impl, h1, h2, h3]; rfl))
    have H1 := hide h1
    have H2 := hide h2
    have H3 := hide h3
    clear h1 h2 h3
    go_enter Try.func24, Try.ntmps24
    go_wp2_with fail
    refine (in_c true _ _ _ _ H1.out).mono ?_
    rintro e w' ⟨rfl, rfl⟩
    go_wp2_with fail
    refine (in_c true _ _ _ _ H2.out).mono ?_
    rintro e w' ⟨rfl, rfl⟩
    go_wp2_with fail
    refine (in_c false _ _ _ _ H3.out).mono ?_
    rintro e w' ⟨rfl, rfl⟩
    go_wp2_with fail
    go_ret
    exact ⟨ret_int HX.out.symm, Below.refl _ _⟩
  · cases h4 : okLevel a b
    · have HX := hide (lowX_bad (n := n) (k := k) (v := v) (a := a) (b := b) (by rw [okLow_impl, h1, h2, h3, h4]; rfl))
      have H1 := hide h1
      have H2 := hide h2
      have H3 := hide h3
      have H4 := hide h4
      clear h1 h2 h3 h4
      go_enter Try.func24, Try.ntmps24
      go_wp2_with fail
      refine (in_c true _ _ _ _ H1.out).mono ?_
      rintro e w' ⟨rfl, rfl⟩
      go_wp2_with fail
      refine (in_c true _ _ _ _ H2.out).mono ?_
      rintro e w' ⟨rfl, rfl⟩
      go_wp2_with fail
      refine (in_c true _ _ _ _ H3.out).mono ?_
      rintro e w' ⟨rfl, rfl⟩
      go_wp2_with fail
      refine (levelI_c _ _ false _ H4.out).mono ?_
      rintro e w' ⟨rfl, rfl⟩
      go_wp2_with fail
      go_ret
      exact ⟨ret_int HX.out.symm, Below.refl _ _⟩
    · have hok : okLow n k v a b = true := by rw [okLow_impl, h1, h2, h3, h4]; rfl
      obtain ⟨g1, g2⟩ : 1 ≤ n ∧ n ≤ 10 := by simpa using h1
      obtain ⟨g3, g4⟩ : 1 ≤ k ∧ k ≤ n := by simpa using h2
      obtain ⟨g5, g6⟩ : 1 ≤ v ∧ v ≤ 12 := by simpa using h3
      obtain ⟨⟨g7, g8⟩, g9, g10⟩ := okLevel_iff.1 h4
      obtain ⟨N, rfl⟩ := Int.eq_ofNat_of_zero_le (show 0 ≤ n by omega)
      obtain ⟨K, rfl⟩ := Int.eq_ofNat_of_zero_le (show 0 ≤ k by omega)
      obtain ⟨V, rfl⟩ := Int.eq_ofNat_of_zero_le (show 0 ≤ v by omega)
      have HX := hide (lowX_ok hok)
      have HG := hide (good0 (n := N) (k := K) (v := V) (a := a) (b := b) (by omega) (by omega) g9)
      have H1 := hide h1
      have H2 := hide h2
      have H3 := hide h3
      have H4 := hide h4
      clear h1 h2 h3 h4 hok
      go_enter Try.func24, Try.ntmps24
      go_wp2_with fail
      refine (in_c true _ _ _ _ H1.out).mono ?_
      rintro e w' ⟨rfl, rfl⟩
      go_wp2_with fail
      refine (in_c true _ _ _ _ H2.out).mono ?_
      rintro e w' ⟨rfl, rfl⟩
      go_wp2_with fail
      refine (in_c true _ _ _ _ H3.out).mono ?_
      rintro e w' ⟨rfl, rfl⟩
      go_wp2_with fail
      refine (levelI_c _ _ true _ H4.out).mono ?_
      rintro e w' ⟨rfl, rfl⟩
      go_wp2_with fail
      go_loopw [11, 12, 13] (fun i m q wr => ∃ u : Nat, u ≤ V ∧ i = .int .i64 u ∧ Hid (∀ h, u < h → h < V + 1 → goodL N K V a b h = false) ∧ Below w.heap.size w wr) (fun i _ _ _ => (intOf i).toNat)
      case atStart => exact ⟨V, Nat.le_refl _, rfl, fun h h1 h2 => by omega, Below.refl _ _⟩
      case round =>
        obtain ⟨u, hu, rfl, hno, hbel⟩ := hrel
        have hT := partN_bd (fun h => decide ((K : Int) ≤ (h : Int))) (u := (u : Int)) (w := (V : Int) - u) (by omega) (by omega) (by omega) (n := N) (by omega) (N + 1) (Nat.le_refl _)
        have hT' : 0 ≤ tailN N K u V ∧ tailN N K u V ≤ 61917364224 * ((N + 1 : Nat) : Int) := hT
        have hpw := powN_bd12 (x := V) (by omega) (n := N) (by omega)
        have HT := hide (tail_ok (n := N) (k := K) (u := u) (v := V) (okTries_iff.2 (by omega)))
        have HGU : Hid (goodL N K V a b u = decide (tailN N K u V * b ≤ a * powN V N)) := rfl
        obtain ⟨A, hA⟩ : ∃ A, powN V N = A := ⟨_, rfl⟩
        obtain ⟨T, hT2⟩ : ∃ T, tailN N K u V = T := ⟨_, rfl⟩
        rw [hA] at HT hpw HGU
        rw [hT2] at HT hT' HGU
        clear hT hA hT2
        have hm1 := mul_pos_bd (a := T) (b := b) (m := 681091006464) (n := 100) (by omega) (by omega)
        have hm2 := mul_pos_bd (a := a) (b := A) (m := 100) (n := 61917364224) (by omega) (by omega)
        by_cases c : T * b ≤ a * A
        · go_wp2_with fail
          refine (TailI_c _ _ _ _ _).mono ?_
          rw [HT.out.1, HT.out.2]
          rintro e w2 ⟨rfl, hb2⟩
          have hbel2 := hbel.trans (hb2.mono hbel.size)
          go_wp2_with fail
          go_ret
          exact ⟨ret_int (by rw [HX.out, lastTo_eq (HGU.out.trans (decide_eq_true c)) _ (by omega) hno.out]), hbel2⟩
        · have hu1 : 1 ≤ u := by
            rcases Nat.eq_zero_or_pos u with e | e
            · subst e
              have := HGU.out.symm.trans HG.out
              rw [decide_eq_true_eq] at this
              exact absurd this c
            · exact e
          have c' : a * A < T * b := by omega
          have C := hide c'
          clear c'
          go_wp2_with fail
          refine (TailI_c _ _ _ _ _).mono ?_
          rw [HT.out.1, HT.out.2]
          rintro e w2 ⟨rfl, hb2⟩
          have hbel2 := hbel.trans (hb2.mono hbel.size)
          go_wp2_with fail
          go_roundw
          case rel => exact ⟨u - 1, by omega, by rw [show ((u - 1 : Nat) : Int) = (u : Int) - 1 from by omega], fun h h1 h2 => by
            by_cases e : h = u
            · subst e; rw [HGU.out]; exact decide_eq_false (by have := C.out; omega)
            · exact hno.out h (by omega) h2, hbel2⟩
          case measure => simp [intOf]; omega

set_option maxHeartbeats 2000000 in
theorem HighI_c (n k v a b : Int) (w : World) (hn : -9223372036854775808 ≤ n - 1 ∧ n ≤ 9223372036854775807) : Calls Try.prog 33 #[.int .i64 n, .int .i64 k, .int .i64 v, .int .i64 a, .int .i64 b] w fun e w' =>
    e = .returned (.int .i64 (highX n k v a b)) ∧ Below w.heap.size w w' := by
  cases h1 : (decide (1 ≤ n) && decide (n ≤ 10))
  · have HX := hide (highX_bad (n := n) (k := k) (v := v) (a := a) (b := b) (by rw [okHigh_impl, h1]; rfl))
    have H1 := hide h1
    clear h1
    go_enter Try.func33, Try.ntmps33
    go_wp2_with fail
    refine (in_c false _ _ _ _ H1.out).mono ?_
    rintro e w' ⟨rfl, rfl⟩
    go_wp2_with fail
    go_ret
    exact ⟨ret_int HX.out.symm, Below.refl _ _⟩
  cases h2 : (decide (0 ≤ k) && decide (k ≤ n - 1))
  · have HX := hide (highX_bad (n := n) (k := k) (v := v) (a := a) (b := b) (by rw [okHigh_impl, h1, h2]; rfl))
    have H1 := hide h1
    have H2 := hide h2
    clear h1 h2
    go_enter Try.func33, Try.ntmps33
    go_wp2_with fail
    refine (in_c true _ _ _ _ H1.out).mono ?_
    rintro e w' ⟨rfl, rfl⟩
    go_wp2_with fail
    refine (in_c false _ _ _ _ H2.out).mono ?_
    rintro e w' ⟨rfl, rfl⟩
    go_wp2_with fail
    go_ret
    exact ⟨ret_int HX.out.symm, Below.refl _ _⟩
  cases h3 : (decide (1 ≤ v) && decide (v ≤ 12))
  · have HX := hide (highX_bad (n := n) (k := k) (v := v) (a := a) (b := b) (by rw [okHigh_impl, h1, h2, h3]; rfl))
    have H1 := hide h1
    have H2 := hide h2
    have H3 := hide h3
    clear h1 h2 h3
    go_enter Try.func33, Try.ntmps33
    go_wp2_with fail
    refine (in_c true _ _ _ _ H1.out).mono ?_
    rintro e w' ⟨rfl, rfl⟩
    go_wp2_with fail
    refine (in_c true _ _ _ _ H2.out).mono ?_
    rintro e w' ⟨rfl, rfl⟩
    go_wp2_with fail
    refine (in_c false _ _ _ _ H3.out).mono ?_
    rintro e w' ⟨rfl, rfl⟩
    go_wp2_with fail
    go_ret
    exact ⟨ret_int HX.out.symm, Below.refl _ _⟩
  · cases h4 : okLevel a b
    · have HX := hide (highX_bad (n := n) (k := k) (v := v) (a := a) (b := b) (by rw [okHigh_impl, h1, h2, h3, h4]; rfl))
      have H1 := hide h1
      have H2 := hide h2
      have H3 := hide h3
      have H4 := hide h4
      clear h1 h2 h3 h4
      go_enter Try.func33, Try.ntmps33
      go_wp2_with fail
      refine (in_c true _ _ _ _ H1.out).mono ?_
      rintro e w' ⟨rfl, rfl⟩
      go_wp2_with fail
      refine (in_c true _ _ _ _ H2.out).mono ?_
      rintro e w' ⟨rfl, rfl⟩
      go_wp2_with fail
      refine (in_c true _ _ _ _ H3.out).mono ?_
      rintro e w' ⟨rfl, rfl⟩
      go_wp2_with fail
      refine (levelI_c _ _ false _ H4.out).mono ?_
      rintro e w' ⟨rfl, rfl⟩
      go_wp2_with fail
      go_ret
      exact ⟨ret_int HX.out.symm, Below.refl _ _⟩
    · have hok : okHigh n k v a b = true := by rw [okHigh_impl, h1, h2, h3, h4]; rfl
      obtain ⟨g1, g2⟩ : 1 ≤ n ∧ n ≤ 10 := by simpa using h1
      obtain ⟨g3, g4⟩ : 0 ≤ k ∧ k ≤ n - 1 := by simpa using h2
      obtain ⟨g5, g6⟩ : 1 ≤ v ∧ v ≤ 12 := by simpa using h3
      obtain ⟨⟨g7, g8⟩, g9, g10⟩ := okLevel_iff.1 h4
      obtain ⟨N, rfl⟩ := Int.eq_ofNat_of_zero_le (show 0 ≤ n by omega)
      obtain ⟨K, rfl⟩ := Int.eq_ofNat_of_zero_le (show 0 ≤ k by omega)
      obtain ⟨V, rfl⟩ := Int.eq_ofNat_of_zero_le (show 0 ≤ v by omega)
      have HX := hide fun u => highX_eq (u := u) hok (by omega)
      have HG := hide (good0 (n := N) (k := N - K) (v := V) (a := a) (b := b) (by omega) (by omega) g9)
      have H1 := hide h1
      have H2 := hide h2
      have H3 := hide h3
      have H4 := hide h4
      clear h1 h2 h3 h4 hok
      go_enter Try.func33, Try.ntmps33
      go_wp2_with fail
      refine (in_c true _ _ _ _ H1.out).mono ?_
      rintro e w' ⟨rfl, rfl⟩
      go_wp2_with fail
      refine (in_c true _ _ _ _ H2.out).mono ?_
      rintro e w' ⟨rfl, rfl⟩
      go_wp2_with fail
      refine (in_c true _ _ _ _ H3.out).mono ?_
      rintro e w' ⟨rfl, rfl⟩
      go_wp2_with fail
      refine (levelI_c _ _ true _ H4.out).mono ?_
      rintro e w' ⟨rfl, rfl⟩
      go_wp2_with fail
      go_loopw [11, 12, 13] (fun i m q wr => ∃ u : Nat, u ≤ V ∧ i = .int .i64 u ∧ Hid (∀ h, h < u → goodL N (N - K) V a b (V - h) = false) ∧ Below w.heap.size w wr) (fun i _ _ _ => V + 1 - (intOf i).toNat)
      case atStart => exact ⟨0, Nat.zero_le _, rfl, fun h h1 => by omega, Below.refl _ _⟩
      case round =>
        obtain ⟨u, hu, rfl, hno, hbel⟩ := hrel
        have hT := partN_bd (fun h => decide (((K + 1 : Nat) : Int) ≤ (h : Int))) (u := (u : Int)) (w := (V : Int) - u) (by omega) (by omega) (by omega) (n := N) (by omega) (N + 1) (Nat.le_refl _)
        have hT' : 0 ≤ tailN N ((K + 1 : Nat) : Int) u V ∧ tailN N ((K + 1 : Nat) : Int) u V ≤ 61917364224 * ((N + 1 : Nat) : Int) := hT
        have hD := down_all N K (u : Int) (V : Int)
        have hDb : 0 ≤ downN N K u V ∧ downN N K u V ≤ 61917364224 * ((N + 1 : Nat) : Int) := partN_bd (fun h => decide (h ≤ K)) (u := (u : Int)) (w := (V : Int) - u) (by omega) (by omega) (by omega) (n := N) (by omega) (N + 1) (Nat.le_refl _)
        have hpw := powN_bd12 (x := V) (by omega) (n := N) (by omega)
        have HT := hide (tail_ok (n := N) (k := ((K + 1 : Nat) : Int)) (u := u) (v := V) (okTries_iff.2 (by omega)))
        have HGU := hide (good_rev (n := N) (k := K) (u := u) (V := V) (a := a) (b := b) (by omega) hu)
        have e1 : ((K + 1 : Nat) : Int) = (K : Int) + 1 := by omega
        rw [e1] at hT' HT HGU
        obtain ⟨A, hA⟩ : ∃ A, powN V N = A := ⟨_, rfl⟩
        obtain ⟨T, hT2⟩ : ∃ T, tailN N ((K : Int) + 1) u V = T := ⟨_, rfl⟩
        obtain ⟨D, hD2⟩ : ∃ D, downN N K u V = D := ⟨_, rfl⟩
        rw [hA] at HT hpw HGU hD
        rw [hT2] at HT hT' HGU hD
        rw [hD2] at hD hDb
        clear hT hA hT2 hD2 e1
        have hDe : A - T = D := hD
        have hm1 := mul_pos_bd (a := A - T) (b := b) (m := 681091006464) (n := 100) (by omega) (by omega)
        have hm2 := mul_pos_bd (a := a) (b := A) (m := 100) (n := 61917364224) (by omega) (by omega)
        have HD := hide hDe
        clear hD hDe
        by_cases c : (A - T) * b ≤ a * A
        · go_wp2_with fail
          refine (TailI_c _ _ _ _ _).mono ?_
          rw [HT.out.1, HT.out.2]
          rintro e w2 ⟨rfl, hb2⟩
          have hbel2 := hbel.trans (hb2.mono hbel.size)
          go_wp2_with fail
          go_ret
          exact ⟨ret_int (HX.out u hu (HGU.out.symm.trans (decide_eq_true c)) hno.out).symm, hbel2⟩
        · have hlt : u < V := by
            by_cases e : u = V
            · subst e
              rw [Nat.sub_self] at HGU
              have := HGU.out.trans HG.out
              rw [decide_eq_true_eq] at this
              exact absurd this c
            · omega
          go_wp2_with fail
          refine (TailI_c _ _ _ _ _).mono ?_
          rw [HT.out.1, HT.out.2]
          rintro e w2 ⟨rfl, hb2⟩
          have hbel2 := hbel.trans (hb2.mono hbel.size)
          go_wp2_with fail
          go_roundw
          case rel => exact ⟨u + 1, by omega, by go_num, fun h h1 => by
            by_cases e : h = u
            · subst e; exact HGU.out.symm.trans (decide_eq_false (by omega))
            · exact hno.out h (by omega), hbel2⟩
          case measure => simp [intOf]; omega
end Go.Proofs.Ytgclgcfhcomplaa
