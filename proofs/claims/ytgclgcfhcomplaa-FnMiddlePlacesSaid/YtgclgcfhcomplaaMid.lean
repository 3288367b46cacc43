/-
  Contracts: the places of the middle, in the program and in its reference.
-/
import Derived.Test.YtgclgcfhcomplaaLow
import Derived.Deep.LoopGhost
namespace Go.Proofs.Ytgclgcfhcomplaa
open Go.RowKit

/-- Sets with fewer than j of n things. -/
def fewN (n j : Nat) : Int := partN (fun h => decide (h < j)) n 1 1 (n + 1)
theorem powN_one (n : Nat) : powN 1 n = 1 := by
  induction n with
  | zero => rfl
  | succ n ih => rw [powN_succ, ih]; rfl
theorem termN_one (n k : Nat) : termN n k 1 1 = pasc n k := by rw [termN, powN_one, powN_one]; omega
theorem fewN_zero (n : Nat) : fewN n 0 = 0 := partN_zero (fun h _ hp => by simp at hp) _ (Nat.le_refl _)
theorem fewN_succ {n j : Nat} (hj : j ≤ n) : fewN n (j + 1) = fewN n j + pasc n j := by
  have e : fewN n (j + 1) = fewN n j + sumTo (fun h => if h = j then pasc n h else 0) (n + 1) := by
    rw [fewN, fewN, partN, partN, ← sumTo_add]
    refine sumTo_congr fun h _ => ?_
    rw [termN_one]
    by_cases c : h = j
    · subst c; simp
    · by_cases c2 : h < j
      · simp [c2, c, show h < j + 1 from by omega]
      · simp [c2, c, show ¬ h < j + 1 from by omega]
  have e2 : ∀ m, sumTo (fun h => if h = j then pasc n h else 0) m = if j < m then pasc n j else 0 := by
    intro m
    induction m with
    | zero => rfl
    | succ m ih =>
      rw [sumTo_succ, ih]
      by_cases c : m = j
      · subst c; simp
      · by_cases c2 : j < m
        · rw [if_pos c2, if_neg c, if_pos (by omega)]; omega
        · rw [if_neg c2, if_neg c, if_neg (by omega)]; omega
  rw [e, e2, if_pos (by omega)]
theorem fewN_rev {n j : Nat} : partN (fun h => decide (n < h + j)) n 1 1 (n + 1) = fewN n j := by
  rw [fewN]
  exact partN_rev fun k hk => by
    by_cases c : k < j
    · simp [c]; omega
    · simp [c]; omega
/-- From j up to n - j: all but those below and those above. -/
theorem mid_part {n j : Nat} (hj : 2 * j ≤ n) : partN (fun h => decide (j ≤ h) && decide (h ≤ n - j)) n 1 1 (n + 1) = powN 2 n - 2 * fewN n j := by
  have h1 : powN 2 n = partN (fun _ => true) n 1 1 (n + 1) := by
    rw [show (2 : Int) = 1 + 1 from rfl, ← binom, partN]
    exact sumTo_congr fun k _ => by simp
  have h2 : partN (fun _ => true) n 1 1 (n + 1) = partN (fun h => decide (j ≤ h) && decide (h ≤ n - j)) n 1 1 (n + 1) + (fewN n j + partN (fun h => decide (n < h + j)) n 1 1 (n + 1)) := by
    rw [fewN, partN, partN, partN, partN, ← sumTo_add, ← sumTo_add]
    refine sumTo_congr fun k hk => ?_
    by_cases c1 : k < j
    · simp [c1, show ¬ j ≤ k from by omega, show ¬ n < k + j from by omega]
    · by_cases c2 : n < k + j
      · simp [c1, c2, show ¬ k ≤ n - j from by omega]
      · simp [c1, c2, show j ≤ k from by omega, show k ≤ n - j from by omega]
  rw [fewN_rev] at h2
  omega
theorem fewN_bd {n : Nat} (hn : n ≤ 10) (j : Nat) : 0 ≤ fewN n j ∧ fewN n j ≤ powN 2 n := by
  have h0 := partN_le (p := fun h => decide (h < j)) (n := n) (u := 1) (w := 1) (by omega) (by omega)
  exact ⟨(partN_bd (fun h => decide (h < j)) (u := 1) (w := 1) (by omega) (by omega) (by omega) hn (n + 1) (Nat.le_refl _)).1, h0⟩
theorem pow2_bd {n : Nat} (hn : n ≤ 10) : 1 ≤ powN 2 n ∧ powN 2 n ≤ 1024 := by
  have h : ∀ n : Nat, powN 2 n = ((2 ^ n : Nat) : Int) := by
    intro n
    induction n with
    | zero => rfl
    | succ n ih => rw [powN_succ, ih, Nat.pow_succ]; omega
  rw [h]
  have h1 := Nat.two_pow_pos n
  have h2 : 2 ^ n ≤ 2 ^ 10 := Nat.pow_le_pow_right (by omega) hn
  omega
theorem pow2_int (n : Nat) : (2 : Int) ^ n = powN 2 n := by
  induction n with
  | zero => rfl
  | succ n ih => rw [Int.pow_succ, ih, powN_succ]

/-- Leaving out what is below j, and above, is at most a of b. -/
def goodM (n : Nat) (a b : Int) (j : Nat) : Bool := decide (2 * fewN n j * b ≤ a * powN 2 n)
theorem goodM0 {n : Nat} {a b : Int} (ha : 0 ≤ a) : goodM n a b 0 = true := by
  rw [goodM, fewN_zero]
  exact decide_eq_true (by simpa using Int.mul_nonneg ha (powN_nonneg (by omega) n))
def okMid (n a b : Int) : Bool := (decide (1 ≤ n) && decide (n ≤ 10)) && okLevel a b
def midJ (n : Nat) (a b : Int) : Nat := lastTo (goodM n a b) (n / 2 + 1)
def midX (n a b : Int) : Int := if okMid n a b then (midJ n.toNat a b : Int) else -1
def midY (n a b : Int) : Int := if okMid n a b then powN 2 n.toNat - 2 * fewN n.toNat (midJ n.toNat a b) else -1
theorem mid_bad {n a b : Int} (h : okMid n a b = false) : midX n a b = -1 ∧ midY n a b = -1 := by simp [midX, midY, h]
theorem mid_ok {n : Nat} {a b : Int} (h : okMid n a b = true) : midX n a b = (midJ n a b : Int) ∧ midY n a b = powN 2 n - 2 * fewN n (midJ n a b) := by simp [midX, midY, h]
theorem midJ_spec {n : Nat} {a b : Int} (ha : 0 ≤ a) : goodM n a b (midJ n a b) = true ∧ midJ n a b ≤ n / 2 ∧ ∀ h, midJ n a b < h → h ≤ n / 2 → goodM n a b h = false := lastTo_spec (goodM0 ha) _

set_option maxHeartbeats 1000000 in
theorem powerS_c (n : Nat) (w : World) (hn : n ≤ 10) : Calls Try.prog 63 #[.int .i64 n] w fun e w' => e = .returned (.int .i64 (powN 2 n)) ∧ w = w' := by
  go_enter Try.func63, Try.ntmps63
  go_wp2
  go_loop [0, 3] (fun i o => ∃ j : Nat, j ≤ n ∧ i = .int .i64 ((n : Int) - j) ∧ o = .int .i64 (powN 2 j)) (fun i _ => (intOf i).toNat)
  case atStart => exact ⟨0, Nat.zero_le _, by go_num, rfl⟩
  case round =>
    obtain ⟨j, hj, rfl, rfl⟩ := hrel
    by_cases hlt : j < n
    · have h2 := pow2_bd (n := j) (by omega)
      have HS := hide (powN_succ 2 j)
      obtain ⟨P, hP⟩ : ∃ P, powN 2 j = P := ⟨_, rfl⟩
      rw [hP] at HS h2 ⊢
      clear hP
      go_wp2
      go_round
      case rel => exact ⟨j + 1, by omega, by go_num, by rw [HS.out, Int.mul_comm]⟩
      case measure => simp [intOf]; omega
    · obtain rfl : j = n := by omega
      obtain ⟨P, hP⟩ : ∃ P, powN 2 j = P := ⟨_, rfl⟩
      rw [hP]
      have HP' := hide hP
      clear hP
      go_wp2
      go_ret
      exact ⟨ret_int HP'.out.symm, rfl⟩

set_option maxHeartbeats 2000000 in
theorem MidS_c (n a b : Int) (w : World) : Calls Try.prog 20 #[.int .i64 n, .int .i64 a, .int .i64 b] w fun e w' =>
    e = .returned (.tuple #[.int .i64 (midX n a b), .int .i64 (midY n a b)]) ∧ w = w' := by
  cases h1 : (decide (1 ≤ n) && decide (n ≤ 10))
  · have HX := hide (mid_bad (n := n) (a := a) (b := b) (by rw [okMid, h1]; rfl))
    have H1 := hide h1
    clear h1
    go_enter Try.func20, Try.ntmps20
    go_wp2_with fail
    refine (inRange_c false _ _ _ _ H1.out).mono ?_
    rintro e w' ⟨rfl, rfl⟩
    go_wp2_with fail
    go_ret2
    rw [HX.out.1, HX.out.2]
    exact ⟨rfl, rfl⟩
  cases h4 : okLevel a b
  · have HX := hide (mid_bad (n := n) (a := a) (b := b) (by rw [okMid, h1, h4]; rfl))
    have H1 := hide h1
    have H4 := hide h4
    clear h1 h4
    go_enter Try.func20, Try.ntmps20
    go_wp2_with fail
    refine (inRange_c true _ _ _ _ H1.out).mono ?_
    rintro e w' ⟨rfl, rfl⟩
    go_wp2_with fail
    refine (levelS_c _ _ false _ H4.out).mono ?_
    rintro e w' ⟨rfl, rfl⟩
    go_wp2_with fail
    go_ret2
    rw [HX.out.1, HX.out.2]
    exact ⟨rfl, rfl⟩
  · obtain ⟨g1, g2⟩ : 1 ≤ n ∧ n ≤ 10 := by simpa using h1
    obtain ⟨⟨g7, g8⟩, g9, g10⟩ := okLevel_iff.1 h4
    obtain ⟨N, rfl⟩ := Int.eq_ofNat_of_zero_le (show 0 ≤ n by omega)
    have HX := hide (mid_ok (n := N) (a := a) (b := b) (by rw [okMid, h1, h4]; rfl))
    have hpw := pow2_bd (n := N) (by omega)
    have hfb := fewN_bd (n := N) (by omega)
    have HP := hide (powerS_c N · (by omega))
    have HGd : Hid (∀ j, goodM N a b j = decide (2 * fewN N j * b ≤ a * powN 2 N)) := fun j => rfl
    obtain ⟨P, hP⟩ : ∃ P, powN 2 N = P := ⟨_, rfl⟩
    rw [hP] at hpw HX HP HGd
    simp only [hP] at hfb
    clear hP
    have H1 := hide h1
    have H4 := hide h4
    have HFZ := hide (fewN_zero N)
    clear h1 h4
    go_enter Try.func20, Try.ntmps20
    go_wp2_with fail
    refine (inRange_c true _ _ _ _ H1.out).mono ?_
    rintro e w' ⟨rfl, rfl⟩
    go_wp2_with fail
    refine (levelS_c _ _ true _ H4.out).mono ?_
    rintro e w' ⟨rfl, rfl⟩
    go_wp2_with fail
    refine (HP.out _).mono ?_
    rintro e w' ⟨rfl, rfl⟩
    go_wp2_with fail
    go_loop [8, 9, 10, 11] (fun j o s x => ∃ k : Nat, k ≤ N / 2 ∧ x = .int .i64 ((k : Int) + 1) ∧ s = .int .i64 (fewN N k) ∧ j = .int .i64 ((lastTo (goodM N a b) (k + 1) : Nat) : Int) ∧ o = .int .i64 (P - 2 * fewN N (lastTo (goodM N a b) (k + 1)))) (fun _ _ _ x => N + 1 - (intOf x).toNat)
    case atStart =>
      have e : lastTo (goodM N a b) (0 + 1) = 0 := by rw [lastTo_succ, goodM0 g9]; rfl
      exact ⟨0, Nat.zero_le _, rfl, by rw [HFZ.out], by rw [e]; rfl, by rw [e, HFZ.out]; simp⟩
    case round =>
      obtain ⟨k, hk, rfl, rfl, rfl, rfl⟩ := hrel
      by_cases hlt : k + 1 ≤ N / 2
      · have hS := hfb k
        have hS2 := hfb (k + 1)
        have hL := hfb (lastTo (goodM N a b) (k + 1))
        have HS := hide (fewN_succ (n := N) (j := k) (by omega))
        have HL := hide (lastTo_succ (goodM N a b) (k + 1))
        have HG := hide (HGd.out (k + 1))
        have hC := pasc_bd32 (n := N) (by omega) k
        obtain ⟨J, hJ⟩ : ∃ J, lastTo (goodM N a b) (k + 1) = J := ⟨_, rfl⟩
        rw [hJ] at HL hL ⊢
        rw [HS.out] at hS2 HG
        obtain ⟨F, hF⟩ : ∃ J, fewN N k = J := ⟨_, rfl⟩
        obtain ⟨FJ, hFJ⟩ : ∃ X, fewN N J = X := ⟨_, rfl⟩
        obtain ⟨C, hCe⟩ : ∃ C, pasc N k = C := ⟨_, rfl⟩
        rw [hF] at hS HS hS2 HG ⊢
        rw [hFJ] at hL ⊢
        rw [hCe] at HS hC hS2 HG
        have HFJ := hide hFJ
        have HC := hide hCe
        clear hJ hF hFJ hCe hfb
        have hmb := mul_pos_bd (a := 2 * (F + C)) (b := b) (m := 2048) (n := 100) (by omega) (by omega)
        have hma := mul_pos_bd (a := a) (b := P) (m := 100) (n := 1024) (by omega) (by omega)
        by_cases c : 2 * (F + C) * b ≤ a * P
        · go_wp2_with fail
          refine (chooseS_c N k _ (by omega) (by omega)).mono ?_
          rw [HC.out]
          rintro e w' ⟨rfl, rfl⟩
          go_wp2_with fail
          refine (HP.out _).mono ?_
          rintro e w' ⟨rfl, rfl⟩
          go_wp2_with fail
          refine (HP.out _).mono ?_
          rintro e w' ⟨rfl, rfl⟩
          go_wp2_with fail
          go_round
          case rel =>
            have e : lastTo (goodM N a b) (k + 1 + 1) = k + 1 := by rw [HL.out, HG.out, decide_eq_true (by omega)]; rfl
            exact ⟨k + 1, by omega, by go_num, by rw [HS.out], by rw [e]; go_num, by rw [e, HS.out]⟩
          case measure => simp [intOf]; omega
        · go_wp2_with fail
          refine (chooseS_c N k _ (by omega) (by omega)).mono ?_
          rw [HC.out]
          rintro e w' ⟨rfl, rfl⟩
          go_wp2_with fail
          refine (HP.out _).mono ?_
          rintro e w' ⟨rfl, rfl⟩
          go_wp2_with fail
          go_round
          case rel =>
            have e : lastTo (goodM N a b) (k + 1 + 1) = J := by rw [HL.out, HG.out, decide_eq_false (by omega)]; rfl
            exact ⟨k + 1, by omega, by go_num, by rw [HS.out], by rw [e], by rw [e, HFJ.out]⟩
          case measure => simp [intOf]; omega
      · obtain rfl : k = N / 2 := by omega
        have HJ : Hid (midJ N a b = lastTo (goodM N a b) (N / 2 + 1)) := rfl
        obtain ⟨J, hJ⟩ : ∃ J, lastTo (goodM N a b) (N / 2 + 1) = J := ⟨_, rfl⟩
        rw [hJ] at HJ ⊢
        rw [HJ.out] at HX
        obtain ⟨FJ, hFJ⟩ : ∃ X, fewN N J = X := ⟨_, rfl⟩
        rw [hFJ] at HX ⊢
        clear hJ hFJ hfb
        have hd : ¬ 2 * (((N / 2 : Nat) : Int) + 1) ≤ (N : Int) := by omega
        go_wp2_with fail
        go_ret2
        rw [HX.out.1, HX.out.2]
        exact ⟨rfl, rfl⟩
end Go.Proofs.Ytgclgcfhcomplaa
