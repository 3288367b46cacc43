/-
  Contract: TwoSides of the reference.
-/
import Derived.Test.YtgclgcfhcomplaaTwo
namespace Go.Proofs.Ytgclgcfhcomplaa
open Go.RowKit

theorem partN_not (p : Nat → Bool) (n : Nat) (u w : Int) : partN p n u w (n + 1) + partN (fun h => !p h) n u w (n + 1) = powN (u + w) n := by
  rw [partN, partN, ← sumTo_add, ← binom]
  exact sumTo_congr fun k _ => by cases p k <;> simp
theorem partN_congr {p q : Nat → Bool} {n : Nat} {u w : Int} {m : Nat} (h : ∀ k, k < m → p k = q k) : partN p n u w m = partN q n u w m :=
  sumTo_congr fun k hk => by rw [h k hk]
/-- The ways with at most K hits. -/
def downN (n k : Nat) (u v : Int) : Int := partN (fun h => decide (h ≤ k)) n u (v - u) (n + 1)
theorem down_all (n k : Nat) (u v : Int) : powN v n - tailN n ((k : Int) + 1) u v = downN n k u v := by
  have h := partN_not (fun h => decide (h ≤ k)) n u (v - u)
  have e : partN (fun h => !decide (h ≤ k)) n u (v - u) (n + 1) = tailN n ((k : Int) + 1) u v := partN_congr fun h _ => by
    by_cases hh : h ≤ k
    · simp [hh]; omega
    · simp [hh]; omega
  rw [e, show u + (v - u) = v from by omega] at h
  simp only [downN]
  omega
def likelyP (n k : Nat) (u v : Int) (h : Nat) : Bool := decide (termN n h u (v - u) ≤ termN n k u (v - u))
def farP (n k : Nat) (u v : Int) (h : Nat) : Bool := decide (max ((k : Int) * v - (n : Int) * u) (-((k : Int) * v - (n : Int) * u)) ≤ max ((h : Int) * v - (n : Int) * u) (-((h : Int) * v - (n : Int) * u)))
def okTwoS (n k u v : Int) : Bool := okTries n u v && (decide (0 ≤ k) && decide (k ≤ n))
/-- What TwoSides answers. -/
def twoL (n k u v : Int) : List Int :=
  if okTwoS n k u v then [min (2 * min (tailN n.toNat k u v) (downN n.toNat k.toNat u v)) (powN v n.toNat), partN (likelyP n.toNat k.toNat u v) n.toNat u (v - u) (n.toNat + 1), partN (farP n.toNat k.toNat u v) n.toNat u (v - u) (n.toNat + 1)] else []
theorem twoL_ok {n k : Nat} {u v : Int} (h : okTwoS n k u v = true) : twoL n k u v = [min (2 * min (tailN n k u v) (downN n k u v)) (powN v n), partN (likelyP n k u v) n u (v - u) (n + 1), partN (farP n k u v) n u (v - u) (n + 1)] := by simp [twoL, h]
theorem twoL_bad {n k u v : Int} (h : okTwoS n k u v = false) : twoL n k u v = [] := by simp [twoL, h]

set_option maxHeartbeats 4000000 in
theorem TwoS_c (n k u v : Int) (w : World) : Calls Try.prog 27 #[.int .i64 n, .int .i64 k, .int .i64 u, .int .i64 v] w fun e w' =>
    ∃ v', e = .returned v' ∧ Sl w' w.heap.size v' (twoL n k u v) ∧ Below w.heap.size w w' := by
  cases hok : okTries n u v
  · have HB := hide (twoL_bad (n := n) (k := k) (u := u) (v := v) (by rw [okTwoS, hok]; rfl))
    have HK := hide hok
    clear hok
    go_enter Try.func27, Try.ntmps27
    go_wp2_with fail
    refine (triesS_c n u v false _ HK.out).mono ?_
    rintro e w' ⟨rfl, rfl⟩
    go_wp2_with fail
    go_ret
    exact ⟨_, rfl, by rw [HB.out]; exact Sl.nil _ _, Below.refl _ _⟩
  · cases hk : (decide (0 ≤ k) && decide (k ≤ n))
    · have HB := hide (twoL_bad (n := n) (k := k) (u := u) (v := v) (by rw [okTwoS, hok, hk]; rfl))
      have HK := hide hok
      have HK2 := hide hk
      clear hok hk
      go_enter Try.func27, Try.ntmps27
      go_wp2_with fail
      refine (triesS_c n u v true _ HK.out).mono ?_
      rintro e w' ⟨rfl, rfl⟩
      go_wp2_with fail
      refine (inRange_c false _ _ _ _ HK2.out).mono ?_
      rintro e w' ⟨rfl, rfl⟩
      go_wp2_with fail
      go_ret
      exact ⟨_, rfl, by rw [HB.out]; exact Sl.nil _ _, Below.refl _ _⟩
    · obtain ⟨⟨h1, h2⟩, ⟨h3, h4⟩, h5, h6⟩ := okTries_iff.1 hok
      have hk' : 0 ≤ k ∧ k ≤ n := by simpa using hk
      obtain ⟨N, rfl⟩ := Int.eq_ofNat_of_zero_le h1
      obtain ⟨K, rfl⟩ := Int.eq_ofNat_of_zero_le hk'.1
      have HB := hide (twoL_ok (n := N) (k := K) (u := u) (v := v) (by rw [okTwoS, hok, hk]; rfl))
      have HK := hide hok
      have HK2 := hide hk
      have hDA := down_all N K u v
      have hbH := partN_bd (fun h => decide ((K : Int) ≤ (h : Int))) (u := u) (w := v - u) h5 (by omega) (by omega) (n := N) (by omega) (N + 1) (Nat.le_refl _)
      have hbH2 := partN_bd (fun h => decide ((((K + 1 : Nat) : Int)) ≤ (h : Int))) (u := u) (w := v - u) h5 (by omega) (by omega) (n := N) (by omega) (N + 1) (Nat.le_refl _)
      have hbD := partN_bd (fun h => decide (h ≤ K)) (u := u) (w := v - u) h5 (by omega) (by omega) (n := N) (by omega) (N + 1) (Nat.le_refl _)
      have hpw := powN_bd12 (x := v) (by omega) (n := N) (by omega)
      have e1 : partN (fun h => decide ((K : Int) ≤ (h : Int))) N u (v - u) (N + 1) = tailN N K u v := rfl
      have e2 : partN (fun h => decide ((((K + 1 : Nat) : Int)) ≤ (h : Int))) N u (v - u) (N + 1) = tailN N ((K : Int) + 1) u v := rfl
      have e3 : partN (fun h => decide (h ≤ K)) N u (v - u) (N + 1) = downN N K u v := rfl
      rw [e1] at hbH
      rw [e2] at hbH2
      rw [e3] at hbD
      obtain ⟨A, hA⟩ : ∃ A, powN v N = A := ⟨_, rfl⟩
      obtain ⟨H, hH⟩ : ∃ H, tailN N K u v = H := ⟨_, rfl⟩
      obtain ⟨H2, hH2⟩ : ∃ H, tailN N ((K : Int) + 1) u v = H := ⟨_, rfl⟩
      obtain ⟨D, hD⟩ : ∃ D, downN N K u v = D := ⟨_, rfl⟩
      rw [hA, hH2, hD] at hDA
      rw [hA] at hpw
      rw [hH] at hbH
      rw [hH2] at hbH2
      rw [hD] at hbD
      rw [hA, hH, hD] at HB
      have HA := hide hA
      have HH := hide hH
      have HH2 := hide hH2
      clear hok hk e1 e2 e3 hA hH hH2 hD
      go_enter Try.func27, Try.ntmps27
      go_wp2_with fail
      refine (triesS_c N u v true _ HK.out).mono ?_
      rintro e w' ⟨rfl, rfl⟩
      go_wp2_with fail
      refine (inRange_c true _ _ _ _ HK2.out).mono ?_
      rintro e w' ⟨rfl, rfl⟩
      go_wp2_with fail
      refine (raiseS_c v N _ (by omega) (by omega)).mono ?_
      rw [HA.out]
      rintro e w' ⟨rfl, rfl⟩
      go_wp2_with fail
      refine (tailS_c N K u v _ (by omega) (by omega) h5 h6 h4).mono ?_
      rw [HH.out]
      rintro e w' ⟨rfl, rfl⟩
      go_wp2_with fail
      refine (tailS_c N (K + 1) u v _ (by omega) (by omega) h5 h6 h4).mono ?_
      rw [show ((K + 1 : Nat) : Int) = (K : Int) + 1 from by omega, HH2.out]
      rintro e w' ⟨rfl, rfl⟩
      go_wp2_with fail
      clear hDA
      go_loop [12, 13, 14] (fun l f i => ∃ h : Nat, h ≤ N + 1 ∧ i = .int .i64 h ∧ l = .int .i64 (partN (likelyP N K u v) N u (v - u) h) ∧ f = .int .i64 (partN (farP N K u v) N u (v - u) h)) (fun _ _ i => N + 1 - (intOf i).toNat)
      case atStart => exact ⟨0, Nat.zero_le _, rfl, rfl, rfl⟩
      case round =>
        obtain ⟨h, hh, rfl, rfl, rfl⟩ := hrel
        by_cases hlt : h ≤ N
        · have bL := partN_bd (likelyP N K u v) (u := u) (w := v - u) h5 (by omega) (by omega) (n := N) (by omega) h (by omega)
          have bF := partN_bd (farP N K u v) (u := u) (w := v - u) h5 (by omega) (by omega) (n := N) (by omega) h (by omega)
          have bT := termN_bd (u := u) (w := v - u) h5 (by omega) (by omega) (n := N) (by omega) h hlt
          have bK := termN_bd (u := u) (w := v - u) h5 (by omega) (by omega) (n := N) (by omega) K (by omega)
          have hP := powN_bd12 (x := u + (v - u)) (by omega) (n := N) (by omega)
          have HL := hide (partN_succ (likelyP N K u v) N u (v - u) h)
          have HF := hide (partN_succ (farP N K u v) N u (v - u) h)
          have hm1 := mul_pos_bd (a := (h : Int)) (b := v) (m := 10) (n := 12) (by omega) (by omega)
          have hm2 := mul_pos_bd (a := (N : Int)) (b := u) (m := 10) (n := 12) (by omega) (by omega)
          have hm3 := mul_pos_bd (a := (K : Int)) (b := v) (m := 10) (n := 12) (by omega) (by omega)
          have HPL : Hid (likelyP N K u v h = decide (termN N h u (v - u) ≤ termN N K u (v - u))) := rfl
          obtain ⟨L, hL⟩ : ∃ L, partN (likelyP N K u v) N u (v - u) h = L := ⟨_, rfl⟩
          obtain ⟨F, hF⟩ : ∃ L, partN (farP N K u v) N u (v - u) h = L := ⟨_, rfl⟩
          obtain ⟨T, hT⟩ : ∃ L, termN N h u (v - u) = L := ⟨_, rfl⟩
          obtain ⟨TK, hTK⟩ : ∃ L, termN N K u (v - u) = L := ⟨_, rfl⟩
          obtain ⟨P, hP'⟩ : ∃ P, powN (u + (v - u)) N = P := ⟨_, rfl⟩
          rw [hT, hTK] at HPL
          rw [hL, hT] at HL
          rw [hF, hT] at HF
          rw [hL] at bL ⊢
          rw [hF] at bF ⊢
          rw [hT, hP'] at bT
          rw [hTK, hP'] at bK
          rw [hP'] at hP
          have HT := hide hT
          have HTK := hide hTK
          clear hL hF hT hTK hP'
          by_cases c0 : T ≤ TK
          all_goals by_cases c1 : (h : Int) * v - (N : Int) * u < -((h : Int) * v - (N : Int) * u)
          all_goals by_cases c2 : (K : Int) * v - (N : Int) * u < -((K : Int) * v - (N : Int) * u)
          all_goals by_cases c3 : max ((K : Int) * v - (N : Int) * u) (-((K : Int) * v - (N : Int) * u)) ≤ max ((h : Int) * v - (N : Int) * u) (-((h : Int) * v - (N : Int) * u))
          all_goals
            have HC3 : Hid (farP N K u v h = _) := hide (by first | exact decide_eq_true c3 | exact decide_eq_false c3)
            go_wp2_with fail
            refine (termS_c N h u v _ (by omega) hlt h5 h6 h4).mono ?_
            rw [HT.out]
            rintro e w' ⟨rfl, rfl⟩
            go_wp2_with fail
            refine (termS_c N K u v _ (by omega) (by omega) h5 h6 h4).mono ?_
            rw [HTK.out]
            rintro e w' ⟨rfl, rfl⟩
            go_wp2_with fail
            go_round
            case rel => exact ⟨h + 1, by omega, by go_num, by rw [HL.out, HPL.out]; first | rw [if_pos (decide_eq_true c0)] | rw [if_neg (by simp; omega), Int.add_zero], by rw [HF.out, HC3.out]; simp⟩
            case measure => simp [intOf]; omega
        · obtain rfl : h = N + 1 := by omega
          obtain ⟨L, hL⟩ : ∃ L, partN (likelyP N K u v) N u (v - u) (N + 1) = L := ⟨_, rfl⟩
          obtain ⟨F, hF⟩ : ∃ L, partN (farP N K u v) N u (v - u) (N + 1) = L := ⟨_, rfl⟩
          rw [hL, hF] at HB ⊢
          clear hL hF
          by_cases m1 : D < H
          all_goals by_cases m2 : A < 2 * min H D
          all_goals
            go_wp2_with fail
            go_ret
            refine ⟨_, rfl, ?_, by (repeat (first | exact Below.refl _ _ | assumption | refine Below.setCell ?_ (by first | (simp; done) | omega | (simp; omega) | (simp at *; omega)) _ | refine Below.drew ?_ | refine below_drewN ?_ _ | refine below_alloc' ?_ _ | refine below_to' ?_ (by assumption)))⟩
            rw [HB.out]
            first
              | (rw [show min (2 * min H D) A = 2 * H from by omega]; exact lit_sl [2 * H, L, F] rfl rfl rfl (by simp) (Nat.le_refl _))
              | (rw [show min (2 * min H D) A = 2 * D from by omega]; exact lit_sl [2 * D, L, F] rfl rfl rfl (by simp) (Nat.le_refl _))
              | (rw [show min (2 * min H D) A = A from by omega]; exact lit_sl [A, L, F] rfl rfl rfl (by simp) (Nat.le_refl _))
end Go.Proofs.Ytgclgcfhcomplaa
