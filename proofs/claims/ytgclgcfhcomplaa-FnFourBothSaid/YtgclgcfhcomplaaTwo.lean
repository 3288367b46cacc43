/-
  Contracts: the ways with at least so many hits, in the program (TailChance) and in its reference (tail).
-/
import Derived.Test.YtgclgcfhcomplaaPart
namespace Go.Proofs.Ytgclgcfhcomplaa
open Go.RowKit

theorem callFuncTail1 (args : Array Value) (w : World) : (callFunc 70 args).run Try.prog w = .ok (.enter 70 args) w := by kernel_rfl

set_option maxHeartbeats 400000 in
theorem tail1_c (h : Nat) (k : Int) (p : Nat) (w : World) (hp : w.cell? ⟨p, 0, none⟩ = some (.int .i64 k)) :
    Calls Try.prog 70 #[.int .i64 h, .pointer (some ⟨p, 0, none⟩)] w fun e w' => e = .returned (.bool (decide (k ≤ h))) ∧ Below w.heap.size w w' := by
  go_enter Try.func70, Try.ntmps70
  go_wp2
  go_ret
  exact ⟨rfl, Below.refl _ _⟩

/-- The ways with at least k hits. -/
def tailN (n : Nat) (k u v : Int) : Int := partN (fun h => decide (k ≤ (h : Int))) n u (v - u) (n + 1)
def tailX (n k u v : Int) : Int := if okTries n u v then tailN n.toNat k u v else -1
def tailY (n u v : Int) : Int := if okTries n u v then powN v n.toNat else -1
theorem tail_bad {n k u v : Int} (h : okTries n u v = false) : tailX n k u v = -1 ∧ tailY n u v = -1 := by simp [tailX, tailY, h]
theorem tail_ok {n : Nat} {k u v : Int} (h : okTries n u v = true) : tailX n k u v = tailN n k u v ∧ tailY n u v = powN v n := by simp [tailX, tailY, h]

set_option maxHeartbeats 1000000 in
theorem TailI_c (n k u v : Int) (w : World) : Calls Try.prog 26 #[.int .i64 n, .int .i64 k, .int .i64 u, .int .i64 v] w fun e w' =>
    e = .returned (.tuple #[.int .i64 (tailX n k u v), .int .i64 (tailY n u v)]) ∧ Below w.heap.size w w' := by
  have hmf : ∀ (fn : Fn) (first cap : Array Value) (w : World), (Instr.makeFunc fn first cap).run Try.prog w = .ok (.func fn first cap) w := fun _ _ _ _ => rfl
  have hbA : Below w.heap.size w (w.alloc (.cells #[.int .i64 k] 3)) := (Below.refl _ _).alloc (Nat.le_refl _) _
  cases hok : okTries n u v
  · have HT := hide (tail_bad (k := k) hok)
    have HK := hide hok
    clear hok
    go_enter Try.func26, Try.ntmps26
    go_wp2_with fail
    refine (triesI_c n u v false _ HK.out).mono ?_
    rintro e w' ⟨rfl, rfl⟩
    go_wp2_with fail
    go_ret2
    rw [HT.out.1, HT.out.2]
    exact ⟨rfl, by (repeat (first | exact Below.refl _ _ | assumption | refine Below.setCell ?_ (by first | (simp; done) | omega | (simp; omega) | (simp at *; omega)) _ | refine Below.drew ?_ | refine below_drewN ?_ _ | refine below_alloc' ?_ _ | refine below_to' ?_ (by assumption)))⟩
  · obtain ⟨⟨h1, h2⟩, ⟨h3, h4⟩, h5, h6⟩ := okTries_iff.1 hok
    obtain ⟨N, rfl⟩ := Int.eq_ofNat_of_zero_le h1
    have HT := hide (tail_ok (k := k) hok)
    have HK := hide hok
    have hb := partN_bd (fun h => decide (k ≤ (h : Int))) (u := u) (w := v - u) h5 (by omega) (by omega) (n := N) (by omega) (N + 1) (Nat.le_refl _)
    clear hok
    go_enter Try.func26, Try.ntmps26
    go_wp2_with fail
    refine (triesI_c N u v true _ HK.out).mono ?_
    rintro e w' ⟨rfl, rfl⟩
    go_wp2_with fail
    refine (part_c 70 _ (fun h => decide (k ≤ (h : Int))) N u v _ (by omega) h5 h6 h4 callFuncTail1 ?_).mono ?_
    · intro h w' _ hb'
      exact tail1_c h k w.heap.size w' (by rw [hb'.cell (by simp)]; simp)
    rintro e w1 ⟨rfl, hb1⟩
    go_wp2_with fail
    refine (powerI_c v N _ (by omega) (by omega)).mono ?_
    rintro e w' ⟨rfl, rfl⟩
    go_wp2_with fail
    go_ret2
    rw [HT.out.1, HT.out.2]
    exact ⟨rfl, by (repeat (first | exact Below.refl _ _ | assumption | refine Below.setCell ?_ (by first | (simp; done) | omega | (simp; omega) | (simp at *; omega)) _ | refine Below.drew ?_ | refine below_drewN ?_ _ | refine below_alloc' ?_ _ | refine below_to' ?_ (by assumption)))⟩

theorem partN_none {k : Int} (n : Nat) (u w : Int) : ∀ m : Nat, (m : Int) ≤ k → partN (fun h => decide (k ≤ (h : Int))) n u w m = 0 := by
  intro m
  induction m with
  | zero => intro _; rfl
  | succ m ih => intro h; rw [partN_succ, ih (by omega), if_neg (by simp; omega)]; rfl

set_option maxHeartbeats 1000000 in
theorem tailS_c (n k : Nat) (u v : Int) (w : World) (hn : n ≤ 10) (hk : k ≤ n + 1) (hu : 0 ≤ u) (huv : u ≤ v) (hv : v ≤ 12) :
    Calls Try.prog 67 #[.int .i64 n, .int .i64 k, .int .i64 u, .int .i64 v] w fun e w' => e = .returned (.int .i64 (tailN n k u v)) ∧ w = w' := by
  go_enter Try.func67, Try.ntmps67
  go_wp2_with fail
  go_loop [9, 10] (fun o i => ∃ h : Nat, k ≤ h ∧ h ≤ n + 1 ∧ i = .int .i64 h ∧ o = .int .i64 (partN (fun h => decide ((k : Int) ≤ (h : Int))) n u (v - u) h)) (fun _ i => n + 1 - (intOf i).toNat)
  case atStart => exact ⟨k, Nat.le_refl _, hk, by first | rfl | (congr 1; omega), by rw [partN_none _ _ _ _ (Int.le_refl _)]⟩
  case round =>
    obtain ⟨h, hkh, hh, rfl, rfl⟩ := hrel
    by_cases hlt : h ≤ n
    · have hS := partN_bd (fun h => decide ((k : Int) ≤ (h : Int))) (u := u) (w := v - u) hu (by omega) (by omega) hn h (by omega)
      have hT := termN_bd (u := u) (w := v - u) hu (by omega) (by omega) hn h hlt
      have hP := powN_bd12 (x := u + (v - u)) (by omega) (n := n) hn
      have HS : Hid (partN (fun h => decide ((k : Int) ≤ (h : Int))) n u (v - u) (h + 1) = partN (fun h => decide ((k : Int) ≤ (h : Int))) n u (v - u) h + termN n h u (v - u)) := by
        show _ = _
        rw [partN_succ, if_pos (decide_eq_true (by omega))]
      obtain ⟨S, hS'⟩ : ∃ S, partN (fun h => decide ((k : Int) ≤ (h : Int))) n u (v - u) h = S := ⟨_, rfl⟩
      obtain ⟨T, hT'⟩ : ∃ T, termN n h u (v - u) = T := ⟨_, rfl⟩
      obtain ⟨P, hP'⟩ : ∃ P, powN (u + (v - u)) n = P := ⟨_, rfl⟩
      rw [hS', hT'] at HS
      rw [hS'] at hS ⊢
      rw [hT', hP'] at hT
      rw [hP'] at hP
      have HT := hide hT'
      clear hS' hT' hP'
      go_wp2_with fail
      refine (termS_c n h u v _ hn hlt hu huv hv).mono ?_
      rw [HT.out]
      rintro e w3 ⟨rfl, rfl⟩
      go_wp2_with fail
      go_round
      case rel => exact ⟨h + 1, by omega, by omega, by go_num, by rw [HS.out]⟩
      case measure => simp [intOf]; omega
    · obtain rfl : h = n + 1 := by omega
      obtain ⟨S, hS'⟩ : ∃ S, partN (fun h => decide ((k : Int) ≤ (h : Int))) n u (v - u) (n + 1) = S := ⟨_, rfl⟩
      rw [hS']
      have HS := hide hS'
      clear hS'
      go_wp2_with fail
      go_ret
      exact ⟨ret_int HS.out.symm, rfl⟩
end Go.Proofs.Ytgclgcfhcomplaa
