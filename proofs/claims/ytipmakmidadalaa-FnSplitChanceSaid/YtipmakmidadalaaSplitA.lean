/-
  Contract: atLeast of the reference.
-/
import Derived.Test.YtipmakmidadalaaSplitS
import Derived.Test.YtipmakmidadalaaFlip
namespace Go.Proofs.Ytipmakmidadalaa
open Go.RowKit

set_option maxRecDepth 100000 in
set_option maxHeartbeats 1000000 in
theorem atLeast_c (xs : List Int) : ∀ (k : Nat) (v : Value) (t : Int) (w : World), Rd w v xs → allB (-200) 200 xs = true → xs.length ≤ 10 → k ≤ 10 → -100000 + 200 * (xs.length : Int) ≤ t → t ≤ 100000 - 200 * (xs.length : Int) →
    Calls Try.prog 61 #[v, .int .i64 k, .int .i64 t] w fun e w' => e = .returned (.int .i64 (atN xs k t)) ∧ ∃ m, w' = w.drewN m := by
  induction xs with
  | nil =>
    intro k v t w hr _ _ hk h1 h2
    obtain ⟨A, c, rfl, hc, hm, _⟩ := hr
    by_cases h0 : k = 0
    · subst h0
      have HT := hide (atN_zero [] t)
      by_cases ht : t ≤ 0
      · rw [if_pos ht] at HT
        go_enter Try.func61, Try.ntmps61
        go_wp2
        go_ret
        exact ⟨ret_int HT.out.symm, 0, rfl⟩
      · rw [if_neg ht] at HT
        go_enter Try.func61, Try.ntmps61
        go_wp2
        go_ret
        exact ⟨ret_int HT.out.symm, 0, rfl⟩
    · have HT := hide (atN_long [] k t (by simp; omega))
      have hz : ((k : Int) == 0) = false := beq_eq_false_iff_ne.2 (by omega)
      have hk0 : (0 : Int) < (k : Int) := by omega
      go_enter Try.func61, Try.ntmps61
      go_wp2
      go_ret
      exact ⟨ret_int HT.out.symm, 0, rfl⟩
  | cons x xs ih =>
    intro k v t w hr hall hlen hk h1 h2
    have hx := allB_iff.1 hall x (List.mem_cons_self ..)
    have hall' : allB (-200) 200 xs = true := allB_sub hall fun y hy => List.mem_cons_of_mem _ hy
    obtain ⟨A, c, rfl, hc, hm, hcell⟩ := id hr
    obtain ⟨g, off, rfl, hg, hcl⟩ := hcell (by simp)
    have hck : w.cell? ⟨g, off, none⟩ = some (.int .i64 x) := by have := hcl 0 (by simp); simpa using this
    obtain ⟨N, hN⟩ : ∃ N, (x :: xs).length = N := ⟨_, rfl⟩
    have hN1 : N = xs.length + 1 := by rw [← hN, List.length_cons]
    by_cases h0 : k = 0
    · subst h0
      have HT := hide (atN_zero (x :: xs) t)
      rw [hN]
      clear hcl hcell hr hN hN1 hck ih hall hall' hx
      by_cases ht : t ≤ 0
      · rw [if_pos ht] at HT
        go_enter Try.func61, Try.ntmps61
        go_wp2
        go_ret
        exact ⟨ret_int HT.out.symm, 0, rfl⟩
      · rw [if_neg ht] at HT
        go_enter Try.func61, Try.ntmps61
        go_wp2
        go_ret
        exact ⟨ret_int HT.out.symm, 0, rfl⟩
    have hz : ((k : Int) == 0) = false := beq_eq_false_iff_ne.2 (by omega)
    by_cases hNk : N < k
    · have HT := hide (atN_long (x :: xs) k t (by rw [hN]; exact hNk))
      have hNk2 : (N : Int) < (k : Int) := by omega
      rw [hN]
      clear hcl hcell hr hN hN1 hck ih hall hall' hx
      go_enter Try.func61, Try.ntmps61
      go_wp2
      go_ret
      exact ⟨ret_int HT.out.symm, 0, rfl⟩
    obtain ⟨j, hj⟩ : ∃ j, k = j + 1 := ⟨k - 1, by omega⟩
    have HF : Hid (atN (x :: xs) k t = atN xs j (t - x) + atN xs k t) := by show _ = _; rw [hj]; exact atN_cons x xs j t
    rw [hN] at hlen h1 h2 hc ⊢ hr
    have HX := hide (And.intro hr hall')
    have hb1 := atN_bd xs j (t - x)
    have hb2 := atN_bd xs k t
    have hp := two_pow_le (n := xs.length) (by omega)
    obtain ⟨L, hL⟩ : ∃ L, xs.length = L := ⟨_, rfl⟩
    obtain ⟨P, hP⟩ : ∃ P, 2 ^ L = P := ⟨_, rfl⟩
    rw [hL, hP] at hb1 hb2 hp
    have HL := hide hL
    rw [hL] at hN1
    have hi : (0 : Int) < (N : Int) := by omega
    have hNk2 : ¬ ((N : Int) < (k : Int)) := by omega
    have e1 : IntKind.i64.wrap ((k : Int) - 1) = (j : Int) := by rw [show (k : Int) - 1 = (j : Int) by omega]; exact IntWalk.i64_in _ (by omega)
    have e2 : IntKind.i64.wrap (t - x) = t - x := IntWalk.i64_in _ (by omega)
    have e3 : IntKind.i64.wrap (atN xs j (t - x) + atN xs k t) = atN xs j (t - x) + atN xs k t := IntWalk.i64_in _ (by omega)
    have IH := hide ih
    have HN := hide hN1
    have HJ := hide hj
    clear hcl hcell hr hall hall' ih hN hN1 hL hP hj
    go_enter Try.func61, Try.ntmps61
    go_wp2_with fail
    go_quiet ((go_at_call 61; exact Calls.quiet_of (IH.out _ _ _ _ ((HX.out.1.drewN _).tail _ (fun h => if_neg (by have := HN.out; have := HL.out; omega))) HX.out.2 (by have := HN.out; have := HL.out; omega) (by have := HJ.out; omega) (by have := HN.out; have := HL.out; omega) (by have := HN.out; have := HL.out; omega))))
    go_wp2
    all_goals
      go_ret
      exact ⟨ret_int HF.out.symm, _, rfl⟩
end Go.Proofs.Ytipmakmidadalaa
