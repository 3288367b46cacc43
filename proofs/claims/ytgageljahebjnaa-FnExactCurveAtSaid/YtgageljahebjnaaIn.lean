
/-
  Contracts: is a number in a range, are all of them.
-/
import Derived.Test.YtgageljahebjnaaHar
import Derived.Test.YtgageljahebjnaaVal
namespace Go.Proofs.Ytgageljahebjnaa
open Go.RowKit

set_option maxHeartbeats 400000 in
theorem inRange_c (b : Bool) (n lo hi : Int) (w : World) (hb : (decide (lo ≤ n) && decide (n ≤ hi)) = b) :
    Calls Try.prog 22 #[.int .i64 n, .int .i64 lo, .int .i64 hi] w fun e w' => e = .returned (.bool b) ∧ w = w' := by
  subst hb
  by_cases h : lo ≤ n
  all_goals
    go_enter Try.func22, Try.ntmps22
    go_wp2
    go_ret
    exact ⟨ret_bool (by simp; omega), rfl⟩

set_option maxHeartbeats 400000 in
theorem in_c (b : Bool) (n lo hi : Int) (w : World) (hb : (decide (lo ≤ n) && decide (n ≤ hi)) = b) :
    Calls Try.prog 29 #[.int .i64 n, .int .i64 lo, .int .i64 hi] w fun e w' => e = .returned (.bool b) ∧ w = w' := by
  subst hb
  by_cases h : lo ≤ n
  all_goals
    go_enter Try.func29, Try.ntmps29
    go_wp2
    go_ret
    exact ⟨ret_bool (by simp; omega), rfl⟩

set_option maxHeartbeats 400000 in
theorem allIn1_c (n lo hi : Int) (b : Bool) (p q : Nat) (w : World) (hp : w.cell? ⟨p, 0, none⟩ = some (.int .i64 lo)) (hq : w.cell? ⟨q, 0, none⟩ = some (.int .i64 hi)) (hb : (decide (lo ≤ n) && decide (n ≤ hi)) = b) :
    Calls Try.prog 66 #[.int .i64 n, .pointer (some ⟨p, 0, none⟩), .pointer (some ⟨q, 0, none⟩)] w fun e w' => e = .returned (.bool (!b)) ∧ w = w' := by
  go_enter Try.func66, Try.ntmps66
  have HB := hide hb
  clear hb
  go_wp2_with (go_at_call 29; refine (in_c b _ _ _ _ HB.out).mono ?_; rintro e w' ⟨rfl, rfl⟩)
  go_ret
  exact ⟨rfl, rfl⟩

set_option maxHeartbeats 400000 in
theorem indexFunc_c (v : Value) (xs : List Int) (lo hi : Int) (p q : Nat) (w : World) (hr : Rd w v xs) (hp : w.cell? ⟨p, 0, none⟩ = some (.int .i64 lo)) (hq : w.cell? ⟨q, 0, none⟩ = some (.int .i64 hi)) :
    Calls Try.prog 74 #[v, .func (.func 66) #[] #[.pointer (some ⟨p, 0, none⟩), .pointer (some ⟨q, 0, none⟩)]] w fun e w' => w = w' ∧ ∃ r : Int, e = .returned (.int .i64 r) ∧ (decide (0 ≤ r) = !allB lo hi xs) := by
  obtain ⟨A, c, rfl, hc, hm, hcell⟩ := hr
  go_enter Try.func74, Try.ntmps74
  go_wp2
  go_loop [8] (fun i => ∃ k : Nat, k ≤ xs.length ∧ i = .int .i64 k ∧ allB lo hi (xs.take k) = true) (fun i => xs.length - (intOf i).toNat)
  case atStart => exact ⟨0, Nat.zero_le _, rfl, rfl⟩
  case round =>
    obtain ⟨k, hk, rfl, hall⟩ := hrel
    by_cases hlt : k < xs.length
    · obtain ⟨g, off, rfl, hg, hcl⟩ := hcell (by omega)
      have hck : w.cell? ⟨g, off + k, none⟩ = some (.int .i64 xs[k]) := by rw [hcl k hlt, getD_lt hlt]
      clear hcl hcell
      have HA := hide hall
      clear hall
      by_cases h1 : lo ≤ xs[k] ∧ xs[k] ≤ hi
      · obtain ⟨h1, h2⟩ := h1
        go_wp2_with (go_at_call 66; refine (allIn1_c _ lo hi true p q _ hp hq (by simp; omega)).mono ?_; rintro e w' ⟨rfl, rfl⟩)
        go_round
        case rel => exact ⟨k + 1, by omega, by go_num, allB_take_succ hlt HA.out h1 h2⟩
        case measure => simp [intOf]; omega
      · go_wp2_with (go_at_call 66; refine (allIn1_c _ lo hi false p q _ hp hq (by simp; omega)).mono ?_; rintro e w' ⟨rfl, rfl⟩)
        go_ret
        exact ⟨rfl, k, rfl, by rw [allB_no hlt (by omega)]; simp⟩
    · go_wp2
      go_ret
      obtain rfl : k = xs.length := by omega
      rw [List.take_length] at hall
      exact ⟨rfl, -1, rfl, by rw [hall]; rfl⟩

set_option maxHeartbeats 400000 in
theorem containsFunc_c (v : Value) (xs : List Int) (lo hi : Int) (p q : Nat) (w : World) (hr : Rd w v xs) (hp : w.cell? ⟨p, 0, none⟩ = some (.int .i64 lo)) (hq : w.cell? ⟨q, 0, none⟩ = some (.int .i64 hi)) :
    Calls Try.prog 65 #[v, .func (.func 66) #[] #[.pointer (some ⟨p, 0, none⟩), .pointer (some ⟨q, 0, none⟩)]] w fun e w' => w = w' ∧ e = .returned (.bool (!allB lo hi xs)) := by
  go_enter Try.func65, Try.ntmps65
  go_wp2_with (go_at_call 74; refine (indexFunc_c v xs lo hi p q _ hr hp hq).mono ?_; rintro e w' ⟨rfl, r, rfl, hr0⟩; have HR := hide hr0; clear hr0)
  go_ret
  exact ⟨rfl, ret_bool HR.out⟩

set_option maxHeartbeats 400000 in
theorem allIn_c (v : Value) (xs : List Int) (lo hi : Int) (b : Bool) (w : World) (hr : Rd w v xs) (hb : allB lo hi xs = b) :
    Calls Try.prog 44 #[v, .int .i64 lo, .int .i64 hi] w fun e w' => e = .returned (.bool b) ∧ Below w.heap.size w w' := by
  have hmf : ∀ (fn : Fn) (first cap : Array Value) (w : World), (Instr.makeFunc fn first cap).run Try.prog w = .ok (.func fn first cap) w := fun _ _ _ _ => rfl
  have HB := hide hb
  clear hb
  go_enter Try.func44, Try.ntmps44
  go_wp2_with (go_at_call 65; refine (containsFunc_c v xs lo hi w.heap.size (w.heap.size + 1) _ ((hr.alloc _).alloc _) (by simp) (by simp)).mono ?_; rintro e w' ⟨rfl, rfl⟩)
  go_ret
  exact ⟨ret_bool (by simp [HB.out]), ((Below.refl _ _).alloc (Nat.le_refl _) _).alloc (by simp) _⟩
end Go.Proofs.Ytgageljahebjnaa
