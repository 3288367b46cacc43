/-
  Contracts: the sum of a list, in the program and in its reference.
-/
import Derived.Test.YtahogdcmnpidiaaHar
import Derived.Test.YtahogdcmnpidiaaVal
namespace Go.Proofs.Ytahogdcmnpidiaa
open Go.RowKit

set_option maxHeartbeats 400000 in
theorem sumS_c (v : Value) (xs : List Int) (w : World) (hr : Rd w v xs) (hn : xs.length ≤ 1000) (hb : allB (-1000000) 1000000 xs = true) :
    Calls Try.prog 96 #[v] w fun e w' => e = .returned (.int .i64 (sumL xs)) ∧ w = w' := by
  obtain ⟨A, c, rfl, hc, hm, hcell⟩ := hr
  go_enter Try.func96, Try.ntmps96
  go_wp2
  go_loop [3, 4] (fun s i => ∃ k : Nat, k ≤ xs.length ∧ i = .int .i64 k ∧ s = .int .i64 (sumL (xs.take k))) (fun _ i => xs.length - (intOf i).toNat)
  case atStart => exact ⟨0, Nat.zero_le _, rfl, rfl⟩
  case round =>
    obtain ⟨k, hk, rfl, rfl⟩ := hrel
    by_cases hlt : k < xs.length
    · obtain ⟨g, off, rfl, hg, hcl⟩ := hcell (by omega)
      have hck : w.cell? ⟨g, off + k, none⟩ = some (.int .i64 xs[k]) := by rw [hcl k hlt, getD_lt hlt]
      have h1 := allB_get hb hlt
      have h2 := sumL_bound (m := 1000000) (by omega) (allB_iff.1 hb) k
      clear hcl hcell hb
      go_wp2
      go_round
      case rel => exact ⟨k + 1, by omega, by go_num, by rw [sumL_take hlt]⟩
      case measure => simp [intOf]; omega
    · go_wp2
      go_ret
      obtain rfl : k = xs.length := by omega
      exact ⟨by simp, rfl⟩

set_option maxHeartbeats 400000 in
theorem sumI_c (v : Value) (xs : List Int) (w : World) (hr : Rd w v xs) (hn : xs.length ≤ 1000) (hb : allB (-1000000) 1000000 xs = true) :
    Calls Try.prog 85 #[v] w fun e w' => e = .returned (.int .i64 (sumL xs)) ∧ w = w' := by
  obtain ⟨A, c, rfl, hc, hm, hcell⟩ := hr
  go_enter Try.func85, Try.ntmps85
  go_wp2
  go_loop [3, 8] (fun s i => ∃ k : Nat, k ≤ xs.length ∧ i = .int .i64 k ∧ s = .int .i64 (sumL (xs.take k))) (fun _ i => xs.length - (intOf i).toNat)
  case atStart => exact ⟨0, Nat.zero_le _, rfl, rfl⟩
  case round =>
    obtain ⟨k, hk, rfl, rfl⟩ := hrel
    by_cases hlt : k < xs.length
    · obtain ⟨g, off, rfl, hg, hcl⟩ := hcell (by omega)
      have hck : w.cell? ⟨g, off + k, none⟩ = some (.int .i64 xs[k]) := by rw [hcl k hlt, getD_lt hlt]
      have h1 := allB_get hb hlt
      have h2 := sumL_bound (m := 1000000) (by omega) (allB_iff.1 hb) k
      clear hcl hcell hb
      go_wp2
      go_round
      case rel => exact ⟨k + 1, by omega, by go_num, by rw [sumL_take hlt]⟩
      case measure => simp [intOf]; omega
    · go_wp2
      go_ret
      obtain rfl : k = xs.length := by omega
      exact ⟨by simp, rfl⟩
end Go.Proofs.Ytahogdcmnpidiaa
