/-
  Contracts: the greatest and the least number; what is cut off (Clip).
-/
import Derived.Test.YtgcpglefkkpdjaaC9a
namespace Go.Proofs.Ytgcpglefkkpdjaa
open Go.RowKit

set_option maxHeartbeats 400000 in
theorem slicesMax_c (v : Value) (xs : List Int) (w : World) (hr : Rd w v xs) (hn : 0 < xs.length) :
    Calls Try.prog 74 #[v] w fun e w' => e = .returned (.int .i64 (maxL xs)) ∧ w = w' := by
  obtain ⟨A, c, rfl, hc, hm, hcell⟩ := hr
  obtain ⟨g, off, rfl, hg, hcl⟩ := hcell hn
  have hc0 : w.cell? ⟨g, off, none⟩ = some (.int .i64 xs[0]) := by have := hcl 0 hn; rwa [getD_lt hn] at this
  go_enter Try.func74, Try.ntmps74
  go_wp2
  go_loop [3, 4] (fun m i => ∃ k : Nat, 1 ≤ k ∧ k ≤ xs.length ∧ i = .int .i64 k ∧ m = .int .i64 (maxL (xs.take k))) (fun _ i => xs.length - (intOf i).toNat)
  case atStart => exact ⟨1, by omega, by omega, rfl, by rw [maxL_take1 hn]⟩
  case round =>
    obtain ⟨k, hk1, hk, rfl, rfl⟩ := hrel
    by_cases hlt : k < xs.length
    · have hck : w.cell? ⟨g, off + k, none⟩ = some (.int .i64 xs[k]) := by rw [hcl k hlt, getD_lt hlt]
      clear hcl
      go_wp2
      go_round
      case rel => exact ⟨k + 1, by omega, by omega, by go_num, by rw [maxL_take (by omega) hlt, max_if]⟩
      case measure => simp [intOf]; omega
    · go_wp2
      go_ret
      obtain rfl : k = xs.length := by omega
      exact ⟨by simp, rfl⟩

set_option maxHeartbeats 400000 in
theorem slicesMin_c (v : Value) (xs : List Int) (w : World) (hr : Rd w v xs) (hn : 0 < xs.length) :
    Calls Try.prog 75 #[v] w fun e w' => e = .returned (.int .i64 (minL xs)) ∧ w = w' := by
  obtain ⟨A, c, rfl, hc, hm, hcell⟩ := hr
  obtain ⟨g, off, rfl, hg, hcl⟩ := hcell hn
  have hc0 : w.cell? ⟨g, off, none⟩ = some (.int .i64 xs[0]) := by have := hcl 0 hn; rwa [getD_lt hn] at this
  go_enter Try.func75, Try.ntmps75
  go_wp2
  go_loop [3, 4] (fun m i => ∃ k : Nat, 1 ≤ k ∧ k ≤ xs.length ∧ i = .int .i64 k ∧ m = .int .i64 (minL (xs.take k))) (fun _ i => xs.length - (intOf i).toNat)
  case atStart => exact ⟨1, by omega, by omega, rfl, by rw [minL_take1 hn]⟩
  case round =>
    obtain ⟨k, hk1, hk, rfl, rfl⟩ := hrel
    by_cases hlt : k < xs.length
    · have hck : w.cell? ⟨g, off + k, none⟩ = some (.int .i64 xs[k]) := by rw [hcl k hlt, getD_lt hlt]
      clear hcl
      go_wp2
      go_round
      case rel => exact ⟨k + 1, by omega, by omega, by go_num, by rw [minL_take (by omega) hlt, min_if]⟩
      case measure => simp [intOf]; omega
    · go_wp2
      go_ret
      obtain rfl : k = xs.length := by omega
      exact ⟨by simp, rfl⟩

set_option maxHeartbeats 400000 in
theorem spread_c (v : Value) (xs : List Int) (w : World) (hr : Rd w v xs) (hn : 0 < xs.length) (hb : allB (-1000) 1000 xs = true) :
    Calls Try.prog 52 #[v] w fun e w' => e = .returned (.int .i64 (maxL xs - minL xs)) ∧ w = w' := by
  have hne : xs ≠ [] := by rintro rfl; simp at hn
  have hb1 := minL_bounds hb hne
  obtain ⟨h1, h2, h3⟩ := hb1
  clear hb
  go_enter Try.func52, Try.ntmps52
  go_wp2_with (first | (go_at_call 74; refine (slicesMax_c v xs _ hr hn).mono ?_; rintro e w' ⟨rfl, rfl⟩) | (go_at_call 75; refine (slicesMin_c v xs _ hr hn).mono ?_; rintro e w' ⟨rfl, rfl⟩))
  go_ret
  exact ⟨rfl, rfl⟩

set_option maxHeartbeats 400000 in
theorem clip_c (v : Value) (xs : List Int) (B : Nat) (w : World) (hr : Sl w B v xs) :
    Calls Try.prog 71 #[v] w fun e w' => w = w' ∧ ∃ v', e = .returned v' ∧ Sl w B v' xs := by
  obtain ⟨A, c, rfl, hc, hm, hcell⟩ := hr
  go_enter Try.func71, Try.ntmps71
  go_wp2
  go_ret
  exact ⟨rfl, _, rfl, A, xs.length, rfl, Nat.le_refl _, by omega, hcell⟩
end Go.Proofs.Ytgcpglefkkpdjaa
