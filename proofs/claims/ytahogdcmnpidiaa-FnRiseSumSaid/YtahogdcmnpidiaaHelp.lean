/-
  Contracts of the statements' own helpers: the other way round, the other signs, the greatest one, equal lists.
-/
import Derived.Test.YtahogdcmnpidiaaHar
import Derived.Test.YtahogdcmnpidiaaVal
namespace Go.Proofs.Ytahogdcmnpidiaa
open Go.RowKit

/-- The numbers with the other signs. -/
def negL (xs : List Int) : List Int := xs.map fun x => -x
theorem negL_len (xs : List Int) : (negL xs).length = xs.length := by simp [negL]
theorem negL_take {xs : List Int} {k : Nat} (hk : k < xs.length) : negL (xs.take (k + 1)) = negL (xs.take k) ++ [-xs[k]] := by
  rw [List.take_succ_eq_append_getElem hk, negL, List.map_append]; rfl
theorem negL_allB {m : Int} {xs : List Int} (h : allB (-m) m xs = true) : allB (-m) m (negL xs) = true := allB_iff.2 fun x hx => by
  obtain ⟨y, hy, rfl⟩ := List.mem_map.1 hx
  have := allB_iff.1 h y hy
  omega
theorem negL_max {xs : List Int} (h : xs ≠ []) : maxL (negL xs) = -minL xs ∧ minL (negL xs) = -maxL xs := by
  have hn : negL xs ≠ [] := by simpa [negL] using h
  have a := maxL_mem hn
  have b := minL_mem hn
  obtain ⟨y, hy, ha⟩ := List.mem_map.1 a
  obtain ⟨z, hz, hb⟩ := List.mem_map.1 b
  have c := le_maxL (xs := negL xs) (List.mem_map.2 ⟨_, minL_mem h, rfl⟩)
  have d := minL_le (xs := negL xs) (List.mem_map.2 ⟨_, maxL_mem h, rfl⟩)
  have e := minL_le hy
  have f := le_maxL hz
  omega
theorem rev_take {xs : List Int} {k : Nat} (hk : k < xs.length) : xs.reverse.take (k + 1) = xs.reverse.take k ++ [xs[xs.length - 1 - k]'(by omega)] := by
  rw [List.take_succ_eq_append_getElem (by simpa using hk)]
  congr 2
  rw [List.getElem_reverse]

set_option maxHeartbeats 400000 in
theorem turned_c (v : Value) (xs : List Int) (w : World) (hr : Rd w v xs) (hn : xs.length ≤ 1000000) :
    Calls Try.prog 25 #[v] w fun e w' => ∃ v', e = .returned v' ∧ Sl w' w.heap.size v' xs.reverse ∧ Below w.heap.size w w' := by
  obtain ⟨A, c, rfl, hc, hm, hcell⟩ := hr
  go_enter Try.func25, Try.ntmps25
  go_wp2_with fail
  go_loopw [3, 4] (fun o i wr => ∃ k : Nat, k ≤ xs.length ∧ i = .int .i64 ((xs.length : Int) - 1 - k) ∧ Own wr w.heap.size 3 o (xs.reverse.take k) ∧ Below w.heap.size w wr) (fun _ i _ => (intOf i + 1).toNat)
  case atStart => exact ⟨0, by omega, by go_num, lit_own [] rfl rfl rfl (by simp) (Nat.le_refl _), (by (repeat (first | exact Below.refl _ _ | assumption | refine Below.setCell ?_ (by first | (simp; done) | omega | (simp; omega) | (simp at *; omega)) _ | refine Below.drew ?_ | refine below_drewN ?_ _ | refine below_alloc' ?_ _ | refine below_to' ?_ (by assumption))))⟩
  case round =>
    obtain ⟨k, hk, rfl, hown, hbel⟩ := hrel
    by_cases hlt : k < xs.length
    · obtain ⟨g, off, rfl, hg, hcl⟩ := hcell (by omega)
      obtain ⟨m, hm2⟩ : ∃ m, m = xs.length - 1 - k := ⟨_, rfl⟩
      have hml : m < xs.length := by omega
      have hmi : (xs.length : Int) - 1 - k = (m : Int) := by omega
      have hck : wr.cell? ⟨g, off + m, none⟩ = some (.int .i64 xs[m]) := by rw [hbel.cell hg, hcl m hml, getD_lt hml]
      have hsz := hbel.size
      have hl2 : (xs.reverse.take k).length ≤ 1000000 := by simp; omega
      have HT := hide (rev_take hlt)
      have HM := hide hm2
      rw [hmi]
      have hmi2 : (m : Int) - 1 = (xs.length : Int) - 1 - ((k + 1 : Nat) : Int) := by omega
      have HM2 := hide hmi2
      clear hcl hcell hm2 hmi hmi2
      go_wp2_with (at_builtin; refine wpList_push_int _ rfl (.tmp 13) (.tmp 18) rfl ints w.heap.size _ _ _ _ 1 rfl rfl hown hsz (by omega) ?_; intro v5 w5 hown5 hb5 hg5 hat5 hk5 hlt5)
      go_roundw
      case rel => exact ⟨k + 1, by omega, by rw [HM2.out], by rw [HT.out]; have h := HM.out; subst h; exact hown5, hbel.trans hb5⟩
      case measure => simp [intOf]
    · obtain rfl : k = xs.length := by omega
      have e1 : (xs.length : Int) - 1 - (xs.length : Int) = -1 := by omega
      rw [e1]
      clear e1
      go_wp2_with fail
      go_ret
      refine ⟨_, rfl, ?_, hbel⟩
      have := hown.sl
      rwa [List.take_of_length_le (by simp)] at this

set_option maxHeartbeats 400000 in
theorem negated_c (v : Value) (xs : List Int) (w : World) (hr : Rd w v xs) (hn : xs.length ≤ 1000000) (hb : allB (-1000000000) 1000000000 xs = true) :
    Calls Try.prog 26 #[v] w fun e w' => ∃ v', e = .returned v' ∧ Sl w' w.heap.size v' (negL xs) ∧ Below w.heap.size w w' := by
  obtain ⟨A, c, rfl, hc, hm, hcell⟩ := hr
  go_enter Try.func26, Try.ntmps26
  go_wp2_with fail
  go_loopw [3, 4] (fun o i wr => ∃ k : Nat, k ≤ xs.length ∧ i = .int .i64 k ∧ Own wr w.heap.size 3 o (negL (xs.take k)) ∧ Below w.heap.size w wr) (fun _ i _ => xs.length - (intOf i).toNat)
  case atStart => exact ⟨0, by omega, rfl, lit_own [] rfl rfl rfl (by simp) (Nat.le_refl _), (by (repeat (first | exact Below.refl _ _ | assumption | refine Below.setCell ?_ (by first | (simp; done) | omega | (simp; omega) | (simp at *; omega)) _ | refine Below.drew ?_ | refine below_drewN ?_ _ | refine below_alloc' ?_ _ | refine below_to' ?_ (by assumption))))⟩
  case round =>
    obtain ⟨k, hk, rfl, hown, hbel⟩ := hrel
    by_cases hlt : k < xs.length
    · obtain ⟨g, off, rfl, hg, hcl⟩ := hcell (by omega)
      have hck : wr.cell? ⟨g, off + k, none⟩ = some (.int .i64 xs[k]) := by rw [hbel.cell hg, hcl k hlt, getD_lt hlt]
      have hsz := hbel.size
      have hx := allB_get hb hlt
      have hl2 : (negL (xs.take k)).length ≤ 1000000 := by rw [negL_len]; simp; omega
      have HT := hide (negL_take hlt)
      clear hcl hcell hb
      go_wp2_with (at_builtin; refine wpList_push_int _ rfl (.tmp 12) (.tmp 18) rfl ints w.heap.size _ _ _ _ 1 rfl rfl hown hsz (by omega) ?_; intro v5 w5 hown5 hb5 hg5 hat5 hk5 hlt5)
      go_roundw
      case rel => exact ⟨k + 1, by omega, by go_num, by rw [HT.out]; exact hown5, hbel.trans hb5⟩
      case measure => simp [intOf]; omega
    · obtain rfl : k = xs.length := by omega
      rw [List.take_length] at hown
      go_wp2_with fail
      go_ret
      exact ⟨_, rfl, hown.sl, hbel⟩

set_option maxHeartbeats 400000 in
theorem greatest_c (v : Value) (xs : List Int) (w : World) (hr : Rd w v xs) (hn : 0 < xs.length) :
    Calls Try.prog 42 #[v] w fun e w' => e = .returned (.int .i64 (maxL xs)) ∧ w = w' := by
  obtain ⟨A, c, rfl, hc, hm, hcell⟩ := hr
  obtain ⟨g, off, rfl, hg, hcl⟩ := hcell hn
  have hc0 : w.cell? ⟨g, off, none⟩ = some (.int .i64 xs[0]) := by have := hcl 0 hn; rwa [getD_lt hn] at this
  go_enter Try.func42, Try.ntmps42
  go_wp2
  go_loop [3, 4] (fun m i => ∃ k : Nat, 1 ≤ k ∧ k ≤ xs.length ∧ i = .int .i64 k ∧ m = .int .i64 (maxL (xs.take k))) (fun _ i => xs.length - (intOf i).toNat)
  case atStart => exact ⟨1, by omega, by omega, rfl, by rw [maxL_take1 hn]⟩
  case round =>
    obtain ⟨k, hk1, hk, rfl, rfl⟩ := hrel
    by_cases hlt : k < xs.length
    · have hck : w.cell? ⟨g, off + k, none⟩ = some (.int .i64 xs[k]) := by rw [hcl k hlt, getD_lt hlt]
      clear hcl
      go_wp2
      go_round
      case rel => exact ⟨k + 1, by omega, by omega, by go_num, by rw [maxL_take (by omega) hlt, max_if]⟩
      case measure => simp [intOf]; omega
    · go_wp2
      go_ret
      obtain rfl : k = xs.length := by omega
      exact ⟨by simp, rfl⟩

end Go.Proofs.Ytahogdcmnpidiaa
