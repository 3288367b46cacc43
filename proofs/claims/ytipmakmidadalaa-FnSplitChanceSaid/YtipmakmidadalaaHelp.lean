/-
  Contracts of the statements' own helpers: the other way round, the other signs, the greatest one, equal lists.
-/
import Derived.Test.YtipmakmidadalaaHar
import Derived.Test.YtipmakmidadalaaVal
namespace Go.Proofs.Ytipmakmidadalaa
open Go.RowKit

/-- The numbers with the other signs. -/
def negL (xs : List Int) : List Int := xs.map fun x => -x
theorem negL_len (xs : List Int) : (negL xs).length = xs.length := by simp [negL]
theorem negL_take {xs : List Int} {k : Nat} (hk : k < xs.length) : negL (xs.take (k + 1)) = negL (xs.take k) ++ [-xs[k]] := by
  rw [List.take_succ_eq_append_getElem hk, negL, List.map_append]; rfl
theorem negL_allB {m : Int} {xs : List Int} (h : allB (-m) m xs = true) : allB (-m) m (negL xs) = true := allB_iff.2 fun x hx => by
  obtain ⟨y, hy, rfl⟩ := List.mem_map.1 hx
  have := allB_iff.1 h y hy
  omega
theorem negL_max {xs : List Int} (h : xs ≠ []) : maxL (negL xs) = -minL xs ∧ minL (negL xs) = -maxL xs := by
  have hn : negL xs ≠ [] := by simpa [negL] using h
  have a := maxL_mem hn
  have b := minL_mem hn
  obtain ⟨y, hy, ha⟩ := List.mem_map.1 a
  obtain ⟨z, hz, hb⟩ := List.mem_map.1 b
  have c := le_maxL (xs := negL xs) (List.mem_map.2 ⟨_, minL_mem h, rfl⟩)
  have d := minL_le (xs := negL xs) (List.mem_map.2 ⟨_, maxL_mem h, rfl⟩)
  have e := minL_le hy
  have f := le_maxL hz
  omega
theorem rev_take {xs : List Int} {k : Nat} (hk : k < xs.length) : xs.reverse.take (k + 1) = xs.reverse.take k ++ [xs[xs.length - 1 - k]'(by omega)] := by
  rw [List.take_succ_eq_append_getElem (by simpa using hk)]
  congr 2
  rw [List.getElem_reverse]


set_option maxHeartbeats 400000 in
theorem negated_c (v : Value) (xs : List Int) (w : World) (hr : Rd w v xs) (hn : xs.length ≤ 1000000) (hb : allB (-1000000000) 1000000000 xs = true) :
    Calls Try.prog 19 #[v] w fun e w' => ∃ v', e = .returned v' ∧ Sl w' w.heap.size v' (negL xs) ∧ Below w.heap.size w w' := by
  obtain ⟨A, c, rfl, hc, hm, hcell⟩ := hr
  go_enter Try.func19, Try.ntmps19
  go_wp2_with fail
  go_loopw [3, 4] (fun o i wr => ∃ k : Nat, k ≤ xs.length ∧ i = .int .i64 k ∧ Own wr w.heap.size 3 o (negL (xs.take k)) ∧ Below w.heap.size w wr) (fun _ i _ => xs.length - (intOf i).toNat)
  case atStart => exact ⟨0, by omega, rfl, lit_own [] rfl rfl rfl (by simp) (Nat.le_refl _), (by (repeat (first | exact Below.refl _ _ | assumption | refine Below.setCell ?_ (by first | (simp; done) | omega | (simp; omega) | (simp at *; omega)) _ | refine Below.drew ?_ | refine below_drewN ?_ _ | refine below_alloc' ?_ _ | refine below_to' ?_ (by assumption))))⟩
  case round =>
    obtain ⟨k, hk, rfl, hown, hbel⟩ := hrel
    by_cases hlt : k < xs.length
    · obtain ⟨g, off, rfl, hg, hcl⟩ := hcell (by omega)
      have hck : wr.cell? ⟨g, off + k, none⟩ = some (.int .i64 xs[k]) := by rw [hbel.cell hg, hcl k hlt, getD_lt hlt]
      have hsz := hbel.size
      have hx := allB_get hb hlt
      have hl2 : (negL (xs.take k)).length ≤ 1000000 := by rw [negL_len]; simp; omega
      have HT := hide (negL_take hlt)
      clear hcl hcell hb
      go_wp2_with (at_builtin; refine wpList_push_int _ rfl (.tmp 12) (.tmp 18) rfl ints w.heap.size _ _ _ _ 1 rfl rfl hown hsz (by omega) ?_; intro v5 w5 hown5 hb5 hg5 hat5 hk5 hlt5)
      go_roundw
      case rel => exact ⟨k + 1, by omega, by go_num, by rw [HT.out]; exact hown5, hbel.trans hb5⟩
      case measure => simp [intOf]; omega
    · obtain rfl : k = xs.length := by omega
      rw [List.take_length] at hown
      go_wp2_with fail
      go_ret
      exact ⟨_, rfl, hown.sl, hbel⟩


set_option maxHeartbeats 400000 in
theorem equalInts_c (va vb : Value) (xs ys : List Int) (b : Bool) (w : World) (ha : Rd w va xs) (hb : Rd w vb ys) (hr : decide (xs = ys) = b) :
    Calls Try.prog 22 #[va, vb] w fun e w' => e = .returned (.bool b) ∧ Below w.heap.size w w' := by
  obtain ⟨A, c, rfl, hc, hm, hcell⟩ := ha
  obtain ⟨A', c', rfl, hc', hm', hcell'⟩ := hb
  by_cases hl : xs.length = ys.length
  · have hb : ((xs.length : Int) != (ys.length : Int)) = false := by simp [hl]
    have HL := hide hl
    clear hl
    go_enter Try.func22, Try.ntmps22
    go_wp2
    go_loopw [5] (fun i wr => ∃ k : Nat, k ≤ xs.length ∧ i = .int .i64 k ∧ xs.take k = ys.take k ∧ Below w.heap.size w wr) (fun i _ => xs.length - (intOf i).toNat)
    case atStart => exact ⟨0, Nat.zero_le _, rfl, rfl, Below.refl _ _⟩
    case round =>
      obtain ⟨k, hk, rfl, ht, hbel⟩ := hrel
      by_cases hlt : k < xs.length
      · have hlt' : k < ys.length := by have := HL.out; omega
        obtain ⟨g, off, rfl, hg, hcl⟩ := hcell (by omega)
        obtain ⟨g', off', rfl, hg', hcl'⟩ := hcell' (by omega)
        have hck : wr.cell? ⟨g, off + k, none⟩ = some (.int .i64 xs[k]) := by rw [hbel.cell hg, hcl k hlt, getD_lt hlt]
        have hck' : wr.cell? ⟨g', off' + k, none⟩ = some (.int .i64 ys[k]) := by rw [hbel.cell hg', hcl' k hlt', getD_lt hlt']
        have hi : (k : Int) < (xs.length : Int) := by omega
        have hi' : (k : Int) < (ys.length : Int) := by omega
        have HT := hide ht
        have HR := hide hr
        clear ht hr hcl hcl' hcell hcell'
        go_wp2
        go_quiet (fail)
        go_wp2
        · have hne : (xs[k] != ys[k]) = true := by assumption
          go_ret
          refine ⟨ret_bool ?_, below_drewN hbel _⟩
          rw [← HR.out]
          have : xs ≠ ys := by rintro rfl; simp at hne
          simp [this]
        · have he : (xs[k] != ys[k]) = false := by assumption
          go_roundw
          case rel => exact ⟨k + 1, by omega, by go_num, take_snoc_eq HL.out hlt HT.out (by simpa using he), below_drewN hbel _⟩
          case measure => simp [intOf]; omega
      · go_wp2
        go_ret
        obtain rfl : k = xs.length := by omega
        refine ⟨ret_bool ?_, hbel⟩
        rw [← hr]
        have hxy : xs = ys := by
          rw [List.take_of_length_le (Nat.le_refl _), List.take_of_length_le (by have := HL.out; omega)] at ht
          exact ht
        simp [hxy]
  · have hb : ((xs.length : Int) != (ys.length : Int)) = true := by simp; omega
    go_enter Try.func22, Try.ntmps22
    go_wp2
    go_ret
    refine ⟨ret_bool ?_, Below.refl _ _⟩
    rw [← hr]
    have : xs ≠ ys := fun e => hl (by rw [e])
    simp [this]
end Go.Proofs.Ytipmakmidadalaa
