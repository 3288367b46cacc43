
/-
  The contracts of the statements' own helpers (copies, comparisons, marks), each for every input that can be read.
-/
import Derived.Test.YtgageljahebjnaaProg
import Derived.Test.YtgageljahebjnaaBase
namespace Go.Proofs.Ytgageljahebjnaa
open Go.RowKit

theorem ints : IntsOf Try.prog 22 3 := ⟨Try.underlying22, by kernel_rfl⟩

set_option maxHeartbeats 400000 in
theorem toIntS_c (v : Value) (xs : List Int) (w : World) (hr : Rd w v xs) (hn : xs.length ≤ 1048576) :
    Calls Try.prog 9 #[v] w fun e w' => ∃ v', e = .returned v' ∧ Sl w' w.heap.size v' xs ∧ Below w.heap.size w w' := by
  obtain ⟨A, c, rfl, hc, hm, hcell⟩ := hr
  go_enter Try.func9, Try.ntmps9
  go_wp2_with (at_make; refine wpList_make_ints _ rfl (.tmp 6) (.tmp 6) rfl ints xs.length rfl rfl (by omega) ?_; intro w1 hown1 hbel1 hlt1)
  go_loopw [4] (fun i wr => ∃ (k : Nat) (ys : List Int), k ≤ xs.length ∧ i = .int .i64 k ∧ Own wr w.heap.size 3 (.slice (some ⟨w.heap.size, 0, none⟩) xs.length xs.length) ys ∧ ys.length = xs.length ∧ ys.take k = xs.take k ∧ Below w.heap.size w wr)
    (fun i _ => xs.length - (intOf i).toNat)
  case atStart => exact ⟨0, _, Nat.zero_le _, rfl, hown1, by simp, by simp, hbel1⟩
  case round =>
    obtain ⟨k, ys, hk, rfl, hown, hl, ht, hbel⟩ := hrel
    by_cases hlt : k < xs.length
    · obtain ⟨g, off, rfl, hg, hcl⟩ := hcell (by omega)
      have hck : wr.cell? ⟨g, off + k, none⟩ = some (.int .i64 (xs.getD k 0)) := (hbel.cell hg).trans (hcl k hlt)
      have hdk := hown.cell (j := k) (by omega)
      have hfk := hown.frozen k
      go_wp2
      go_roundw
      case rel =>
        have hset := hown.set k (xs.getD k 0)
        rw [getD_lt hlt] at hset
        exact ⟨k + 1, _, by omega, by go_num, hset, by simpa using hl, by have := take_set_snoc hlt hl ht; rwa [getD_lt hlt] at this, hbel.setCell (Nat.le_refl _) _⟩
      case measure => simp [intOf]; omega
    · go_wp2
      go_ret
      obtain rfl : k = xs.length := by omega
      obtain rfl := take_all hl ht
      exact ⟨_, rfl, hown.sl, hbel⟩

theorem getD_ne {xs ys : List Int} {k : Nat} (h : xs.getD k 0 ≠ ys.getD k 0) : xs ≠ ys := fun e => h (by rw [e])
theorem take_snoc_eq {xs ys : List Int} {k : Nat} (hl : xs.length = ys.length) (hk : k < xs.length) (h : xs.take k = ys.take k) (he : xs[k]'hk = ys[k]'(by omega)) : xs.take (k + 1) = ys.take (k + 1) := by
  rw [List.take_succ_eq_append_getElem hk, List.take_succ_eq_append_getElem (by omega), h, he]

set_option maxHeartbeats 400000 in
theorem eqIntS_c (va vb : Value) (xs ys : List Int) (b : Bool) (w : World) (ha : Rd w va xs) (hb : Rd w vb ys) (hr : decide (xs = ys) = b) :
    Calls Try.prog 12 #[va, vb] w fun e w' => e = .returned (.bool b) ∧ Below w.heap.size w w' := by
  obtain ⟨A, c, rfl, hc, hm, hcell⟩ := ha
  obtain ⟨A', c', rfl, hc', hm', hcell'⟩ := hb
  by_cases hl : xs.length = ys.length
  · have hb : ((xs.length : Int) != (ys.length : Int)) = false := by simp [hl]
    have HL := hide hl
    clear hl
    go_enter Try.func12, Try.ntmps12
    go_wp2
    go_loopw [5] (fun i wr => ∃ k : Nat, k ≤ xs.length ∧ i = .int .i64 k ∧ xs.take k = ys.take k ∧ Below w.heap.size w wr) (fun i _ => xs.length - (intOf i).toNat)
    case atStart => exact ⟨0, Nat.zero_le _, rfl, rfl, Below.refl _ _⟩
    case round =>
      obtain ⟨k, hk, rfl, ht, hbel⟩ := hrel
      by_cases hlt : k < xs.length
      · have hlt' : k < ys.length := by have := HL.out; omega
        obtain ⟨g, off, rfl, hg, hcl⟩ := hcell (by omega)
        obtain ⟨g', off', rfl, hg', hcl'⟩ := hcell' (by omega)
        have hck : wr.cell? ⟨g, off + k, none⟩ = some (.int .i64 xs[k]) := by rw [hbel.cell hg, hcl k hlt, getD_lt hlt]
        have hck' : wr.cell? ⟨g', off' + k, none⟩ = some (.int .i64 ys[k]) := by rw [hbel.cell hg', hcl' k hlt', getD_lt hlt']
        have hi : (k : Int) < (xs.length : Int) := by omega
        have hi' : (k : Int) < (ys.length : Int) := by omega
        have HT := hide ht
        have HR := hide hr
        clear ht hr hcl hcl' hcell hcell'
        go_wp2
        go_quiet (fail)
        go_wp2
        · have hne : (xs[k] != ys[k]) = true := by assumption
          go_ret
          refine ⟨ret_bool ?_, below_drewN hbel _⟩
          rw [← HR.out]
          have : xs ≠ ys := by rintro rfl; simp at hne
          simp [this]
        · have he : (xs[k] != ys[k]) = false := by assumption
          go_roundw
          case rel => exact ⟨k + 1, by omega, by go_num, take_snoc_eq HL.out hlt HT.out (by simpa using he), below_drewN hbel _⟩
          case measure => simp [intOf]; omega
      · go_wp2
        go_ret
        obtain rfl : k = xs.length := by omega
        refine ⟨ret_bool ?_, hbel⟩
        rw [← hr]
        have hxy : xs = ys := by
          rw [List.take_of_length_le (Nat.le_refl _), List.take_of_length_le (by have := HL.out; omega)] at ht
          exact ht
        simp [hxy]
  · have hb : ((xs.length : Int) != (ys.length : Int)) = true := by simp; omega
    go_enter Try.func12, Try.ntmps12
    go_wp2
    go_ret
    refine ⟨ret_bool ?_, Below.refl _ _⟩
    rw [← hr]
    have : xs ≠ ys := fun e => hl (by rw [e])
    simp [this]

end Go.Proofs.Ytgageljahebjnaa
