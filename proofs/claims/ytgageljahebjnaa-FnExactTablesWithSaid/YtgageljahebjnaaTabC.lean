
/-
  Contracts: slices.Concat of a slice and none; slices.Clone; factorials.
-/
import Derived.Test.YtgageljahebjnaaConcat
import Derived.Test.YtgageljahebjnaaTabP
import Derived.Test.YtgageljahebjnaaC9a
import Derived.Test.YtgageljahebjnaaSum
import Derived.Laws.AppendOwnNone
namespace Go.Proofs.Ytgageljahebjnaa
open Go.RowKit

set_option maxRecDepth 100000 in
set_option maxHeartbeats 2000000 in
theorem concat1_c (G : Nat) (u : Value) (xs : List Int) (w : World) (hu : w.cell? ⟨G, 0, none⟩ = some u) (hv : w.cell? ⟨G, 1, none⟩ = some (.slice none 0 0)) (hG : G < w.heap.size) (hx : Rd w u xs) (hx0 : 0 < xs.length) (hx1 : xs.length ≤ 1000) :
    Calls Try.prog 76 #[.slice (some ⟨G, 0, none⟩) 2 2] w fun e w' => ∃ v', e = .returned v' ∧ Own w' w.heap.size 3 v' xs ∧ Below w.heap.size w w' := by
  have hx' := hx
  obtain ⟨A1, c1, rfl, hc1, hm1, _⟩ := hx
  obtain ⟨i0, hi, -, -, -⟩ := info_parts ints.info
  have HII := hide hi
  clear hi
  go_enter Try.func76, Try.ntmps76
  go_wp2_with fail
  go_loop [3, 5, 11] (fun n s i => (i = .int .i64 0 ∧ n = .int .i64 0) ∨ (i = .int .i64 1 ∧ n = .int .i64 xs.length) ∨ (i = .int .i64 2 ∧ n = .int .i64 (xs.length : Int))) (fun _ _ i => 2 - (intOf i).toNat)
  case atStart => exact .inl ⟨rfl, rfl⟩
  case round =>
    rcases hrel with ⟨rfl, rfl⟩ | ⟨rfl, rfl⟩ | ⟨rfl, rfl⟩
    · go_wp2_with fail
      go_round
      case rel => exact .inr (.inl ⟨by go_num, by go_num⟩)
      case measure => simp [intOf]
    · go_wp2_with fail
      go_round
      case rel => exact .inr (.inr ⟨by go_num, by go_num⟩)
      case measure => simp [intOf]
    · go_wp2_with fail
      refine (grow_c xs.length _ (by omega) (by omega)).mono ?_
      rintro e w1 ⟨v1, rfl, hown1, hb1⟩
      have hu1 := (hb1.cell (p := ⟨G, 0, none⟩) hG).trans hu
      have hv1 := (hb1.cell (p := ⟨G, 1, none⟩) hG).trans hv
      have hsz1 := hb1.size
      go_wp2_with fail
      go_loopw [6, 8, 27] (fun o s i wr => Below w.heap.size w wr ∧ ((i = .int .i64 0 ∧ Own wr w.heap.size 3 o []) ∨ (i = .int .i64 1 ∧ Own wr w.heap.size 3 o xs) ∨ (i = .int .i64 2 ∧ Own wr w.heap.size 3 o xs))) (fun _ _ i _ => 2 - (intOf i).toNat)
      case atStart => exact ⟨hb1, .inl ⟨rfl, hown1⟩⟩
      case round =>
        obtain ⟨hbel, hrel⟩ := hrel
        have hb0 : Below w.heap.size w wr := hbel
        have hu2 := (hb0.cell (p := ⟨G, 0, none⟩) hG).trans hu
        have hv2 := (hb0.cell (p := ⟨G, 1, none⟩) hG).trans hv
        have hxr := hx'.below hb0
        have hsz2 := hb0.size
        rcases hrel with ⟨rfl, hown⟩ | ⟨rfl, hown⟩ | ⟨rfl, hown⟩
        · go_wp2_with (at_builtin; refine wpList_append_rd _ rfl (.tmp 31) (.tmp 32) rfl ints w.heap.size _ _ [] xs rfl rfl hown hxr hsz2 (by simp) (by omega) (by omega) ?_; intro v4 w4 hown4 hb4 hg4 hat4 hk4 hlt4)
          go_roundw
          case rel => exact ⟨hbel.trans hb4, .inr (.inl ⟨by go_num, by simpa using hown4⟩)⟩
          case measure => simp [intOf]
        · go_wp2_with (at_builtin; refine wpList_append_own_none rfl (.tmp 31) (.tmp 32) 22 rfl w.heap.size 3 i0 1 ints.slice HII.out _ _ _ rfl hown rfl ?_)
          go_roundw
          case rel => exact ⟨hbel, .inr (.inr ⟨by go_num, hown⟩)⟩
          case measure => simp [intOf]
        · go_wp2_with fail
          go_ret
          exact ⟨_, rfl, hown, hb0⟩

theorem Own.form {w : World} {B e : Nat} {v : Value} {xs : List Int} (h : Own w B e v xs) (h0 : 0 < xs.length) : ∃ g c, v = .slice (some ⟨g, 0, none⟩) xs.length c ∧ B ≤ g ∧ g < w.heap.size ∧ xs.length ≤ c ∧ c ≤ 9223372036854775807 := by
  obtain ⟨A, c, rfl, h2, h3, h4⟩ := h.sl
  obtain ⟨hl, h5 | ⟨g', cap, cur, hv, hB, hg, hn, hc, hs, ht⟩⟩ := id h
  · omega
  · simp only [Value.slice.injEq] at hv
    obtain ⟨rfl, _, rfl⟩ := hv
    exact ⟨g', c, rfl, hB, (Array.getElem?_eq_some_iff.1 hg).1, h2, h3⟩
set_option maxHeartbeats 1000000 in
theorem Clone_c (v : Value) (xs : List Int) (w : World) (h : Rd w v xs) (h0 : 0 < xs.length) (h1 : xs.length ≤ 1000000) :
    Calls Try.prog 69 #[v] w fun e w' => ∃ v', e = .returned v' ∧ Own w' w.heap.size 3 v' xs ∧ Below w.heap.size w w' := by
  obtain ⟨A, c, rfl, hc, hm, hcell⟩ := id h
  obtain ⟨g, off, rfl, hg, _⟩ := hcell h0
  clear hcell
  have he : ∀ w : World, (binOp .eql 22 (.slice (some ⟨g, off, none⟩) xs.length c) (.slice none 0 0)).run Try.prog w = .ok (.bool false) w := fun _ => rfl
  go_enter Try.func69, Try.ntmps69
  go_wp2_with (at_builtin; refine wpList_append_rd _ rfl (.tmp 5) (.tmp 6) rfl ints w.heap.size _ _ [] xs rfl rfl (lit_own [] rfl rfl rfl (by simp) (Nat.le_refl _)) (h.alloc _) (by simp) (by simp) (by omega) h0 ?_; intro v7 w7 hown7 hb7 hg7 hat7 hk7 hlt7)
  go_ret
  exact ⟨_, rfl, hown7, (below_alloc' (Below.refl _ _) _).trans hb7⟩

theorem fac_succ (n : Nat) : fac (n + 1) = ((n : Int) + 1) * fac n := rfl
set_option maxHeartbeats 400000 in
theorem facI_c : ∀ (n : Nat) (w : World), n ≤ 6 → Calls Try.prog 70 #[.int .i64 n] w fun e w' => e = .returned (.int .i64 (fac n)) ∧ w = w' := by
  intro n
  induction n with
  | zero =>
    intro w _
    go_enter Try.func70, Try.ntmps70
    go_wp2
    go_ret
    exact ⟨rfl, rfl⟩
  | succ n ih =>
    intro w hn
    have HI := hide ih
    have hf := fac_bd (n := n) (by omega)
    have hF := hide (fac_succ n)
    clear ih
    by_cases h0 : n = 0
    · subst h0
      go_enter Try.func70, Try.ntmps70
      go_wp2
      go_ret
      exact ⟨rfl, rfl⟩
    · have hm := mul_pos_bd (a := (n : Int) + 1) (b := fac n) (m := 7) (n := 720) (by omega) (by omega)
      obtain ⟨F, hFe⟩ : ∃ F, fac n = F := ⟨_, rfl⟩
      rw [hFe] at hf hF hm
      have hlt : decide (((n : Int) + 1) < 2) = false := decide_eq_false (by omega)
      have HFE := hide hFe
      clear hFe
      go_enter Try.func70, Try.ntmps70
      go_wp2_with fail
      refine (HI.out _ (by omega)).mono ?_
      rw [HFE.out]
      rintro e w' ⟨rfl, rfl⟩
      go_wp2_with fail
      go_ret
      exact ⟨ret_int (by rw [hF.out]), rfl⟩
set_option maxHeartbeats 400000 in
theorem facS_c (n : Nat) (w : World) (hn : n ≤ 6) : Calls Try.prog 64 #[.int .i64 n] w fun e w' => e = .returned (.int .i64 (fac n)) ∧ w = w' := by
  have : n = 0 ∨ n = 1 ∨ n = 2 ∨ n = 3 ∨ n = 4 ∨ n = 5 ∨ n = 6 := by omega
  have H := hide hn
  clear hn
  go_enter Try.func64, Try.ntmps64
  go_wp2_with fail
  go_loop [3, 4] (fun o i => ∃ k : Nat, k ≤ n ∧ 1 ≤ k ∧ i = .int .i64 ((k : Int) + 1) ∧ o = .int .i64 (fac k) ∨ k = 0 ∧ n = 0 ∧ i = .int .i64 2 ∧ o = .int .i64 1) (fun _ i => n + 1 - (intOf i).toNat)
  case atStart =>
    by_cases h : n = 0
    · exact ⟨0, .inr ⟨rfl, h, rfl, rfl⟩⟩
    · exact ⟨1, .inl ⟨by omega, by omega, rfl, rfl⟩⟩
  case round =>
    obtain ⟨k, ⟨hk, hk1, rfl, rfl⟩ | ⟨rfl, hn0, rfl, rfl⟩⟩ := hrel
    · by_cases hlt : k < n
      · have hf := fac_bd (n := k) (by have := H.out; omega)
        have hm := mul_pos_bd (a := fac k) (b := (k : Int) + 1) (m := 720) (n := 7) (by omega) (by have := H.out; omega)
        have hF : Hid (fac (k + 1) = fac k * ((k : Int) + 1)) := by show _ = _; rw [fac_succ, Int.mul_comm]
        obtain ⟨F, hFe⟩ : ∃ F, fac k = F := ⟨_, rfl⟩
        rw [hFe] at hf hF hm ⊢
        have ik : (k : Int) + 1 ≤ (n : Int) := by omega
        have H6 := H.out
        clear hFe
        go_wp2_with fail
        go_round
        case rel => exact ⟨k + 1, .inl ⟨by omega, by omega, by go_num, by rw [hF.out]⟩⟩
        case measure => simp [intOf]; omega
      · obtain rfl : k = n := by omega
        have H6 := H.out
        have hd : decide ((k : Int) + 1 ≤ (k : Int)) = false := decide_eq_false (by omega)
        go_wp2_with fail
        go_ret
        exact ⟨rfl, rfl⟩
    · subst hn0
      go_wp2_with fail
      go_ret
      exact ⟨rfl, rfl⟩
end Go.Proofs.Ytgageljahebjnaa
