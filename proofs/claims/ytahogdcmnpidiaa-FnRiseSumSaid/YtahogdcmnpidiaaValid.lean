/-
  The statement FnValidCloud: for every code it returns true and writes nothing that was there. And the contracts of ValidCloud.
-/
import Derived.Test.YtahogdcmnpidiaaCloud
import Derived.Test.YtahogdcmnpidiaaHelp
namespace Go.Proofs.Ytahogdcmnpidiaa
open Go.RowKit

def wideB (xs : List Int) : Bool := decide (minL xs < maxL xs)
theorem wide_iff {xs : List Int} : wideB xs = true ↔ ∃ x ∈ xs, ∃ y ∈ xs, x < y := by
  rw [wideB, decide_eq_true_eq]
  constructor
  · intro h
    have hne : xs ≠ [] := fun e => by subst e; simp [minL, maxL] at h
    exact ⟨_, minL_mem hne, _, maxL_mem hne, h⟩
  · rintro ⟨x, hx, y, hy, h⟩
    have h1 := minL_le hx
    have h2 := le_maxL hy
    omega
theorem wide_at {xs : List Int} {k : Nat} (hk : k < xs.length) (h : atL xs k ≠ atL xs 0) : wideB xs = true := by
  rcases Int.lt_or_gt_of_ne h with h | h
  · exact wide_iff.2 ⟨_, atL_mem hk, _, atL_mem (k := 0) (by omega), h⟩
  · exact wide_iff.2 ⟨_, atL_mem (k := 0) (by omega), _, atL_mem hk, h⟩
theorem wide_no {xs : List Int} (h : ∀ k, k < xs.length → atL xs k = atL xs 0) : wideB xs = false := by
  cases hw : wideB xs
  · rfl
  · obtain ⟨x, hx, y, hy, hl⟩ := wide_iff.1 hw
    obtain ⟨i, hi, rfl⟩ := List.getElem_of_mem hx
    obtain ⟨j, hj, rfl⟩ := List.getElem_of_mem hy
    have h1 := h i hi
    have h2 := h j hj
    rw [atL_lt hi] at h1
    rw [atL_lt hj] at h2
    omega
theorem wide_neg (xs : List Int) (h : wideB xs = true) : wideB (negL xs) = true := by
  obtain ⟨x, hx, y, hy, hl⟩ := wide_iff.1 h
  exact wide_iff.2 ⟨-y, List.mem_map.2 ⟨y, hy, rfl⟩, -x, List.mem_map.2 ⟨x, hx, rfl⟩, by omega⟩
theorem wide_rev (xs : List Int) (h : wideB xs = true) : wideB xs.reverse = true := by
  obtain ⟨x, hx, y, hy, hl⟩ := wide_iff.1 h
  exact wide_iff.2 ⟨x, by simpa using hx, y, by simpa using hy, hl⟩
theorem wide_two {xs : List Int} (h : wideB xs = true) : 2 ≤ xs.length := by
  obtain ⟨x, hx, y, hy, hl⟩ := wide_iff.1 h
  match xs, hx, hy with
  | [a], hx, hy => simp at hx hy; omega
  | a :: b :: l, _, _ => simp

def okCloud (xs ys : List Int) : Bool := okPv xs ys && wideB xs
theorem okCloud_all {xs ys : List Int} (h : okCloud xs ys = true) : (xs.length = ys.length ∧ 1 ≤ xs.length ∧ xs.length ≤ 7 ∧ allB (-12) 12 xs = true ∧ allB (-12) 12 ys = true) ∧ wideB xs = true := by
  simp [okCloud, okPv] at h
  obtain ⟨⟨⟨⟨h1, h2, h3⟩, h4⟩, h5⟩, h6⟩ := h
  exact ⟨⟨h1, by omega, by omega, h4, h5⟩, h6⟩
theorem okCloud_yes {xs ys : List Int} (h1 : xs.length = ys.length) (h2 : 1 ≤ xs.length) (h3 : xs.length ≤ 7) (h4 : allB (-12) 12 xs = true) (h5 : allB (-12) 12 ys = true) (h6 : wideB xs = true) : okCloud xs ys = true := by
  simp [okCloud, okPv, h1, h4, h5, h6]
  omega
theorem okCloud_spec (xs ys : List Int) : (okPts xs ys && wideB xs) = okCloud xs ys := by
  rw [Bool.eq_iff_iff]
  constructor
  · intro h
    simp only [Bool.and_eq_true] at h
    obtain ⟨h1, h2⟩ := h
    have := wide_two h2
    simp [okPts] at h1
    obtain ⟨⟨⟨h3, h4⟩, h5⟩, h6⟩ := h1
    exact okCloud_yes h3 (by omega) h4 h5 h6 h2
  · intro h
    obtain ⟨⟨h1, h2, h3, h4, h5⟩, h6⟩ := okCloud_all h
    simp [okPts, h4, h5, h6]
    omega
theorem okCloud_turn {xs ys : List Int} (h : okCloud xs ys = true) : okCloud xs.reverse ys.reverse = true := by
  obtain ⟨⟨h1, h2, h3, h4, h5⟩, h6⟩ := okCloud_all h
  exact okCloud_yes (by simp [h1]) (by simpa using h2) (by simpa using h3) (allB_iff.2 fun x hx => allB_iff.1 h4 x (by simpa using hx)) (allB_iff.2 fun x hx => allB_iff.1 h5 x (by simpa using hx)) (wide_rev _ h6)
theorem okCloud_neg {xs ys : List Int} (h : okCloud xs ys = true) : okCloud (negL xs) ys = true := by
  obtain ⟨⟨h1, h2, h3, h4, h5⟩, h6⟩ := okCloud_all h
  exact okCloud_yes (by rw [negL_len]; exact h1) (by rw [negL_len]; exact h2) (by rw [negL_len]; exact h3) (negL_allB h4) h5 (wide_neg _ h6)

set_option maxHeartbeats 1000000 in
theorem wide_c (v : Value) (xs : List Int) (b : Bool) (w : World) (hx : Rd w v xs) (hb : wideB xs = b) :
    Calls Try.prog 93 #[v] w fun e w' => e = .returned (.bool b) ∧ Below w.heap.size w w' := by
  obtain ⟨A, c, rfl, hc, hm, _⟩ := id hx
  have hat := hx.at
  have HB := hide hb
  clear hb hx
  go_enter Try.func93, Try.ntmps93
  go_wp2_with fail
  go_loopw [3] (fun i wr => ∃ k : Nat, 1 ≤ k ∧ i = .int .i64 k ∧ Hid (∀ j, j < k → j < xs.length → atL xs j = atL xs 0) ∧ Below w.heap.size w wr) (fun i _ => xs.length - (intOf i).toNat)
  case atStart => exact ⟨1, by omega, rfl, (fun j hj _ => by rw [show j = 0 by omega]), Below.refl _ _⟩
  case round =>
    obtain ⟨k, hk, rfl, hall, hbel⟩ := hrel
    by_cases hlt : k < xs.length
    · obtain ⟨g, off, rfl, hg, hcl⟩ := hat (by omega)
      have hc1 : wr.cell? ⟨g, off + k, none⟩ = some (.int .i64 (atL xs k)) := (hbel.cell (p := ⟨g, off + k, none⟩) hg).trans (hcl k hlt)
      have hc0 : wr.cell? ⟨g, off, none⟩ = some (.int .i64 (atL xs 0)) := (hbel.cell (p := ⟨g, off, none⟩) hg).trans (hcl 0 (by omega))
      have hi1 : (k : Int) < (xs.length : Int) := by omega
      have hi0 : (0 : Int) < (xs.length : Int) := by omega
      by_cases he : atL xs k = atL xs 0
      · have hne : (atL xs k != atL xs 0) = false := by simp [he]
        have HN : Hid (∀ j, j < k + 1 → j < xs.length → atL xs j = atL xs 0) := fun j hj hl => by
          by_cases e : j = k
          · subst e; exact he
          · exact hall.out j (by omega) hl
        obtain ⟨x, hxe⟩ : ∃ x, atL xs k = x := ⟨_, rfl⟩
        obtain ⟨y, hye⟩ : ∃ x, atL xs 0 = x := ⟨_, rfl⟩
        rw [hxe] at hc1 hne
        rw [hye] at hc0 hne
        clear hcl hat he hxe hye
        go_wp2_with fail
        go_quiet (fail)
        go_wp2
        go_roundw
        case rel => exact ⟨k + 1, by omega, by go_num, HN, below_drewN hbel _⟩
        case measure => simp [intOf]; omega
      · have HF : Hid (b = true) := by show _ = _; rw [← HB.out]; exact wide_at hlt he
        have hne : (atL xs k != atL xs 0) = true := by simp [he]
        obtain ⟨x, hxe⟩ : ∃ x, atL xs k = x := ⟨_, rfl⟩
        obtain ⟨y, hye⟩ : ∃ x, atL xs 0 = x := ⟨_, rfl⟩
        rw [hxe] at hc1 hne
        rw [hye] at hc0 hne
        clear hcl hat he hxe hye
        go_wp2_with fail
        go_quiet (fail)
        go_wp2
        go_ret
        exact ⟨ret_bool HF.out.symm, below_drewN hbel _⟩
    · have HF : Hid (b = false) := by show _ = _; rw [← HB.out]; exact wide_no fun j hj => hall.out j (by omega) hj
      have hd : ¬ (k : Int) < (xs.length : Int) := by omega
      clear hat
      go_wp2_with fail
      go_ret
      exact ⟨ret_bool HF.out.symm, hbel⟩

set_option maxHeartbeats 1000000 in
theorem validCloudS_c (u v : Value) (xs ys : List Int) (b : Bool) (w : World) (hx : Rd w u xs) (hy : Rd w v ys) (hb : okCloud xs ys = b) :
    Calls Try.prog 70 #[u, v] w fun e w' => e = .returned (.bool b) ∧ Below w.heap.size w w' := by
  rw [← okCloud_spec] at hb
  obtain ⟨p, hp⟩ : ∃ p, okPts xs ys = p := ⟨_, rfl⟩
  obtain ⟨q, hq⟩ : ∃ q, wideB xs = q := ⟨_, rfl⟩
  rw [hp, hq] at hb
  have HP := hide hp
  have HQ := hide hq
  subst hb
  clear hp hq
  go_enter Try.func70, Try.ntmps70
  go_wp2_with fail
  refine (validPoints_c _ _ xs ys p _ hx hy HP.out).mono ?_
  rintro e w1 ⟨rfl, rfl⟩
  cases p
  · go_wp2_with fail
    go_ret
    exact ⟨rfl, Below.refl _ _⟩
  · go_wp2_with fail
    refine (wide_c _ xs q _ hx HQ.out).mono ?_
    rintro e w2 ⟨rfl, hb2⟩
    go_wp2_with fail
    go_ret
    exact ⟨rfl, hb2⟩

theorem ValidCloudS_c (u v : Value) (xs ys : List Int) (b : Bool) (w : World) (hx : Rd w u xs) (hy : Rd w v ys) (hb : okCloud xs ys = b) :
    Calls Try.prog 24 #[u, v] w fun e w' => e = .returned (.bool b) ∧ Below w.heap.size w w' := by
  go_enter Try.func24, Try.ntmps24
  go_wp2_with fail
  refine (validCloudS_c _ _ xs ys b _ hx hy hb).mono ?_
  rintro e w1 ⟨rfl, hb1⟩
  go_wp2_with fail
  go_ret
  exact ⟨rfl, hb1⟩

set_option maxHeartbeats 1000000 in
theorem ValidCloudI_c (u v : Value) (xs ys : List Int) (b : Bool) (w : World) (hx : Rd w u xs) (hy : Rd w v ys) (hb : okCloud xs ys = b) :
    Calls Try.prog 23 #[u, v] w fun e w' => e = .returned (.bool b) ∧ Below w.heap.size w w' := by
  obtain ⟨p, hp⟩ : ∃ p, okPv xs ys = p := ⟨_, rfl⟩
  have HP := hide hp
  rw [okCloud, hp] at hb
  cases p
  · subst hb
    clear hp
    go_enter Try.func23, Try.ntmps23
    go_wp2_with fail
    refine (placesValid_c _ _ xs ys false _ hx hy HP.out).mono ?_
    rintro e w1 ⟨rfl, hb1⟩
    go_wp2_with fail
    go_ret
    exact ⟨rfl, hb1⟩
  · have h0 : 0 < xs.length := by simp [okPv] at hp; omega
    have HB : Hid (decide (minL xs < maxL xs) = b) := by show _ = _; rw [← hb]; simp [wideB]
    obtain ⟨m, hm⟩ : ∃ m, minL xs = m := ⟨_, rfl⟩
    obtain ⟨n, hn⟩ : ∃ m, maxL xs = m := ⟨_, rfl⟩
    have A1 := hide fun w h => slicesMin_c u xs w h h0
    have A2 := hide fun w h => slicesMax_c u xs w h h0
    rw [hm] at A1 HB
    rw [hn] at A2 HB
    clear hp hb hm hn
    go_enter Try.func23, Try.ntmps23
    go_wp2_with fail
    refine (placesValid_c _ _ xs ys true _ hx hy HP.out).mono ?_
    rintro e w1 ⟨rfl, hb1⟩
    go_wp2_with fail
    refine (A1.out _ (hx.below hb1)).mono ?_
    rintro e w2 ⟨rfl, rfl⟩
    go_wp2_with fail
    refine (A2.out _ (hx.below hb1)).mono ?_
    rintro e w3 ⟨rfl, rfl⟩
    go_wp2_with fail
    go_ret
    exact ⟨ret_bool HB.out, hb1⟩
end Go.Proofs.Ytahogdcmnpidiaa
