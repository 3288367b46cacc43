/-
  Distances: the contract of the program's ValidGaps; what valid rows are.
-/
import Derived.Test.YtncglgkpgbhejaaGaps
namespace Go.Proofs.Ytncglgkpgbhejaa
open Go.RowKit

set_option maxHeartbeats 4000000 in
theorem ValidGapsI_c (v : Value) (xss : List (List Int)) (r : Bool) (w : World) (h : RdSS w v xss) (hr : okGaps xss = r) :
    Calls Try.prog 33 #[v] w fun e w' => e = .returned (.bool r) ∧ Below w.heap.size w w' := by
  obtain ⟨A, c, rfl, hc, hm, _⟩ := id h
  cases hin : (decide (1 ≤ (xss.length : Int)) && decide ((xss.length : Int) ≤ 6))
  · obtain rfl : r = false := by rw [← hr, okGaps, hin]; rfl
    clear hr
    go_enter Try.func33, Try.ntmps33
    go_wp2_with fail
    refine (in_c false _ _ _ _ hin).mono ?_
    rintro e w1 ⟨rfl, rfl⟩
    go_wp2_with fail
    go_ret
    exact ⟨rfl, Below.refl _ _⟩
  have HR : Hid ((List.range xss.length).all (rowB xss) = r) := by show _ = _; rw [← hr, okGaps, hin, Bool.true_and]
  have HI := hide hin
  have hno : Hid (∀ i : Nat, i < xss.length → rowB xss i = false → r = false) := fun i hi h => by rw [← hr]; exact okGaps_no hi h
  clear hr hin
  go_enter Try.func33, Try.ntmps33
  go_wp2_with fail
  refine (in_c true _ _ _ _ HI.out).mono ?_
  rintro e w1 ⟨rfl, rfl⟩
  go_wp2_with fail
  go_loopw [12] (fun i wr => ∃ k : Nat, k ≤ xss.length ∧ i = .int .i64 k ∧ Hid (∀ j, j < k → rowB xss j = true) ∧ Below w.heap.size w wr) (fun i _ => xss.length - (intOf i).toNat)
  case atStart => exact ⟨0, by omega, rfl, fun j hj => by omega, Below.refl _ _⟩
  case round =>
    obtain ⟨k, hk, rfl, hall, hbel⟩ := hrel
    by_cases hlt : k < xss.length
    · have hw := h.below hbel
      obtain ⟨g, off, rfl, hg, B, d, hcr, hrd, hd1, hd2, hcell⟩ := hw.row hlt
      have ik : (k : Int) < (xss.length : Int) := by omega
      by_cases hl : ((rw_ xss k).length : Int) = (xss.length : Int)
      · have hlb : (((rw_ xss k).length : Int) != (xss.length : Int)) = false := by simp [hl]
        obtain ⟨g2, off2, rfl, hg2, hcl⟩ := hcell (by omega)
        have hc2 := hcl k (by omega)
        have ik2 : (k : Int) < ((rw_ xss k).length : Int) := by omega
        have HL := hide hl
        obtain ⟨L, hL⟩ : ∃ L, (rw_ xss k).length = L := ⟨_, rfl⟩
        have HLN := hide hL
        rw [hL] at hcr hrd hd1 hcl ik2 hlb
        by_cases hz : gp xss k k = 0
        · have hdb : (gp xss k k != 0) = false := by simp [hz]
          have HZ := hide hz
          obtain ⟨x, hx⟩ : ∃ x, gp xss k k = x := ⟨_, rfl⟩
          rw [hx] at hc2 hdb
          clear hl hz hx hcell hL
          go_wp2_with fail
          go_loopw [30] (fun b wr' => ∃ m : Nat, m ≤ k ∧ b = .int .i64 m ∧ Hid (∀ j, j < m → pairB xss k j = true) ∧ Below wr.heap.size wr wr') (fun b _ => k - (intOf b).toNat)
          case atStart => exact ⟨0, by omega, rfl, fun j hj => by omega, Below.refl _ _⟩
          case round =>
            rename World => wq
            obtain ⟨m, hmk, rfl, hpall, hbq⟩ := hrel
            have hbel' := hbel.trans (hbq.mono hbel.size)
            by_cases hmlt : m < k
            · have hw' := h.below hbel'
              have hrm := (rowB_iff.1 (hall.out m hmlt)).1
              obtain ⟨gb, ob, eb, hgb, Bb, db, hcrb, _, _, _, hcellb⟩ := hw'.row (show m < xss.length by omega)
              simp only [Option.some.injEq, Addr.mk.injEq, and_true] at eb
              obtain ⟨rfl, rfl⟩ := eb
              have hra : L = xss.length := by have := HL.out; have := HLN.out; omega
              rw [hrm] at hcrb hcellb
              obtain ⟨g4, o4, rfl, hg4, hc4⟩ := hcellb (by omega)
              have hs := hbq.size
              have x2 := cell_grn (Below.refl wq.heap.size wq) hgb hcrb
              have x3 := cell_grn (Below.refl wq.heap.size wq) (show g2 < wq.heap.size by omega) ((hbq.cell (p := ⟨g2, off2 + m, none⟩) hg2).trans (hcl m (by omega)))
              have x4 := cell_grn (Below.refl wq.heap.size wq) hg4 (hc4 k (by omega))
              have i1 : (m : Int) < (k : Int) := by omega
              have i2 : (m : Int) < (xss.length : Int) := by omega
              have i3 : (m : Int) < (L : Int) := by omega
              clear hcrb hcellb hc4 hcl hra hrm hw' hcr hc2
              cases h1 : (decide (1 ≤ gp xss k m) && decide (gp xss k m ≤ 40))
              · have HF : Hid (r = false) := hno.out k hlt (rowB_pair hmlt (pairB_no1 h1))
                have F := hide fun w => same_below (in_c false (gp xss k m) 1 40 w h1)
                obtain ⟨p, hp⟩ : ∃ x, gp xss k m = x := ⟨_, rfl⟩
                obtain ⟨q, hq⟩ : ∃ x, gp xss m k = x := ⟨_, rfl⟩
                rw [hp] at x3 F
                rw [hq] at x4
                clear h1 hp hq
                go_wp2_with fail
                refine wp_region_below (by kernel_rfl) (by kernel_rfl) ?_
                repeat (go_big_quiet_step ((go_at_call 37; with_reducible exact calls_grn F.out)))
                refine wpQuiet_nil ?_
                intro w5 hb5
                go_wp2_with fail
                go_ret
                exact ⟨ret_bool HF.out.symm, hbel'.trans (hb5.mono hbel'.size)⟩
              · have F := hide fun w => same_below (in_c true (gp xss k m) 1 40 w h1)
                by_cases hs : gp xss m k = gp xss k m
                · have hsb : (gp xss m k != gp xss k m) = false := by simp [hs]
                  have HN : Hid (∀ j, j < m + 1 → pairB xss k j = true) := fun j hj => by
                    by_cases e : j = m
                    · subst e; exact pairB_yes h1 hs
                    · exact hpall.out j (by omega)
                  obtain ⟨p, hp⟩ : ∃ x, gp xss k m = x := ⟨_, rfl⟩
                  obtain ⟨q, hq⟩ : ∃ x, gp xss m k = x := ⟨_, rfl⟩
                  rw [hp] at x3 F hsb
                  rw [hq] at x4 hsb
                  clear h1 hs hp hq
                  go_wp2_with fail
                  refine wp_region_below (by kernel_rfl) (by kernel_rfl) ?_
                  repeat (go_big_quiet_step ((go_at_call 37; with_reducible exact calls_grn F.out)))
                  refine wpQuiet_nil ?_
                  intro w5 hb5
                  go_wp2_with fail
                  go_roundw
                  case rel => exact ⟨m + 1, by omega, by go_num, HN, hbq.trans (hb5.mono hbq.size)⟩
                  case measure => simp [intOf]; omega
                · have hsb : (gp xss m k != gp xss k m) = true := by simp [hs]
                  have HF : Hid (r = false) := hno.out k hlt (rowB_pair hmlt (pairB_no2 hs))
                  obtain ⟨p, hp⟩ : ∃ x, gp xss k m = x := ⟨_, rfl⟩
                  obtain ⟨q, hq⟩ : ∃ x, gp xss m k = x := ⟨_, rfl⟩
                  rw [hp] at x3 F hsb
                  rw [hq] at x4 hsb
                  clear h1 hs hp hq
                  go_wp2_with fail
                  refine wp_region_below (by kernel_rfl) (by kernel_rfl) ?_
                  repeat (go_big_quiet_step ((go_at_call 37; with_reducible exact calls_grn F.out)))
                  refine wpQuiet_nil ?_
                  intro w5 hb5
                  go_wp2_with fail
                  go_ret
                  exact ⟨ret_bool HF.out.symm, hbel'.trans (hb5.mono hbel'.size)⟩
            · obtain rfl : m = k := by omega
              have HN : Hid (∀ j, j < m + 1 → rowB xss j = true) := fun j hj => by
                by_cases e : j = m
                · subst e; exact rowB_iff.2 ⟨by have := HL.out; omega, HZ.out, hpall.out⟩
                · exact hall.out j (by omega)
              have hd : ¬ (m : Int) < (m : Int) := by omega
              clear hcl hcr hc2
              go_wp2_with fail
              go_roundw
              case rel => exact ⟨m + 1, by omega, by go_num, HN, hbel'⟩
              case measure => simp [intOf]; omega
        · have hdb : (gp xss k k != 0) = true := by simp [hz]
          have HF : Hid (r = false) := hno.out k hlt (rowB_diag hz)
          obtain ⟨x, hx⟩ : ∃ x, gp xss k k = x := ⟨_, rfl⟩
          rw [hx] at hc2 hdb
          clear hl hz hx hcell hL
          go_wp2_with fail
          go_ret
          exact ⟨ret_bool HF.out.symm, hbel⟩
      · have hlb : (((rw_ xss k).length : Int) != (xss.length : Int)) = true := by simp; omega
        have HF : Hid (r = false) := hno.out k hlt (rowB_len (by omega))
        clear hcell hl
        go_wp2_with fail
        go_ret
        exact ⟨ret_bool HF.out.symm, hbel⟩
    · obtain rfl : k = xss.length := by omega
      have HF : Hid (r = true) := by show _ = _; rw [← HR.out]; exact rows_iff.2 hall.out
      have hd : ¬ (xss.length : Int) < (xss.length : Int) := by omega
      go_wp2_with fail
      go_ret
      exact ⟨ret_bool HF.out.symm, hbel⟩

/-- Valid distances: symmetric, 0 on the diagonal, from 1 up to 40 elsewhere; at most 6 things. -/
theorem okGaps_all {xss : List (List Int)} (h : okGaps xss = true) : (1 ≤ xss.length ∧ xss.length ≤ 6) ∧ (∀ i, i < xss.length → (rw_ xss i).length = xss.length) ∧ (∀ i, i < xss.length → gp xss i i = 0) ∧
    (∀ i k, i < xss.length → k < xss.length → gp xss i k = gp xss k i) ∧ ∀ i k, i < xss.length → k < xss.length → i ≠ k → 1 ≤ gp xss i k ∧ gp xss i k ≤ 40 := by
  simp only [okGaps, Bool.and_eq_true, decide_eq_true_eq, rows_iff] at h
  obtain ⟨⟨h1, h2⟩, h3⟩ := h
  have hp : ∀ i k, i < xss.length → k < i → (1 ≤ gp xss i k ∧ gp xss i k ≤ 40) ∧ gp xss k i = gp xss i k := fun i k hi hk => by
    have := (rowB_iff.1 (h3 i hi)).2.2 k hk
    simpa [pairB] using this
  refine ⟨by omega, fun i hi => (rowB_iff.1 (h3 i hi)).1, fun i hi => (rowB_iff.1 (h3 i hi)).2.1, fun i k hi hk => ?_, fun i k hi hk hne => ?_⟩
  · rcases Nat.lt_trichotomy i k with h | h | h
    · exact (hp k i hk h).2
    · rw [h]
    · exact ((hp i k hi h).2).symm
  · rcases Nat.lt_or_gt_of_ne hne with h | h
    · have := hp k i hk h; omega
    · have := hp i k hi h; omega
theorem okGaps_bd {xss : List (List Int)} (h : okGaps xss = true) {i k : Nat} (hi : i < xss.length) (hk : k < xss.length) : 0 ≤ gp xss i k ∧ gp xss i k ≤ 40 := by
  obtain ⟨_, _, h3, _, h5⟩ := okGaps_all h
  by_cases e : i = k
  · subst e; rw [h3 i hi]; omega
  · have := h5 i k hi hk e; omega
end Go.Proofs.Ytncglgkpgbhejaa
