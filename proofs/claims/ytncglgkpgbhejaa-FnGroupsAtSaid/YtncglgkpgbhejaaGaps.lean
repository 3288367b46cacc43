/-
  Distances: which rows are distances of things; the contracts of the two functions that say so.
-/
import Derived.Test.YtncglgkpgbhejaaSS
namespace Go.Proofs.Ytncglgkpgbhejaa
open Go.RowKit

theorem same_below {P : Program} {f : FuncId} {args : Array Value} {u : Value} {w : World} (h : Calls P f args w fun e w' => e = .returned u ∧ w = w') : Calls P f args w fun e w' => e = .returned u ∧ Below w.heap.size w w' :=
  h.mono fun _ _ ⟨he, hw⟩ => ⟨he, hw ▸ Below.refl _ _⟩

def rw_ (xss : List (List Int)) (i : Nat) : List Int := xss.getD i []
def gp (xss : List (List Int)) (i k : Nat) : Int := atL (rw_ xss i) k
def pairB (xss : List (List Int)) (i k : Nat) : Bool := (decide (1 ≤ gp xss i k) && decide (gp xss i k ≤ 40)) && decide (gp xss k i = gp xss i k)
def rowB (xss : List (List Int)) (i : Nat) : Bool := decide ((rw_ xss i).length = xss.length) && (decide (gp xss i i = 0) && (List.range i).all (pairB xss i))
def okGaps (xss : List (List Int)) : Bool := (decide (1 ≤ (xss.length : Int)) && decide ((xss.length : Int) ≤ 6)) && (List.range xss.length).all (rowB xss)
theorem rowB_iff {xss : List (List Int)} {i : Nat} : rowB xss i = true ↔ (rw_ xss i).length = xss.length ∧ gp xss i i = 0 ∧ ∀ k, k < i → pairB xss i k = true := by
  simp [rowB, List.all_eq_true]
theorem rows_iff {xss : List (List Int)} : (List.range xss.length).all (rowB xss) = true ↔ ∀ i, i < xss.length → rowB xss i = true := by simp [List.all_eq_true]
theorem okGaps_no {xss : List (List Int)} {i : Nat} (hi : i < xss.length) (h : rowB xss i = false) : okGaps xss = false := by
  have : (List.range xss.length).all (rowB xss) = false := by
    rw [← Bool.not_eq_true, rows_iff]
    intro hh
    rw [hh i hi] at h
    cases h
  simp [okGaps, this]
theorem rowB_len {xss : List (List Int)} {i : Nat} (h : ¬ (rw_ xss i).length = xss.length) : rowB xss i = false := by simp [rowB, h]
theorem rowB_diag {xss : List (List Int)} {i : Nat} (h : ¬ gp xss i i = 0) : rowB xss i = false := by simp [rowB, h]
theorem rowB_pair {xss : List (List Int)} {i k : Nat} (hk : k < i) (h : pairB xss i k = false) : rowB xss i = false := by
  rw [← Bool.not_eq_true, rowB_iff]
  rintro ⟨_, _, hh⟩
  rw [hh k hk] at h
  cases h
theorem okGaps_rows {xss : List (List Int)} (h : ∀ i, i < xss.length → rowB xss i = true) : okGaps xss = (decide (1 ≤ (xss.length : Int)) && decide ((xss.length : Int) ≤ 6)) := by
  rw [okGaps, rows_iff.2 h, Bool.and_true]
theorem pairB_no1 {xss : List (List Int)} {i k : Nat} (h : (decide (1 ≤ gp xss i k) && decide (gp xss i k ≤ 40)) = false) : pairB xss i k = false := by rw [pairB, h]; rfl
theorem pairB_no2 {xss : List (List Int)} {i k : Nat} (h : ¬ gp xss k i = gp xss i k) : pairB xss i k = false := by simp [pairB, h]
theorem pairB_yes {xss : List (List Int)} {i k : Nat} (h : (decide (1 ≤ gp xss i k) && decide (gp xss i k ≤ 40)) = true) (h2 : gp xss k i = gp xss i k) : pairB xss i k = true := by rw [pairB, h]; simp [h2]

/-- Row j, as the walk reads it. -/
theorem RdSS.row {w : World} {A : Option Addr} {n c : Nat} {xss : List (List Int)} (h : RdSS w (.slice A n c) xss) {j : Nat} (hj : j < xss.length) : ∃ g off, A = some ⟨g, off, none⟩ ∧ g < w.heap.size ∧
    ∃ B d, w.cell? ⟨g, off + j, none⟩ = some (.slice B (rw_ xss j).length d) ∧ Rd w (.slice B (rw_ xss j).length d) (rw_ xss j) ∧ (rw_ xss j).length ≤ d ∧ d ≤ 9223372036854775807 ∧
      (0 < (rw_ xss j).length → ∃ g off, B = some ⟨g, off, none⟩ ∧ g < w.heap.size ∧ ∀ k, k < (rw_ xss j).length → w.cell? ⟨g, off + k, none⟩ = some (.int .i64 (gp xss j k))) := by
  obtain ⟨rfl, h2, h3, h4⟩ := h.at
  obtain ⟨g, off, rfl, hg, hc⟩ := h4 (by omega)
  obtain ⟨u, hu, hr⟩ := hc j hj
  obtain ⟨B, d, rfl, hd1, hd2, _⟩ := id hr
  exact ⟨g, off, rfl, hg, B, d, hu, hr, hd1, hd2, hr.at⟩

set_option maxHeartbeats 4000000 in
theorem validGapsS_c (v : Value) (xss : List (List Int)) (r : Bool) (w : World) (h : RdSS w v xss) (hr : okGaps xss = r) :
    Calls Try.prog 30 #[v] w fun e w' => e = .returned (.bool r) ∧ Below w.heap.size w w' := by
  obtain ⟨A, c, rfl, hc, hm, _⟩ := id h
  have HR := hide hr
  clear hr
  go_enter Try.func30, Try.ntmps30
  go_wp2_with fail
  go_loopw [3] (fun i wr => ∃ k : Nat, k ≤ xss.length ∧ i = .int .i64 k ∧ Hid (∀ j, j < k → rowB xss j = true) ∧ Below w.heap.size w wr) (fun i _ => xss.length - (intOf i).toNat)
  case atStart => exact ⟨0, by omega, rfl, fun j hj => by omega, Below.refl _ _⟩
  case round =>
    obtain ⟨k, hk, rfl, hall, hbel⟩ := hrel
    by_cases hlt : k < xss.length
    · have hw := h.below hbel
      obtain ⟨g, off, rfl, hg, B, d, hcr, hrd, hd1, hd2, hcell⟩ := hw.row hlt
      have ik : (k : Int) < (xss.length : Int) := by omega
      by_cases hl : ((rw_ xss k).length : Int) = (xss.length : Int)
      · have hlb : (((rw_ xss k).length : Int) != (xss.length : Int)) = false := by simp [hl]
        obtain ⟨g2, off2, rfl, hg2, hcl⟩ := hcell (by omega)
        have hc2 := hcl k (by omega)
        have ik2 : (k : Int) < ((rw_ xss k).length : Int) := by omega
        have HL := hide hl
        obtain ⟨L, hL⟩ : ∃ L, (rw_ xss k).length = L := ⟨_, rfl⟩
        have HLN := hide hL
        rw [hL] at hcr hrd hd1 hcl ik2 hlb
        by_cases hz : gp xss k k = 0
        · have hdb : (gp xss k k != 0) = false := by simp [hz]
          have HZ := hide hz
          obtain ⟨x, hx⟩ : ∃ x, gp xss k k = x := ⟨_, rfl⟩
          rw [hx] at hc2 hdb
          clear hl hz hx hcell hL
          go_wp2_with fail
          go_loopw [4] (fun b wr' => ∃ m : Nat, m ≤ k ∧ b = .int .i64 m ∧ Hid (∀ j, j < m → pairB xss k j = true) ∧ Below w.heap.size w wr') (fun b _ => k - (intOf b).toNat)
          case atStart => exact ⟨0, by omega, rfl, fun j hj => by omega, hbel⟩
          case round =>
            rename World => wq
            obtain ⟨m, hmk, rfl, hpall, hbel'⟩ := hrel
            by_cases hmlt : m < k
            · have hw' := h.below hbel'
              have hrm := (rowB_iff.1 (hall.out m hmlt)).1
              obtain ⟨ga, oa, ea, hga, Ba, da, hcra, _, _, _, hcella⟩ := hw'.row hlt
              obtain ⟨gb, ob, eb, hgb, Bb, db, hcrb, _, _, _, hcellb⟩ := hw'.row (show m < xss.length by omega)
              simp only [Option.some.injEq, Addr.mk.injEq, and_true] at ea eb
              obtain ⟨rfl, rfl⟩ := ea
              obtain ⟨rfl, rfl⟩ := eb
              have hra : (rw_ xss k).length = xss.length := by have := HL.out; omega
              rw [hra] at hcra hcella
              rw [hrm] at hcrb hcellb
              obtain ⟨g3, o3, rfl, hg3, hc3⟩ := hcella (by omega)
              obtain ⟨g4, o4, rfl, hg4, hc4⟩ := hcellb (by omega)
              have x1 := cell_grn (Below.refl wq.heap.size wq) hga hcra
              have x2 := cell_grn (Below.refl wq.heap.size wq) hga hcrb
              have x3 := cell_grn (Below.refl wq.heap.size wq) hg3 (hc3 m (by omega))
              have x4 := cell_grn (Below.refl wq.heap.size wq) hg4 (hc4 k (by omega))
              have i1 : (m : Int) < (k : Int) := by omega
              have i2 : (m : Int) < (xss.length : Int) := by omega
              clear hcra hcrb hcella hcellb hc3 hc4 hcl hra hrm hw' hcr hc2
              cases h1 : (decide (1 ≤ gp xss k m) && decide (gp xss k m ≤ 40))
              · have HF : Hid (r = false) := by show _ = _; rw [← HR.out]; exact okGaps_no hlt (rowB_pair hmlt (pairB_no1 h1))
                have F := hide fun w => same_below (inRange_c false (gp xss k m) 1 40 w h1)
                obtain ⟨p, hp⟩ : ∃ x, gp xss k m = x := ⟨_, rfl⟩
                obtain ⟨q, hq⟩ : ∃ x, gp xss m k = x := ⟨_, rfl⟩
                rw [hp] at x3 F
                rw [hq] at x4
                clear h1 hp hq
                go_wp2_with fail
                refine wp_region_below (by kernel_rfl) (by kernel_rfl) ?_
                repeat (go_big_quiet_step ((go_at_call 35; with_reducible exact calls_grn F.out)))
                refine wpQuiet_nil ?_
                intro w5 hb5
                go_wp2_with fail
                go_ret
                exact ⟨ret_bool HF.out.symm, hbel'.trans (hb5.mono hbel'.size)⟩
              · have F := hide fun w => same_below (inRange_c true (gp xss k m) 1 40 w h1)
                by_cases hs : gp xss m k = gp xss k m
                · have hsb : (gp xss m k != gp xss k m) = false := by simp [hs]
                  have HN : Hid (∀ j, j < m + 1 → pairB xss k j = true) := fun j hj => by
                    by_cases e : j = m
                    · subst e; exact pairB_yes h1 hs
                    · exact hpall.out j (by omega)
                  obtain ⟨p, hp⟩ : ∃ x, gp xss k m = x := ⟨_, rfl⟩
                  obtain ⟨q, hq⟩ : ∃ x, gp xss m k = x := ⟨_, rfl⟩
                  rw [hp] at x3 F hsb
                  rw [hq] at x4 hsb
                  clear h1 hs hp hq
                  go_wp2_with fail
                  refine wp_region_below (by kernel_rfl) (by kernel_rfl) ?_
                  repeat (go_big_quiet_step ((go_at_call 35; with_reducible exact calls_grn F.out)))
                  refine wpQuiet_nil ?_
                  intro w5 hb5
                  go_wp2_with fail
                  go_roundw
                  case rel => exact ⟨m + 1, by omega, by go_num, HN, hbel'.trans (hb5.mono hbel'.size)⟩
                  case measure => simp [intOf]; omega
                · have hsb : (gp xss m k != gp xss k m) = true := by simp [hs]
                  have HF : Hid (r = false) := by show _ = _; rw [← HR.out]; exact okGaps_no hlt (rowB_pair hmlt (pairB_no2 hs))
                  obtain ⟨p, hp⟩ : ∃ x, gp xss k m = x := ⟨_, rfl⟩
                  obtain ⟨q, hq⟩ : ∃ x, gp xss m k = x := ⟨_, rfl⟩
                  rw [hp] at x3 F hsb
                  rw [hq] at x4 hsb
                  clear h1 hs hp hq
                  go_wp2_with fail
                  refine wp_region_below (by kernel_rfl) (by kernel_rfl) ?_
                  repeat (go_big_quiet_step ((go_at_call 35; with_reducible exact calls_grn F.out)))
                  refine wpQuiet_nil ?_
                  intro w5 hb5
                  go_wp2_with fail
                  go_ret
                  exact ⟨ret_bool HF.out.symm, hbel'.trans (hb5.mono hbel'.size)⟩
            · obtain rfl : m = k := by omega
              have HN : Hid (∀ j, j < m + 1 → rowB xss j = true) := fun j hj => by
                by_cases e : j = m
                · subst e; exact rowB_iff.2 ⟨by have := HL.out; omega, HZ.out, hpall.out⟩
                · exact hall.out j (by omega)
              have hd : ¬ (m : Int) < (m : Int) := by omega
              clear hcl hcr hc2
              go_wp2_with fail
              go_roundw
              case rel => exact ⟨m + 1, by omega, by go_num, HN, hbel'⟩
              case measure => simp [intOf]; omega
        · have hdb : (gp xss k k != 0) = true := by simp [hz]
          have HF : Hid (r = false) := by show _ = _; rw [← HR.out]; exact okGaps_no hlt (rowB_diag hz)
          obtain ⟨x, hx⟩ : ∃ x, gp xss k k = x := ⟨_, rfl⟩
          rw [hx] at hc2 hdb
          clear hl hz hx hcell hL
          go_wp2_with fail
          go_ret
          exact ⟨ret_bool HF.out.symm, hbel⟩
      · have hlb : (((rw_ xss k).length : Int) != (xss.length : Int)) = true := by simp; omega
        have HF : Hid (r = false) := by show _ = _; rw [← HR.out]; exact okGaps_no hlt (rowB_len (by omega))
        clear hcell hl
        go_wp2_with fail
        go_ret
        exact ⟨ret_bool HF.out.symm, hbel⟩
    · obtain rfl : k = xss.length := by omega
      have HF := hide ((okGaps_rows hall.out).symm.trans HR.out)
      have hd : ¬ (xss.length : Int) < (xss.length : Int) := by omega
      go_wp2_with fail
      refine (inRange_c r _ _ _ _ HF.out).mono ?_
      rintro e w1 ⟨rfl, rfl⟩
      go_wp2_with fail
      go_ret
      exact ⟨rfl, hbel⟩
end Go.Proofs.Ytncglgkpgbhejaa
