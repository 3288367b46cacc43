/-
  The least sum of distances of a rising row, in the program.
-/
import Derived.Test.YtahogdcmnpidiaaRiseP
import Derived.Test.YtahogdcmnpidiaaLoadsD
namespace Go.Proofs.Ytahogdcmnpidiaa
open Go.RowKit

/-- The numbers, moved to 0..60. -/
def hN (xs : List Int) (i : Nat) : Nat := (atL xs i + 30).toNat
def wN (ws : List Int) (i : Nat) : Int := atL ws i
def PL (xs ws : List Int) (i h : Nat) : Int := PI (fun i => (hN xs i : Int)) (wN ws) i h
theorem PL_zero (xs ws : List Int) (h : Nat) : PL xs ws 0 h = 0 := rfl
theorem PL_succ (xs ws : List Int) (i h : Nat) : PL xs ws (i + 1) h = pm (PL xs ws i) h + wN ws i * ab ((hN xs i : Int) - h) := rfl
theorem pm_bd {f : Nat → Int} {lo hi : Int} {h : Nat} (hf : ∀ k, k ≤ h → lo ≤ f k ∧ f k ≤ hi) : lo ≤ pm f h ∧ pm f h ≤ hi := by
  obtain ⟨k, h1, h2⟩ := pm_at f h
  rw [h2]
  exact hf k h1
theorem PL_bd {xs ws : List Int} (hx : allB (-30) 30 xs = true) (hw : allB 1 5 ws = true) (hl : xs.length = ws.length) : ∀ i, i ≤ xs.length → ∀ h, h ≤ 60 → 0 ≤ PL xs ws i h ∧ PL xs ws i h ≤ 300 * (i : Int)
  | 0, _, h, _ => by rw [PL_zero]; omega
  | i + 1, hi, h, hh => by
    have ih := pm_bd (f := PL xs ws i) (lo := 0) (hi := 300 * (i : Int)) (h := h) fun k hk => PL_bd hx hw hl i (by omega) k (by omega)
    have a := allB_at hx (j := i) (by omega)
    have b := allB_at hw (j := i) (by omega)
    have hd : 0 ≤ ab ((hN xs i : Int) - h) ∧ ab ((hN xs i : Int) - h) ≤ 60 := by unfold ab hN; omega
    have m1 := Int.mul_nonneg (a := wN ws i) (by unfold wN; omega) hd.1
    have m2 : wN ws i * ab ((hN xs i : Int) - h) ≤ 5 * 60 := Int.mul_le_mul (by unfold wN; omega) hd.2 hd.1 (by omega)
    rw [PL_succ]
    omega
def riseX (xs ws : List Int) : Int := if okLoads xs ws = true then bestR (fun i => (hN xs i : Int)) (wN ws) xs.length 60 else -1
theorem bestR_PL (xs ws : List Int) (n T : Nat) : bestR (fun i => (hN xs i : Int)) (wN ws) n T = pm (PL xs ws n) T := rfl

/-- Row i of the costs, its first h turned to the next one. -/
def RowT (xs ws : List Int) (i h : Nat) (ls : List Int) : Prop := ls.length = 61 ∧ ∀ k, k < 61 → ls.getD k 0 = if k < h then PL xs ws (i + 1) k else PL xs ws i k
theorem RowT.step {xs ws : List Int} {i h : Nat} {ls : List Int} (hr : RowT xs ws i h ls) (hh : h < 61) : RowT xs ws i (h + 1) (ls.set h (PL xs ws (i + 1) h)) := by
  refine ⟨by simpa using hr.1, fun k hk => ?_⟩
  by_cases e : k = h
  · subst e; simp [List.getD, hr.1, hk]
  · have := hr.2 k hk
    simp only [List.getD] at this ⊢
    rw [List.getElem?_set_ne (Ne.symm e), this]
    by_cases h1 : k < h
    · rw [if_pos h1, if_pos (by omega)]
    · rw [if_neg h1, if_neg (by omega)]
theorem RowT.next {xs ws : List Int} {i : Nat} {ls : List Int} (hr : RowT xs ws i 61 ls) : RowT xs ws (i + 1) 0 ls := ⟨hr.1, fun k hk => by rw [hr.2 k hk, if_pos hk]; simp⟩

set_option maxHeartbeats 1000000 in
theorem minS_c (v : Value) (ls : List Int) (f : Nat → Int) (w : World) (h : Rd w v ls) (hl : ls.length = 61) (hf : ∀ k, k < 61 → atL ls k = f k) :
    Calls Try.prog 68 #[v] w fun e w' => e = .returned (.int .i64 (pm f 60)) ∧ w = w' := by
  obtain ⟨A, c, rfl, hc, hm, _⟩ := id h
  have hcell := h.at
  rw [hl] at hcell hc ⊢
  obtain ⟨g, off, rfl, hg, hcl⟩ := hcell (by omega)
  have c0 : w.cell? ⟨g, off, none⟩ = some (.int .i64 (pm f 0)) := by rw [show pm f 0 = atL ls 0 from (hf 0 (by omega)).symm]; exact hcl 0 (by omega)
  have HCL : Hid (∀ k, k < 61 → w.cell? ⟨g, off + k, none⟩ = some (.int .i64 (f k))) := fun k hk => by rw [← hf k hk]; exact hcl k hk
  obtain ⟨m0, hm0⟩ : ∃ m, pm f 0 = m := ⟨_, rfl⟩
  have HM0 := hide hm0
  rw [hm0] at c0
  clear hcell hcl hm0 hl hf
  go_enter Try.func68, Try.ntmps68
  go_wp2_with fail
  go_loop [3, 4] (fun m i => ∃ k : Nat, k ≤ 60 ∧ i = .int .i64 ((k : Int) + 1) ∧ m = .int .i64 (pm f k)) (fun _ i => 61 - (intOf i).toNat)
  case atStart => exact ⟨0, by omega, rfl, by rw [HM0.out]⟩
  case round =>
    obtain ⟨k, hk, rfl, rfl⟩ := hrel
    by_cases hlt : k < 60
    · have hck := HCL.out (k + 1) (by omega)
      have HN : Hid (pm f (k + 1) = min (pm f k) (f (k + 1))) := rfl
      have ik : (k : Int) + 1 < 61 := by omega
      have i0 : (0 : Int) ≤ (k : Int) + 1 := by omega
      have it : ((k : Int) + 1).toNat = k + 1 := by omega
      obtain ⟨m, hm'⟩ : ∃ m, pm f k = m := ⟨_, rfl⟩
      obtain ⟨x, hx⟩ : ∃ m, f (k + 1) = m := ⟨_, rfl⟩
      rw [hx] at hck HN
      rw [hm'] at HN ⊢
      clear hm' hx
      go_wp2_with fail
      all_goals
        go_round
        case rel => exact ⟨k + 1, by omega, by go_num, by rw [HN.out]; first | rfl | (congr 1; omega)⟩
        case measure => simp [intOf]; omega
    · obtain rfl : k = 60 := by omega
      go_wp2_with fail
      go_ret
      exact ⟨rfl, rfl⟩

theorem rep_get (n k : Nat) : (List.replicate n (0 : Int)).getD k 0 = 0 := by
  by_cases h : k < n
  · simp [List.getD, h]
  · simp [List.getD, List.getElem?_eq_none (show (List.replicate n (0 : Int)).length ≤ k by simp; omega)]
theorem RowT.start (xs ws : List Int) : RowT xs ws 0 0 (List.replicate 61 0) := ⟨List.length_replicate, fun k _ => by rw [if_neg (by omega), PL_zero, rep_get]⟩

set_option maxHeartbeats 8000000 in
theorem RiseI_yes (u v : Value) (xs ws : List Int) (w : World) (hx : Rd w u xs) (hy : Rd w v ws) (hok : okLoads xs ws = true) :
    Calls Try.prog 33 #[u, v] w fun e w' => e = .returned (.int .i64 (pm (PL xs ws xs.length) 60)) ∧ Below w.heap.size w w' := by
  obtain ⟨l1, l8, hl, hxs, hws⟩ := okLoads_all hok
  have K := hide fun w hx hy => ValidLoadsI_c u v xs ws true w hx hy hok
  have HPB := hide fun (i : Nat) (hi : i ≤ xs.length) (h : Nat) (hh : h ≤ 60) => PL_bd hxs hws hl i hi h hh
  have HAX := hide fun k (hk : k < xs.length) => allB_at hxs hk
  have HAW := hide fun k (hk : k < xs.length) => allB_at hws (j := k) (by omega)
  have HL := hide hl
  obtain ⟨A, c, rfl, hc, hm, _⟩ := id hx
  obtain ⟨A2, c2, rfl, hc2, hm2, _⟩ := id hy
  clear hl hok hxs hws
  go_enter Try.func33, Try.ntmps33
  go_wp2_with fail
  refine (K.out _ hx hy).mono ?_
  rintro e w1 ⟨rfl, hb1⟩
  have hx1 := hx.below hb1
  have hy1 := hy.below hb1
  have hs1 := hb1.size
  go_wp2_with (at_make; refine wpList_make_ints _ rfl (.const (.int .i64 61)) (.const (.int .i64 61)) rfl ints 61 rfl rfl (by omega) ?_; intro w2 hown2 hbel2 hlt2)
  obtain ⟨g0, hg0⟩ : ∃ g, w1.heap.size = g := ⟨_, rfl⟩
  rw [hg0] at hown2 hs1
  rw [hg0]
  have HG0 := hide hg0
  have hr0 := hide (RowT.start xs ws)
  clear hg0
  go_loopw [18] (fun i wr => ∃ (k : Nat) (ls : List Int), k ≤ xs.length ∧ i = .int .i64 k ∧ Own wr g0 3 (.slice (some ⟨g0, 0, none⟩) 61 61) ls ∧ Hid (RowT xs ws k 0 ls) ∧ Hid (Below w1.heap.size w1 wr)) (fun i _ => xs.length - (intOf i).toNat)
  case atStart => exact ⟨0, _, by omega, rfl, hown2, hr0, hbel2⟩
  case round =>
    clear hown2 hr0 hbel2 hlt2
    obtain ⟨k, ls, hk, rfl, hown, hrow, hbel⟩ := hrel
    by_cases hlt : k < xs.length
    · obtain ⟨g, off, rfl, hg, hcl⟩ := hx1.at (by omega)
      have cx := (hbel.out.cell (p := ⟨g, off + k, none⟩) hg).trans (hcl k hlt)
      have c0 := hown.cell (j := 0) (by have := hrow.out.1; omega)
      have HC0 : Hid (ls.getD 0 0 = PL xs ws k 0) := by have := hrow.out.2 0 (by omega); rw [if_neg (by omega)] at this; exact this
      have ik : (k : Int) < (xs.length : Int) := by omega
      have hxb := HAX.out k hlt
      have HXK : Hid ((hN xs k : Int) = atL xs k + 30) := by show _ = _; unfold hN; omega
      obtain ⟨x, hxe⟩ : ∃ x, atL xs k = x := ⟨_, rfl⟩
      obtain ⟨z, hz⟩ : ∃ z, ls.getD 0 0 = z := ⟨_, rfl⟩
      rw [hxe] at cx hxb HXK
      rw [hz] at c0 HC0
      clear hxe hz hcl
      go_wp2_with fail
      go_loopw [8, 28] (fun be i wr' => ∃ (h : Nat) (ls : List Int) (b : Int), h ≤ 61 ∧ i = .int .i64 h ∧ be = .int .i64 b ∧ Own wr' g0 3 (.slice (some ⟨g0, 0, none⟩) 61 61) ls ∧ Hid (RowT xs ws k h ls) ∧ Hid (b = pm (PL xs ws k) (h - 1)) ∧ Hid (Below w1.heap.size w1 wr')) (fun _ i _ => 61 - (intOf i).toNat)
      case atStart => exact ⟨0, ls, z, by omega, rfl, rfl, hown, hrow, HC0.out, hbel⟩
      case round =>
        rename World => wq
        clear hown hrow hbel cx c0
        obtain ⟨h, ls, b, hh, rfl, rfl, hown, hrow, hb, hbel⟩ := hrel
        by_cases hhl : h < 61
        · have ch := hown.cell (j := h) (by have := hrow.out.1; omega)
          have fh := hown.frozen h
          have HCH : Hid (ls.getD h 0 = PL xs ws k h) := by have := hrow.out.2 h hhl; rw [if_neg (by omega)] at this; exact this
          obtain ⟨g2, off2, rfl, hg2, hcl2⟩ := hy1.at (by have := HL.out; omega)
          have cw := (hbel.out.cell (p := ⟨g2, off2 + k, none⟩) hg2).trans (hcl2 k (by have := HL.out; omega))
          have hwb := HAW.out k hlt
          have B1 := HPB.out k hk h (by omega)
          have B2 := pm_bd (f := PL xs ws k) (lo := 0) (hi := 300 * (k : Int)) (h := h - 1) fun j hj => HPB.out k hk j (by omega)
          have HPM : Hid (pm (PL xs ws k) h = min b (PL xs ws k h)) := by
            show _ = _
            rw [hb.out]
            cases h with
            | zero => show _ = min (PL xs ws k 0) (PL xs ws k 0); rw [show pm (PL xs ws k) 0 = PL xs ws k 0 from rfl]; omega
            | succ h => rfl
          have HNX : Hid (PL xs ws (k + 1) h = pm (PL xs ws k) h + wN ws k * ab ((hN xs k : Int) - h)) := rfl
          have HST := hide (hrow.out.step hhl)
          have ikw : (k : Int) < (ws.length : Int) := by have := HL.out; omega
          have ih : (h : Int) < 61 := by omega
          have e0 : (hN xs k : Int) - h = x - ((h : Int) - 30) := by have := HXK.out; omega
          rw [e0] at HNX
          rw [← hb.out] at B2
          have HW : Hid (wN ws k = atL ws k) := rfl
          obtain ⟨y, hye⟩ : ∃ y, atL ws k = y := ⟨_, rfl⟩
          obtain ⟨l, hle⟩ : ∃ l, PL xs ws k h = l := ⟨_, rfl⟩
          obtain ⟨d, hde⟩ : ∃ d, x - ((h : Int) - 30) = d := ⟨_, rfl⟩
          rw [hye] at cw hwb HW
          rw [HW.out, hde] at HNX
          rw [hle] at B1 HPM HCH
          rw [HCH.out] at ch
          have hdb : -60 ≤ d ∧ d ≤ 60 := by omega
          have e1 : IntKind.i64.wrap ((h : Int) - 30) = (h : Int) - 30 := IntWalk.i64_in _ (by omega)
          have e2 : IntKind.i64.wrap (x - ((h : Int) - 30)) = d := by rw [hde]; exact IntWalk.i64_in _ (by omega)
          have e3 : IntKind.i64.wrap (-d) = -d := IntWalk.i64_in _ (by omega)
          have hym : 0 ≤ y * ab d ∧ y * ab d ≤ 300 := by
            have hd : 0 ≤ ab d ∧ ab d ≤ 60 := by unfold ab; omega
            have m1 := Int.mul_nonneg (a := y) (by omega) hd.1
            have m2 : y * ab d ≤ 5 * 60 := Int.mul_le_mul (by omega) hd.2 hd.1 (by omega)
            omega
          have HLS := hide hown.lt.1
          clear hye hle hcl2 e0 hde
          by_cases hbl : l < b
          · have HB' : Hid (pm (PL xs ws k) h = l) := by show _ = _; rw [HPM.out]; omega
            by_cases hdd : d < -d
            · have hab : ab d = -d := by unfold ab; omega
              rw [hab] at hym HNX
              have e4 : IntKind.i64.wrap (y * (-d)) = y * (-d) := IntWalk.i64_in _ (by omega)
              have e5 : IntKind.i64.wrap (l + y * (-d)) = l + y * (-d) := IntWalk.i64_in _ (by omega)
              have HV : Hid (PL xs ws (k + 1) h = l + y * (-d)) := by show _ = _; rw [HNX.out, HB'.out]
              rw [HV.out] at HST
              have hset := hown.set h (l + y * (-d))
              have hbs : Hid (Below w1.heap.size w1 (wq.setCell ⟨g0, h, none⟩ (.int .i64 (l + y * (-d))))) := hbel.out.setCell (by rw [HG0.out]; exact Nat.le_refl _) _
              clear hab
              go_wp2_with fail
              clear e1 e2 e3 e4 e5
              go_roundw
              case rel => exact ⟨h + 1, _, l, by omega, by go_num, rfl, hset, HST.out, by rw [Nat.add_sub_cancel]; exact HB'.out.symm, hbs.out⟩
              case measure => simp [intOf]; omega
            · have hab : ab d = d := by unfold ab; omega
              rw [hab] at hym HNX
              have e4 : IntKind.i64.wrap (y * (d)) = y * (d) := IntWalk.i64_in _ (by omega)
              have e5 : IntKind.i64.wrap (l + y * (d)) = l + y * (d) := IntWalk.i64_in _ (by omega)
              have HV : Hid (PL xs ws (k + 1) h = l + y * (d)) := by show _ = _; rw [HNX.out, HB'.out]
              rw [HV.out] at HST
              have hset := hown.set h (l + y * (d))
              have hbs : Hid (Below w1.heap.size w1 (wq.setCell ⟨g0, h, none⟩ (.int .i64 (l + y * (d))))) := hbel.out.setCell (by rw [HG0.out]; exact Nat.le_refl _) _
              clear hab
              go_wp2_with fail
              clear e1 e2 e3 e4 e5
              go_roundw
              case rel => exact ⟨h + 1, _, l, by omega, by go_num, rfl, hset, HST.out, by rw [Nat.add_sub_cancel]; exact HB'.out.symm, hbs.out⟩
              case measure => simp [intOf]; omega
          · have HB' : Hid (pm (PL xs ws k) h = b) := by show _ = _; rw [HPM.out]; omega
            by_cases hdd : d < -d
            · have hab : ab d = -d := by unfold ab; omega
              rw [hab] at hym HNX
              have e4 : IntKind.i64.wrap (y * (-d)) = y * (-d) := IntWalk.i64_in _ (by omega)
              have e5 : IntKind.i64.wrap (b + y * (-d)) = b + y * (-d) := IntWalk.i64_in _ (by omega)
              have HV : Hid (PL xs ws (k + 1) h = b + y * (-d)) := by show _ = _; rw [HNX.out, HB'.out]
              rw [HV.out] at HST
              have hset := hown.set h (b + y * (-d))
              have hbs : Hid (Below w1.heap.size w1 (wq.setCell ⟨g0, h, none⟩ (.int .i64 (b + y * (-d))))) := hbel.out.setCell (by rw [HG0.out]; exact Nat.le_refl _) _
              clear hab
              go_wp2_with fail
              clear e1 e2 e3 e4 e5
              go_roundw
              case rel => exact ⟨h + 1, _, b, by omega, by go_num, rfl, hset, HST.out, by rw [Nat.add_sub_cancel]; exact HB'.out.symm, hbs.out⟩
              case measure => simp [intOf]; omega
            · have hab : ab d = d := by unfold ab; omega
              rw [hab] at hym HNX
              have e4 : IntKind.i64.wrap (y * (d)) = y * (d) := IntWalk.i64_in _ (by omega)
              have e5 : IntKind.i64.wrap (b + y * (d)) = b + y * (d) := IntWalk.i64_in _ (by omega)
              have HV : Hid (PL xs ws (k + 1) h = b + y * (d)) := by show _ = _; rw [HNX.out, HB'.out]
              rw [HV.out] at HST
              have hset := hown.set h (b + y * (d))
              have hbs : Hid (Below w1.heap.size w1 (wq.setCell ⟨g0, h, none⟩ (.int .i64 (b + y * (d))))) := hbel.out.setCell (by rw [HG0.out]; exact Nat.le_refl _) _
              clear hab
              go_wp2_with fail
              clear e1 e2 e3 e4 e5
              go_roundw
              case rel => exact ⟨h + 1, _, b, by omega, by go_num, rfl, hset, HST.out, by rw [Nat.add_sub_cancel]; exact HB'.out.symm, hbs.out⟩
              case measure => simp [intOf]; omega
        · obtain rfl : h = 61 := by omega
          go_wp2_with fail
          go_roundw
          case rel => exact ⟨k + 1, ls, by omega, by go_num, hown, hrow.out.next, hbel⟩
          case measure => simp [intOf]; omega
    · obtain rfl : k = xs.length := by omega
      have hrd := hown.sl.rd
      have KM := hide (minS_c (.slice (some ⟨g0, 0, none⟩) 61 61) ls (PL xs ws xs.length) wr hrd hrow.out.1 fun j hj => by have := hrow.out.2 j hj; rw [if_neg (by omega)] at this; exact this)
      go_wp2_with fail
      refine KM.out.mono ?_
      rintro e w9 ⟨rfl, rfl⟩
      go_wp2_with fail
      go_ret
      exact ⟨rfl, hb1.trans (hbel.out.mono hb1.size)⟩
end Go.Proofs.Ytahogdcmnpidiaa
