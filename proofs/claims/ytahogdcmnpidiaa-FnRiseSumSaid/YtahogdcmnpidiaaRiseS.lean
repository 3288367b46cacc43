/-
  The least sum of distances of a rising row, in the reference: levels of the sorted numbers.
-/
import Derived.Test.YtahogdcmnpidiaaRiseI
import Derived.Test.YtahogdcmnpidiaaSortL
import Derived.StillTail
namespace Go.Proofs.Ytahogdcmnpidiaa
open Go.RowKit

def SX (xs ws ys : List Int) : Nat → Nat → Int := SI (fun i => (hN xs i : Int)) (wN ws) (hN ys)
theorem mem_at {xs : List Int} {x : Int} (h : x ∈ xs) : ∃ i, i < xs.length ∧ atL xs i = x := by
  obtain ⟨i, hi, he⟩ := List.getElem_of_mem h
  exact ⟨i, hi, by rw [← he]; simp [atL, List.getD, hi]⟩
theorem lev_of {xs ys : List Int} (hs : IsSorted xs ys) (h0 : 0 < xs.length) : Lev (fun h => ∃ i, i < xs.length ∧ hN xs i = h) xs.length (hN ys) := by
  obtain ⟨e1, e2, e3⟩ := hs
  refine ⟨h0, fun i j hij hj => ?_, fun k hk => ?_, fun h hh => ?_⟩
  · have := e2 i j hij (by omega)
    unfold hN
    omega
  · obtain ⟨i, hi, he⟩ := mem_at ((e3 _).1 (at_mem (ys := ys) (j := k) (by omega)))
    exact ⟨i, hi, by unfold hN; rw [he]⟩
  · obtain ⟨i, hi, he⟩ := hh
    obtain ⟨k, hk, hke⟩ := mem_at ((e3 _).2 (at_mem (ys := xs) (j := i) hi))
    exact ⟨k, by omega, by rw [← he]; unfold hN; rw [hke]⟩
theorem sorted_allB {xs ys : List Int} {a b : Int} (hx : allB a b xs = true) (hs : IsSorted xs ys) : allB a b ys = true := allB_iff.2 fun y hy => (allB_iff.1 hx) y ((hs.2.2 y).1 hy)
section
variable {xs ws ys : List Int} (hx : allB (-30) 30 xs = true) (hw : allB 1 5 ws = true) (hl : xs.length = ws.length) (hs : IsSorted xs ys) (h0 : 0 < xs.length)
include hx hw hl hs h0
omit hx in
theorem SX_PL {i k : Nat} (hi : i ≤ xs.length) (hk : k < xs.length) : SX xs ws ys i k = PL xs ws i (hN ys k) :=
  SI_eq (lev_of hs h0) (fun i hi => ⟨i, hi, rfl⟩) (fun i hi => by have := allB_at hw (j := i) (by omega); unfold wN; omega) i hi k hk
theorem SX_bd {i k : Nat} (hi : i ≤ xs.length) (hk : k < xs.length) : 0 ≤ SX xs ws ys i k ∧ SX xs ws ys i k ≤ 300 * (i : Int) := by
  rw [SX_PL hw hl hs h0 hi hk]
  refine PL_bd hx hw hl i hi _ ?_
  have := allB_at (sorted_allB hx hs) (j := k) (by rw [hs.1]; exact hk)
  unfold hN
  omega
theorem SX_fin : pm (SX xs ws ys xs.length) (xs.length - 1) = pm (PL xs ws xs.length) 60 := by
  refine SI_PI (lev_of hs h0) (fun i hi => ⟨i, hi, rfl⟩) (fun i hi => by have := allB_at hw (j := i) (by omega); unfold wN; omega) ?_
  have := allB_at (sorted_allB hx hs) (j := xs.length - 1) (by rw [hs.1]; omega)
  unfold hN
  omega
end
/-- Row i, its first h turned to the next one. -/
def RowG (f : Nat → Nat → Int) (n i h : Nat) (ls : List Int) : Prop := ls.length = n ∧ ∀ k, k < n → ls.getD k 0 = if k < h then f (i + 1) k else f i k
theorem RowG.step {f : Nat → Nat → Int} {n i h : Nat} {ls : List Int} (hr : RowG f n i h ls) (hh : h < n) : RowG f n i (h + 1) (ls.set h (f (i + 1) h)) := by
  refine ⟨by simpa using hr.1, fun k hk => ?_⟩
  by_cases e : k = h
  · subst e; simp [List.getD, hr.1, hk]
  · have := hr.2 k hk
    simp only [List.getD] at this ⊢
    rw [List.getElem?_set_ne (Ne.symm e), this]
    by_cases h1 : k < h
    · rw [if_pos h1, if_pos (by omega)]
    · rw [if_neg h1, if_neg (by omega)]
theorem RowG.next {f : Nat → Nat → Int} {n i : Nat} {ls : List Int} (hr : RowG f n i n ls) : RowG f n (i + 1) 0 ls := ⟨hr.1, fun k hk => by rw [hr.2 k hk, if_pos hk]; simp⟩
theorem RowG.start {f : Nat → Nat → Int} {n : Nat} (hf : ∀ k, f 0 k = 0) : RowG f n 0 0 (List.replicate n 0) := ⟨List.length_replicate, fun k _ => by rw [if_neg (by omega), hf, rep_get]⟩

set_option maxHeartbeats 8000000 in
theorem riseS_c (u v : Value) (xs ws : List Int) (w : World) (hx : Rd w u xs) (hy : Rd w v ws) (hok : okLoads xs ws = true) :
    Calls Try.prog 79 #[u, v] w fun e w' => e = .returned (.int .i64 (pm (PL xs ws xs.length) 60)) ∧ Below w.heap.size w w' := by
  obtain ⟨l1, l8, hl, hxs, hws⟩ := okLoads_all hok
  have HAX := hide fun k (hk : k < xs.length) => allB_at hxs hk
  have HAW := hide fun k (hk : k < xs.length) => allB_at hws (j := k) (by omega)
  have KS := hide fun w (h : Rd w u xs) => sorted_c u xs w h (by omega)
  have HBD := hide fun ys (hs : IsSorted xs ys) => fun i k (hi : i ≤ xs.length) (hk : k < xs.length) => SX_bd hxs hws hl hs (by omega) hi hk
  have HFIN := hide fun ys (hs : IsSorted xs ys) => SX_fin hxs hws hl hs (by omega)
  have HSA := hide fun ys (hs : IsSorted xs ys) => sorted_allB hxs hs
  have HL := hide hl
  obtain ⟨A, c, rfl, hc, hm, _⟩ := id hx
  obtain ⟨A2, c2, rfl, hc2, hm2, _⟩ := id hy
  clear hl hok hxs hws
  go_enter Try.func79, Try.ntmps79
  go_wp2_with fail
  refine (KS.out _ hx).mono ?_
  rintro e w1 ⟨u1, ys, rfl, hs, hownL, hb1⟩
  have hx1 := hx.below hb1
  have hy1 := hy.below hb1
  have hs1 := hb1.size
  have hyr := hownL.sl.rd
  obtain ⟨AL, cL, rfl, hcL, hmL, _⟩ := id hyr
  have hyl : ys.length = xs.length := hs.1
  rw [hyl] at hcL hyr hownL ⊢
  have HBX := hide (HBD.out ys hs)
  have HFX := hide (HFIN.out ys hs)
  have HYB := hide (fun k (hk : k < xs.length) => allB_at (HSA.out ys hs) (j := k) (by omega))
  have HYL := hide hyl
  clear hs hyl HBD HFIN HSA hownL
  obtain ⟨n, hn⟩ : ∃ n, xs.length = n := ⟨_, rfl⟩
  have HN := hide hn
  rw [hn] at hyr hc hcL HBX HFX HYB HYL HL HAX HAW l1 l8 ⊢
  go_wp2_with (at_make; refine wpList_make_ints _ rfl (.tmp 15) (.tmp 15) rfl ints n rfl rfl (by omega) ?_; intro w2 hown2 hbel2 hlt2)
  obtain ⟨g0, hg0⟩ : ∃ g, w1.heap.size = g := ⟨_, rfl⟩
  rw [hg0] at hown2 hs1
  rw [hg0]
  have HG0 := hide hg0
  obtain ⟨f, hf⟩ : ∃ f, SX xs ws ys = f := ⟨_, rfl⟩
  have HF := hide hf
  rw [hf] at HBX HFX
  have hr0 := hide (RowG.start (f := f) (n := n) fun k => by rw [← hf]; rfl)
  clear hg0 hf hn
  go_loopw [7] (fun i wr => ∃ (k : Nat) (ls : List Int), k ≤ n ∧ i = .int .i64 k ∧ Own wr g0 3 (.slice (some ⟨g0, 0, none⟩) n n) ls ∧ Hid (RowG f n k 0 ls) ∧ Hid (Below w1.heap.size w1 wr)) (fun i _ => n - (intOf i).toNat)
  case atStart => exact ⟨0, _, by omega, rfl, hown2, hr0, hbel2⟩
  case round =>
    clear hown2 hr0 hbel2 hlt2
    obtain ⟨k, ls, hk, rfl, hown, hrow, hbel⟩ := hrel
    by_cases hlt : k < n
    · have ik : (k : Int) < (n : Int) := by omega
      go_wp2_with fail
      go_loopw [8, 9] (fun be i wr' => ∃ (h : Nat) (ls : List Int) (b : Int), h ≤ n ∧ i = .int .i64 h ∧ be = .int .i64 b ∧ Own wr' g0 3 (.slice (some ⟨g0, 0, none⟩) n n) ls ∧ Hid (RowG f n k h ls) ∧ Hid (b = if h = 0 then -1 else pm (f k) (h - 1)) ∧ Hid (Below w1.heap.size w1 wr')) (fun _ i _ => n - (intOf i).toNat)
      case atStart => exact ⟨0, ls, -1, by omega, rfl, rfl, hown, hrow, rfl, hbel⟩
      case round =>
        rename World => wq
        clear hown hrow hbel
        obtain ⟨h, ls, b, hh, rfl, rfl, hown, hrow, hb, hbel⟩ := hrel
        by_cases hhl : h < n
        · obtain ⟨g, off, rfl, hg, hcl⟩ := hx1.at (by rw [HN.out]; omega)
          have cx := (hbel.out.cell (p := ⟨g, off + k, none⟩) hg).trans (hcl k (by rw [HN.out]; omega))
          obtain ⟨g2, off2, rfl, hg2, hcl2⟩ := hy1.at (by have := HL.out; omega)
          have cw := (hbel.out.cell (p := ⟨g2, off2 + k, none⟩) hg2).trans (hcl2 k (by have := HL.out; omega))
          obtain ⟨g3, off3, rfl, hg3, hcl3⟩ := hyr.at (by have := HYL.out; omega)
          have cy := (hbel.out.cell (p := ⟨g3, off3 + h, none⟩) hg3).trans (hcl3 h (by have := HYL.out; omega))
          have ch := hown.cell (j := h) (by have := hrow.out.1; omega)
          have fh := hown.frozen h
          have HCH : Hid (ls.getD h 0 = f k h) := by have := hrow.out.2 h hhl; rw [if_neg (by omega)] at this; exact this
          have hwb := HAW.out k hlt
          have hxb := HAX.out k hlt
          have hyb := HYB.out h hhl
          have B1 := HBX.out k h hk hhl
          have B2 := pm_bd (f := f k) (lo := 0) (hi := 300 * (k : Int)) (h := h - 1) fun j hj => HBX.out k j hk (by omega)
          have HXK : Hid ((hN xs k : Int) - (hN ys h : Int) = atL xs k - atL ys h) := by show _ = _; unfold hN; omega
          have HNX : Hid (f (k + 1) h = pm (f k) h + wN ws k * ab ((hN xs k : Int) - (hN ys h : Int))) := by show _ = _; rw [← HF.out]; rfl
          have HST := hide (hrow.out.step hhl)
          have ikw : (k : Int) < (ws.length : Int) := by have := HL.out; omega
          have ih : (h : Int) < (n : Int) := by omega
          have HW : Hid (wN ws k = atL ws k) := rfl
          obtain ⟨x, hxe⟩ : ∃ x, atL xs k = x := ⟨_, rfl⟩
          obtain ⟨y, hye⟩ : ∃ y, atL ws k = y := ⟨_, rfl⟩
          obtain ⟨z, hze⟩ : ∃ z, atL ys h = z := ⟨_, rfl⟩
          obtain ⟨l, hle⟩ : ∃ l, f k h = l := ⟨_, rfl⟩
          obtain ⟨d, hde⟩ : ∃ d, x - z = d := ⟨_, rfl⟩
          rw [hxe] at cx hxb HXK
          rw [hye] at cw hwb HW
          rw [hze] at cy hyb HXK
          rw [hde] at HXK
          rw [HW.out, HXK.out] at HNX
          rw [hle] at B1 HCH
          have HPM : Hid (pm (f k) h = if h = 0 then l else min (pm (f k) (h - 1)) l) := by
            show _ = _
            cases h with
            | zero => exact hle
            | succ h => rw [if_neg (by omega), ← hle]; rfl
          rw [HCH.out] at ch
          have hdb : -60 ≤ d ∧ d ≤ 60 := by omega
          have e1 : IntKind.i64.wrap (x - z) = d := by rw [hde]; exact IntWalk.i64_in _ (by omega)
          have e2 : IntKind.i64.wrap (z - x) = -d := by rw [show z - x = -d by omega]; exact IntWalk.i64_in _ (by omega)
          have hym : 0 ≤ y * ab d ∧ y * ab d ≤ 300 := by
            have hd : 0 ≤ ab d ∧ ab d ≤ 60 := by unfold ab; omega
            have m1 := Int.mul_nonneg (a := y) (by omega) hd.1
            have m2 : y * ab d ≤ 5 * 60 := Int.mul_le_mul (by omega) hd.2 hd.1 (by omega)
            omega
          have HLS := hide hown.lt.1
          clear hxe hye hze hle hcl hcl2 hcl3
          have HDE := hide hde
          clear hde
          have hcase : (b < 0 ∧ h = 0) ∨ (0 ≤ b ∧ h ≠ 0 ∧ b = pm (f k) (h - 1)) := by
            have := hb.out
            by_cases h0 : h = 0
            · rw [if_pos h0] at this; exact .inl ⟨by omega, h0⟩
            · rw [if_neg h0] at this; exact .inr ⟨by omega, h0, this⟩
          by_cases hb0 : b < 0
          · have HB' : Hid (pm (f k) h = l) := by show _ = _; rw [HPM.out, if_pos (by omega)]
            clear hcase hb B2
            by_cases hdd : d < -d
            · have hab : ab d = -d := by unfold ab; omega
              rw [hab] at hym HNX
              have e4 : IntKind.i64.wrap (y * (-d)) = y * (-d) := IntWalk.i64_in _ (by omega)
              have e5 : IntKind.i64.wrap (l + y * (-d)) = l + y * (-d) := IntWalk.i64_in _ (by omega)
              have HV : Hid (f (k + 1) h = l + y * (-d)) := by show _ = _; rw [HNX.out, HB'.out]
              rw [HV.out] at HST
              clear hab
              go_wp2_with fail
              refine wp_region_quiet_tail 28 (by kernel_rfl) (by kernel_rfl) ?_
              simp only [List.take_succ_cons, List.take_zero, List.drop_succ_cons, List.drop_zero]
              repeat (go_big_quiet_step ((fail)))
              refine wpQuiet_nil ?_
              intro _ hw'
              obtain ⟨nq, rfl⟩ := hw'
              have hset := (hown.drewN nq).set h (l + y * (-d))
              have hbs : Hid (Below w1.heap.size w1 ((wq.drewN nq).setCell ⟨g0, h, none⟩ (.int .i64 (l + y * (-d))))) := (below_drewN hbel.out nq).setCell (by rw [HG0.out]; exact Nat.le_refl _) _
              have fh' : (wq.drewN nq).frozen? ⟨g0, h, none⟩ = false := fh
              have ch' : (wq.drewN nq).cell? ⟨g0, h, none⟩ = some (.int .i64 l) := ch
              clear fh ch
              go_wp2_with fail
              clear e1 e2 e4 e5
              go_roundw
              case rel => exact ⟨h + 1, _, l, by omega, by go_num, rfl, hset, HST.out, by rw [if_neg (by omega), Nat.add_sub_cancel]; exact HB'.out.symm, hbs.out⟩
              case measure => simp [intOf]; omega
            · have hab : ab d = d := by unfold ab; omega
              rw [hab] at hym HNX
              have e4 : IntKind.i64.wrap (y * (d)) = y * (d) := IntWalk.i64_in _ (by omega)
              have e5 : IntKind.i64.wrap (l + y * (d)) = l + y * (d) := IntWalk.i64_in _ (by omega)
              have HV : Hid (f (k + 1) h = l + y * (d)) := by show _ = _; rw [HNX.out, HB'.out]
              rw [HV.out] at HST
              clear hab
              go_wp2_with fail
              refine wp_region_quiet_tail 28 (by kernel_rfl) (by kernel_rfl) ?_
              simp only [List.take_succ_cons, List.take_zero, List.drop_succ_cons, List.drop_zero]
              repeat (go_big_quiet_step ((fail)))
              refine wpQuiet_nil ?_
              intro _ hw'
              obtain ⟨nq, rfl⟩ := hw'
              have hset := (hown.drewN nq).set h (l + y * (d))
              have hbs : Hid (Below w1.heap.size w1 ((wq.drewN nq).setCell ⟨g0, h, none⟩ (.int .i64 (l + y * (d))))) := (below_drewN hbel.out nq).setCell (by rw [HG0.out]; exact Nat.le_refl _) _
              have fh' : (wq.drewN nq).frozen? ⟨g0, h, none⟩ = false := fh
              have ch' : (wq.drewN nq).cell? ⟨g0, h, none⟩ = some (.int .i64 l) := ch
              clear fh ch
              go_wp2_with fail
              clear e1 e2 e4 e5
              go_roundw
              case rel => exact ⟨h + 1, _, l, by omega, by go_num, rfl, hset, HST.out, by rw [if_neg (by omega), Nat.add_sub_cancel]; exact HB'.out.symm, hbs.out⟩
              case measure => simp [intOf]; omega
          · have hbe : b = pm (f k) (h - 1) := by omega
            have hnz : h ≠ 0 := by omega
            rw [← hbe] at B2
            by_cases hbl : l < b
            · have HB' : Hid (pm (f k) h = l) := by show _ = _; rw [HPM.out, if_neg hnz, ← hbe]; omega
              clear hcase hb hbe hnz
              by_cases hdd : d < -d
              · have hab : ab d = -d := by unfold ab; omega
                rw [hab] at hym HNX
                have e4 : IntKind.i64.wrap (y * (-d)) = y * (-d) := IntWalk.i64_in _ (by omega)
                have e5 : IntKind.i64.wrap (l + y * (-d)) = l + y * (-d) := IntWalk.i64_in _ (by omega)
                have HV : Hid (f (k + 1) h = l + y * (-d)) := by show _ = _; rw [HNX.out, HB'.out]
                rw [HV.out] at HST
                clear hab
                go_wp2_with fail
                refine wp_region_quiet_tail 28 (by kernel_rfl) (by kernel_rfl) ?_
                simp only [List.take_succ_cons, List.take_zero, List.drop_succ_cons, List.drop_zero]
                repeat (go_big_quiet_step ((fail)))
                refine wpQuiet_nil ?_
                intro _ hw'
                obtain ⟨nq, rfl⟩ := hw'
                have hset := (hown.drewN nq).set h (l + y * (-d))
                have hbs : Hid (Below w1.heap.size w1 ((wq.drewN nq).setCell ⟨g0, h, none⟩ (.int .i64 (l + y * (-d))))) := (below_drewN hbel.out nq).setCell (by rw [HG0.out]; exact Nat.le_refl _) _
                have fh' : (wq.drewN nq).frozen? ⟨g0, h, none⟩ = false := fh
                have ch' : (wq.drewN nq).cell? ⟨g0, h, none⟩ = some (.int .i64 l) := ch
                clear fh ch
                go_wp2_with fail
                clear e1 e2 e4 e5
                go_roundw
                case rel => exact ⟨h + 1, _, l, by omega, by go_num, rfl, hset, HST.out, by rw [if_neg (by omega), Nat.add_sub_cancel]; exact HB'.out.symm, hbs.out⟩
                case measure => simp [intOf]; omega
              · have hab : ab d = d := by unfold ab; omega
                rw [hab] at hym HNX
                have e4 : IntKind.i64.wrap (y * (d)) = y * (d) := IntWalk.i64_in _ (by omega)
                have e5 : IntKind.i64.wrap (l + y * (d)) = l + y * (d) := IntWalk.i64_in _ (by omega)
                have HV : Hid (f (k + 1) h = l + y * (d)) := by show _ = _; rw [HNX.out, HB'.out]
                rw [HV.out] at HST
                clear hab
                go_wp2_with fail
                refine wp_region_quiet_tail 28 (by kernel_rfl) (by kernel_rfl) ?_
                simp only [List.take_succ_cons, List.take_zero, List.drop_succ_cons, List.drop_zero]
                repeat (go_big_quiet_step ((fail)))
                refine wpQuiet_nil ?_
                intro _ hw'
                obtain ⟨nq, rfl⟩ := hw'
                have hset := (hown.drewN nq).set h (l + y * (d))
                have hbs : Hid (Below w1.heap.size w1 ((wq.drewN nq).setCell ⟨g0, h, none⟩ (.int .i64 (l + y * (d))))) := (below_drewN hbel.out nq).setCell (by rw [HG0.out]; exact Nat.le_refl _) _
                have fh' : (wq.drewN nq).frozen? ⟨g0, h, none⟩ = false := fh
                have ch' : (wq.drewN nq).cell? ⟨g0, h, none⟩ = some (.int .i64 l) := ch
                clear fh ch
                go_wp2_with fail
                clear e1 e2 e4 e5
                go_roundw
                case rel => exact ⟨h + 1, _, l, by omega, by go_num, rfl, hset, HST.out, by rw [if_neg (by omega), Nat.add_sub_cancel]; exact HB'.out.symm, hbs.out⟩
                case measure => simp [intOf]; omega
            · have HB' : Hid (pm (f k) h = b) := by show _ = _; rw [HPM.out, if_neg hnz, ← hbe]; omega
              clear hcase hb hbe hnz
              by_cases hdd : d < -d
              · have hab : ab d = -d := by unfold ab; omega
                rw [hab] at hym HNX
                have e4 : IntKind.i64.wrap (y * (-d)) = y * (-d) := IntWalk.i64_in _ (by omega)
                have e5 : IntKind.i64.wrap (b + y * (-d)) = b + y * (-d) := IntWalk.i64_in _ (by omega)
                have HV : Hid (f (k + 1) h = b + y * (-d)) := by show _ = _; rw [HNX.out, HB'.out]
                rw [HV.out] at HST
                clear hab
                go_wp2_with fail
                refine wp_region_quiet_tail 28 (by kernel_rfl) (by kernel_rfl) ?_
                simp only [List.take_succ_cons, List.take_zero, List.drop_succ_cons, List.drop_zero]
                repeat (go_big_quiet_step ((fail)))
                refine wpQuiet_nil ?_
                intro _ hw'
                obtain ⟨nq, rfl⟩ := hw'
                have hset := (hown.drewN nq).set h (b + y * (-d))
                have hbs : Hid (Below w1.heap.size w1 ((wq.drewN nq).setCell ⟨g0, h, none⟩ (.int .i64 (b + y * (-d))))) := (below_drewN hbel.out nq).setCell (by rw [HG0.out]; exact Nat.le_refl _) _
                have fh' : (wq.drewN nq).frozen? ⟨g0, h, none⟩ = false := fh
                have ch' : (wq.drewN nq).cell? ⟨g0, h, none⟩ = some (.int .i64 l) := ch
                clear fh ch
                go_wp2_with fail
                clear e1 e2 e4 e5
                go_roundw
                case rel => exact ⟨h + 1, _, b, by omega, by go_num, rfl, hset, HST.out, by rw [if_neg (by omega), Nat.add_sub_cancel]; exact HB'.out.symm, hbs.out⟩
                case measure => simp [intOf]; omega
              · have hab : ab d = d := by unfold ab; omega
                rw [hab] at hym HNX
                have e4 : IntKind.i64.wrap (y * (d)) = y * (d) := IntWalk.i64_in _ (by omega)
                have e5 : IntKind.i64.wrap (b + y * (d)) = b + y * (d) := IntWalk.i64_in _ (by omega)
                have HV : Hid (f (k + 1) h = b + y * (d)) := by show _ = _; rw [HNX.out, HB'.out]
                rw [HV.out] at HST
                clear hab
                go_wp2_with fail
                refine wp_region_quiet_tail 28 (by kernel_rfl) (by kernel_rfl) ?_
                simp only [List.take_succ_cons, List.take_zero, List.drop_succ_cons, List.drop_zero]
                repeat (go_big_quiet_step ((fail)))
                refine wpQuiet_nil ?_
                intro _ hw'
                obtain ⟨nq, rfl⟩ := hw'
                have hset := (hown.drewN nq).set h (b + y * (d))
                have hbs : Hid (Below w1.heap.size w1 ((wq.drewN nq).setCell ⟨g0, h, none⟩ (.int .i64 (b + y * (d))))) := (below_drewN hbel.out nq).setCell (by rw [HG0.out]; exact Nat.le_refl _) _
                have fh' : (wq.drewN nq).frozen? ⟨g0, h, none⟩ = false := fh
                have ch' : (wq.drewN nq).cell? ⟨g0, h, none⟩ = some (.int .i64 l) := ch
                clear fh ch
                go_wp2_with fail
                clear e1 e2 e4 e5
                go_roundw
                case rel => exact ⟨h + 1, _, b, by omega, by go_num, rfl, hset, HST.out, by rw [if_neg (by omega), Nat.add_sub_cancel]; exact HB'.out.symm, hbs.out⟩
                case measure => simp [intOf]; omega
        · obtain rfl : h = n := by omega
          have HYL2 := HYL
          go_wp2_with fail
          go_roundw
          case rel => exact ⟨k + 1, ls, by omega, by go_num, hown, hrow.out.next, hbel⟩
          case measure => simp [intOf]; omega
    · obtain rfl : k = n := by omega
      have HRL : Hid (∀ j, j < k → wr.cell? ⟨g0, j, none⟩ = some (.int .i64 (f k j))) := fun j hj => by
        have h1 := hown.cell (j := j) (by have := hrow.out.1; omega)
        have h2 := hrow.out.2 j hj
        rw [if_neg (by omega)] at h2
        rwa [h2] at h1
      have c0 := HRL.out 0 (by omega)
      have i0k : (0 : Int) < (k : Int) := by omega
      obtain ⟨m0, hm0⟩ : ∃ m, f k 0 = m := ⟨_, rfl⟩
      rw [hm0] at c0
      have HM0 := hide hm0
      clear hm0
      go_wp2_with fail
      go_loop [10, 11] (fun m i => ∃ h : Nat, h + 1 ≤ k ∧ i = .int .i64 ((h : Int) + 1) ∧ m = .int .i64 (pm (f k) h)) (fun _ i => k - (intOf i).toNat)
      case atStart => exact ⟨0, by omega, rfl, by rw [← HM0.out]; rfl⟩
      case round =>
        obtain ⟨h, hh, rfl, rfl⟩ := hrel
        by_cases hlt : h + 1 < k
        · have hck := HRL.out (h + 1) hlt
          have HNN : Hid (pm (f k) (h + 1) = min (pm (f k) h) (f k (h + 1))) := rfl
          have ih : (h : Int) + 1 < (k : Int) := by omega
          have ih0 : (0 : Int) ≤ (h : Int) + 1 := by omega
          have iht : ((h : Int) + 1).toNat = h + 1 := by omega
          obtain ⟨m, hm'⟩ : ∃ m, pm (f k) h = m := ⟨_, rfl⟩
          obtain ⟨x, hx'⟩ : ∃ m, f k (h + 1) = m := ⟨_, rfl⟩
          rw [hx'] at hck HNN
          rw [hm'] at HNN ⊢
          clear hm' hx'
          go_wp2_with fail
          all_goals
            go_round
            case rel => exact ⟨h + 1, by omega, by go_num, by rw [HNN.out]; first | rfl | (congr 1; omega)⟩
            case measure => simp [intOf]; omega
        · have hkh : k - 1 = h := by omega
          have ih : ¬ ((h : Int) + 1 < (k : Int)) := by omega
          rw [hkh] at HFX
          clear hkh
          go_wp2_with fail
          go_ret
          exact ⟨by rw [HN.out, ← HFX.out]; rfl, hb1.trans (hbel.out.mono hb1.size)⟩
end Go.Proofs.Ytahogdcmnpidiaa
