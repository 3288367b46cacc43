/-
  The least tree in the program; the statement FnExactTreeLength.
-/
import Derived.Test.YtncglgkpgbhejaaTreeS
import Derived.Test.YtncglgkpgbhejaaFrame
namespace Go.Proofs.Ytncglgkpgbhejaa
open Go.RowKit

theorem Own.form {w : World} {B e : Nat} {v : Value} {xs : List Int} (h : Own w B e v xs) (h0 : 0 < xs.length) : ∃ g c, v = .slice (some ⟨g, 0, none⟩) xs.length c ∧ B ≤ g ∧ g < w.heap.size ∧ xs.length ≤ c ∧ c ≤ 9223372036854775807 := by
  obtain ⟨A, c, rfl, h2, h3, h4⟩ := h.sl
  obtain ⟨hl, h5 | ⟨g', cap, cur, hv, hB, hg, hn, hc, hs, ht⟩⟩ := id h
  · omega
  · simp only [Value.slice.injEq] at hv
    obtain ⟨rfl, _, rfl⟩ := hv
    exact ⟨g', c, rfl, hB, (Array.getElem?_eq_some_iff.1 hg).1, h2, h3⟩
theorem OwnV.setOther {w : World} {B e : Nat} {v : Value} {vs : List Value} (h : OwnV w B e v vs) {p : Addr} (hp : v.ownBlock ≠ some p.block) (u : Value) : OwnV (w.setCell p u) B e v vs :=
  World.ownsRow.kept h (row := some p.block) ⟨rfl, rfl, rfl, by simp [World.setCell], fun k _ hk => Below.heap_setCell _ _ _ _ (fun e => hk (by rw [e]))⟩ (.inr hp)

set_option maxHeartbeats 1000000 in
theorem Clone_c (v : Value) (xs : List Int) (w : World) (h : Rd w v xs) (h0 : 0 < xs.length) (h1 : xs.length ≤ 1000000) :
    Calls Try.prog 34 #[v] w fun e w' => ∃ v', e = .returned v' ∧ Own w' w.heap.size 3 v' xs ∧ Below w.heap.size w w' := by
  obtain ⟨A, c, rfl, hc, hm, hcell⟩ := id h
  obtain ⟨g, off, rfl, hg, _⟩ := hcell h0
  clear hcell
  have he : ∀ w : World, (binOp .eql 28 (.slice (some ⟨g, off, none⟩) xs.length c) (.slice none 0 0)).run Try.prog w = .ok (.bool false) w := fun _ => rfl
  go_enter Try.func34, Try.ntmps34
  go_wp2_with (at_builtin; refine wpList_append_rd _ rfl (.tmp 5) (.tmp 6) rfl ints w.heap.size _ _ [] xs rfl rfl (lit_own [] rfl rfl rfl (by simp) (Nat.le_refl _)) (h.alloc _) (by simp) (by simp) (by omega) h0 ?_; intro v7 w7 hown7 hb7 hg7 hat7 hk7 hlt7)
  go_ret
  exact ⟨_, rfl, hown7, (below_alloc' (Below.refl _ _) _).trans hb7⟩

theorem atL_rw (xss : List (List Int)) (i k : Nat) : atL (rw_ xss i) k = gp xss i k := rfl

set_option maxHeartbeats 4000000 in
theorem TreeI_c (v : Value) (xss : List (List Int)) (w : World) (h : RdSS w v xss) (hok : okGaps xss = true) :
    Calls Try.prog 12 #[v] w fun e w' => e = .returned (.int .i64 (WB (gp xss) xss.length (oneS 0))) ∧ Below w.heap.size w w' := by
  obtain ⟨A, c, rfl, hc, hm, _⟩ := id h
  obtain ⟨⟨hn1, hn6⟩, hrl, hdg, hsym, hbd⟩ := okGaps_all hok
  have K := hide fun w h => ValidGapsI_c (.slice A xss.length c) xss true w h hok
  have HSYM := hide hsym
  have HBD := hide fun (i k : Nat) (hi : i < xss.length) (hk : k < xss.length) => okGaps_bd hok hi hk
  have HM := hide fun (w : World) (h : RdSS w (.slice A xss.length c) xss) (i : Nat) (hi : i < xss.length) => h.mt hok hi
  have HRL := hide (hrl 0 (by omega))
  obtain ⟨ga, oa, rfl, hga, Br, dr, hcr, hrdr, hd1, hd2, _⟩ := h.row (show 0 < xss.length by omega)
  have KC := hide fun (w : World) (h : Rd w (.slice Br (rw_ xss 0).length dr) (rw_ xss 0)) => Clone_c (.slice Br (rw_ xss 0).length dr) (rw_ xss 0) w h (by rw [HRL.out]; omega) (by rw [HRL.out]; omega)
  obtain ⟨L, hL⟩ : ∃ L, (rw_ xss 0).length = L := ⟨_, rfl⟩
  have HLL := hide hL
  rw [hL] at hcr hrdr hd1 KC
  clear hok hsym hbd hrl hdg hL
  go_enter Try.func12, Try.ntmps12
  go_wp2_with fail
  refine (K.out _ h).mono ?_
  rintro e w1 ⟨rfl, hb1⟩
  have hcr1 : w1.cell? ⟨ga, oa, none⟩ = some (.slice Br L dr) := (hb1.cell (p := ⟨ga, oa + 0, none⟩) hga).trans hcr
  have hrd1 := hrdr.below hb1
  have i0 : (0 : Int) < (xss.length : Int) := by omega
  go_wp2_with fail
  refine (KC.out _ hrd1).mono ?_
  rintro e w2 ⟨vf, rfl, hof, hb2⟩
  obtain ⟨gf, cf, rfl, hgf1, hgf2, hcf1, hcf2⟩ := hof.form (by have := HLL.out; have := HRL.out; omega)
  rw [HRL.out] at hof ⊢
  have hbw2 := hb1.trans (hb2.mono hb1.size)
  go_wp2_with (at_make; refine wpList_make_rows _ rfl (.tmp 17) (.tmp 17) rfl bools xss.length rfl rfl (by omega) (by omega) (toList_madeCells_one _ _) ?_; intro w3 hown3 hbel3 hlt3; have hck := hown3.cell (j := 0) (u := Value.bool false) (by rw [List.getElem?_replicate, if_pos (by omega)]); have hfk := hown3.frozen 0)
  have hus := hown3.set 0 (.bool true)
  have hvs : BoolsV xss.length (oneS 0) ((List.replicate xss.length (.bool false)).set 0 (.bool true)) := by
    have := (BoolsV.start xss.length).set 0
    rwa [show putS (fun _ => false) 0 = oneS 0 by funext x; simp [putS, oneS]] at this
  have hfar := (hof.below hbel3).setOther (p := ⟨w2.heap.size, 0, none⟩) (by simp [Value.ownBlock]; omega) (.bool true)
  have hfp : FarP (gp xss) xss.length (oneS 0) (rw_ xss 0) := FarP.start HRL.out (by omega) fun i _ => rfl
  have hbw3 : Below w.heap.size w (w3.setCell ⟨w2.heap.size, 0, none⟩ (.bool true)) := (hbw2.trans (hbel3.mono hbw2.size)).setCell hbw2.size _
  have hcn1 : cntB (oneS 0) xss.length = 1 := by
    have := cntB_one (p := oneS 0) (q := fun _ => false) (m := xss.length) 0 (by omega) (by simp [oneS]) rfl (fun b _ hb => by simp [oneS, hb])
    rw [this, cntB_none fun _ _ => rfl]
  have HIN := hide (And.intro hus (And.intro hvs (And.intro hfar (And.intro hfp (And.intro hbw3 hcn1)))))
  have hgfw : w.heap.size ≤ gf := by have := hb1.size; omega
  have hgw2 : w.heap.size ≤ w2.heap.size := hbw2.size
  clear hus hvs hfar hfp hbw3 hcn1 hown3 hbel3 hlt3 hck hfk hof hcr1 hrd1 hcr hrdr KC K hb1 hb2 hbw2
  go_loopw [5, 24] (fun tot i wr => ∃ (r : Nat) (S : Nat → Bool) (us : List Value) (fs : List Int) (T : Int), r + 1 ≤ xss.length ∧ i = .int .i64 r ∧ tot = .int .i64 T ∧ OwnV wr w2.heap.size 4 (.slice (some ⟨w2.heap.size, 0, none⟩) xss.length xss.length) us ∧ Hid (BoolsV xss.length S us) ∧
      Own wr w1.heap.size 3 (.slice (some ⟨gf, 0, none⟩) xss.length cf) fs ∧ Hid (FarP (gp xss) xss.length S fs) ∧ Hid (T + WB (gp xss) xss.length S = WB (gp xss) xss.length (oneS 0) ∧ cntB S xss.length = r + 1) ∧ (0 ≤ T ∧ T ≤ 40 * r) ∧ Below w.heap.size w wr) (fun _ i _ => xss.length - (intOf i).toNat)
  case atStart => exact ⟨0, oneS 0, _, _, 0, by omega, rfl, rfl, HIN.out.1, HIN.out.2.1, HIN.out.2.2.1, HIN.out.2.2.2.1, ⟨by omega, HIN.out.2.2.2.2.2⟩, ⟨by omega, by omega⟩, HIN.out.2.2.2.2.1⟩
  case round =>
    obtain ⟨r, S, us, fs, T, hr, rfl, rfl, hown, hvs, hof, hfp, hT, hTb, hbel⟩ := hrel
    by_cases hrl : r + 1 < xss.length
    · have irl : (r : Int) < (xss.length : Int) - 1 := by omega
      go_wp2_with fail
      go_loopw [6, 28] (fun nx i wr' => ∃ (m : Nat) (q : Int), m ≤ xss.length ∧ i = .int .i64 m ∧ nx = .int .i64 q ∧ Hid (NX fs S m q) ∧ Below wr.heap.size wr wr') (fun _ i _ => xss.length - (intOf i).toNat)
      case atStart => exact ⟨0, -1, by omega, rfl, rfl, NX.start fs S, Below.refl _ _⟩
      case round =>
        rename World => wq
        obtain ⟨m, q, hm, rfl, rfl, hnx, hbq⟩ := hrel
        have hqb := hnx.out.bd
        have hown2 := hown.below hbq
        have hof2 := hof.below hbq
        by_cases hml : m < xss.length
        · have hfl : fs.length = xss.length := hfp.out.1
          have cm := hown2.cell (hvs.out.2 m hml)
          have fm := hof2.cell (j := m) (by omega)
          have im : (m : Int) < (xss.length : Int) := by omega
          have HFL := hide hfl
          clear hfl
          obtain ⟨x, hx⟩ : ∃ x, fs.getD m 0 = x := ⟨_, rfl⟩
          have HX : Hid (atL fs m = x) := hx
          rw [hx] at fm
          obtain ⟨sm, hsm⟩ : ∃ x, S m = x := ⟨_, rfl⟩
          have HSM := hide hsm
          rw [hsm] at cm
          clear hsm hx
          cases sm
          rotate_left
          · have HN : Hid (NX fs S (m + 1) q) := hnx.out.skip HSM.out
            go_wp2_with fail
            go_quiet (fail)
            go_wp2_with fail
            go_roundw
            case rel => exact ⟨m + 1, q, by omega, by go_num, rfl, HN, below_drewN hbq _⟩
            case measure => simp [intOf]; omega
          by_cases hq0 : q < 0
          · have hqd : decide (q < 0) = true := decide_eq_true hq0
            have HN : Hid (NX fs S (m + 1) m) := hnx.out.new HSM.out (.inl hq0)
            go_wp2_with fail
            go_quiet (fail)
            go_wp2_with fail
            go_roundw
            case rel => exact ⟨m + 1, m, by omega, by go_num, rfl, HN, below_drewN hbq _⟩
            case measure => simp [intOf]; omega
          · have hqd : decide (q < 0) = false := decide_eq_false hq0
            obtain ⟨t, rfl⟩ : ∃ t : Nat, q = t := ⟨q.toNat, by omega⟩
            have ft := hof2.cell (j := t) (by have := HFL.out; omega)
            obtain ⟨y, hy⟩ : ∃ x, fs.getD t 0 = x := ⟨_, rfl⟩
            have HY : Hid (atL fs (t : Int).toNat = y) := by show _ = _; rw [Int.toNat_natCast]; exact hy
            rw [hy] at ft
            have it : (t : Int) < (xss.length : Int) := by omega
            clear hy
            by_cases hxy : x < y
            · have hxd : decide (x < y) = true := decide_eq_true hxy
              have HN : Hid (NX fs S (m + 1) m) := hnx.out.new HSM.out (.inr (by rw [HX.out, HY.out]; exact hxy))
              go_wp2_with fail
              go_quiet (fail)
              go_wp2_with fail
              go_roundw
              case rel => exact ⟨m + 1, m, by omega, by go_num, rfl, HN, below_drewN hbq _⟩
              case measure => simp [intOf]; omega
            · have hxd : decide (x < y) = false := decide_eq_false hxy
              have HN : Hid (NX fs S (m + 1) t) := hnx.out.keep hq0 (by rw [HX.out, HY.out]; exact hxy)
              go_wp2_with fail
              go_quiet (fail)
              go_wp2_with fail
              go_roundw
              case rel => exact ⟨m + 1, t, by omega, by go_num, rfl, HN, below_drewN hbq _⟩
              case measure => simp [intOf]; omega
        · obtain rfl : m = xss.length := by omega
          obtain ⟨t, rfl, ht, hSt, hWt, hct, htb1, htb2⟩ := hnx.out.end hfp.out HSYM.out (fun a b ha hb => HBD.out a b ha hb) (by rw [hT.out.2]; omega)
          have HW := hide (And.intro hWt hct)
          have hfl : fs.length = xss.length := hfp.out.1
          have ct := hown2.cell (hvs.out.2 t ht)
          have zt := hown2.frozen t
          have ft := hof2.cell (j := t) (by omega)
          have it : (t : Int) < (xss.length : Int) := by omega
          have HFL := hide hfl
          have hown3 := hown2.set t (.bool true)
          have hof3 := hof2.setOther (p := ⟨w2.heap.size, t, none⟩) (by simp [Value.ownBlock]; omega) (.bool true)
          have hbel3 : Below w.heap.size w (wq.setCell ⟨w2.heap.size, t, none⟩ (.bool true)) := (hbel.trans (hbq.mono hbel.size)).setCell hgw2 _
          have ft3 := hof3.cell (j := t) (by omega)
          obtain ⟨x, hx⟩ : ∃ x, fs.getD t 0 = x := ⟨_, rfl⟩
          have HX : Hid (atL fs t = x) := hx
          have e1 : IntKind.i64.wrap (T + x) = T + x := IntWalk.i64_in _ (by have := HX.out; omega)
          rw [hx] at ft ft3
          have h3 := h.below hbel3
          obtain ⟨g1, o1, e2, hg1, bt, ot, dt, hr1, hr2, hr3, hbt, hcl⟩ := HM.out _ h3 t ht
          cases e2
          clear hx hWt hct hfl ft hnx hown hof hbel hbq hown2 hof2
          go_wp2_with fail
          clear e1 ct zt
          obtain ⟨V, hV⟩ : ∃ V, wq.setCell ⟨w2.heap.size, t, none⟩ (.bool true) = V := ⟨_, rfl⟩
          rw [hV] at hown3 hof3 hbel3 h3 hr1 hg1 hbt hcl ⊢
          clear hV ft3
          go_loopw [64] (fun i wr' => ∃ (m : Nat) (gs : List Int), m ≤ xss.length ∧ i = .int .i64 m ∧ Own wr' w1.heap.size 3 (.slice (some ⟨gf, 0, none⟩) xss.length cf) gs ∧ Hid (FarT (gp xss) xss.length t fs gs m) ∧ OwnV wr' w2.heap.size 4 (.slice (some ⟨w2.heap.size, 0, none⟩) xss.length xss.length) (us.set t (.bool true)) ∧ Below w.heap.size w wr') (fun i _ => xss.length - (intOf i).toNat)
          case atStart => exact ⟨0, fs, by omega, rfl, hof3, FarT.start HFL.out, hown3, hbel3⟩
          case round =>
            rename World => wz
            obtain ⟨m, gs, hm, rfl, hofz, hft, hownz, hbelz⟩ := hrel
            by_cases hml : m < xss.length
            · have HGL := hide hft.out.1
              have hz := h.below hbelz
              obtain ⟨g1, o1, e2, hg1, bt, ot, dt, hr1, hr2, hr3, hbt, hcl⟩ := HM.out _ hz t ht
              cases e2
              have c1 := hcl m hml
              have fm := hofz.cell (j := m) (by have := HGL.out; omega)
              have zm := hofz.frozen m
              have im : (m : Int) < (xss.length : Int) := by omega
              have hst := hft.out.step hml
              have hlt := hofz.lt
              obtain ⟨y, hy⟩ : ∃ y, gp xss t m = y := ⟨_, rfl⟩
              obtain ⟨z, hz⟩ : ∃ z, gs.getD m 0 = z := ⟨_, rfl⟩
              rw [show atL gs m = z from hz, hy] at hst
              have HST := hide hst
              rw [hy] at c1
              rw [hz] at fm
              clear hst hy hz hcl hr2 hr3
              by_cases hyz : y < z
              · have hmin : min z y = y := by omega
                rw [hmin] at HST
                clear hmin
                go_wp2_with fail
                refine wp_region_quiet_tail 14 (by kernel_rfl) (by kernel_rfl) ?_
                simp only [List.take_succ_cons, List.take_zero, List.drop_succ_cons, List.drop_zero]
                repeat (go_big_quiet_step (fail))
                refine wpQuiet_nil ?_
                intro _ hw'
                obtain ⟨nq, rfl⟩ := hw'
                go_wp2_with fail
                go_roundw
                case rel => exact ⟨m + 1, gs.set m y, by omega, by go_num, (hofz.drewN nq).set m y, HST.out, OwnV.setOther (w := wz.drewN nq) hownz (by simp [Value.ownBlock]; omega) _, (below_drewN hbelz nq).setCell hgfw _⟩
                case measure => simp [intOf]; omega
              · have hmin : min z y = z := by omega
                rw [hmin] at HST
                clear hmin
                go_wp2_with fail
                refine wp_region_quiet_tail 14 (by kernel_rfl) (by kernel_rfl) ?_
                simp only [List.take_succ_cons, List.take_zero, List.drop_succ_cons, List.drop_zero]
                repeat (go_big_quiet_step (fail))
                refine wpQuiet_nil ?_
                intro _ hw'
                obtain ⟨nq, rfl⟩ := hw'
                go_wp2_with fail
                go_roundw
                case rel => exact ⟨m + 1, gs.set m z, by omega, by go_num, (hofz.drewN nq).set m z, HST.out, OwnV.setOther (w := wz.drewN nq) hownz (by simp [Value.ownBlock]; omega) _, (below_drewN hbelz nq).setCell hgfw _⟩
                case measure => simp [intOf]; omega
            · obtain rfl : m = xss.length := by omega
              have HFE := hide (hft.out.end hfp.out ht)
              go_wp2_with fail
              go_roundw
              case rel =>
                refine ⟨r + 1, putS S t, us.set t (.bool true), gs, T + x, by omega, by go_num, rfl, hownz, hvs.out.set t, hofz, HFE.out, ⟨?_, ?_⟩, ⟨by have := HX.out; omega, by have := HX.out; omega⟩, hbelz⟩
                · have h1 := hT.out.1
                  have h2 := HW.out.1
                  rw [HX.out] at h2
                  omega
                · rw [HW.out.2, hT.out.2]
              case measure => simp [intOf]; omega
    · have hrn : r + 1 = xss.length := by omega
      have hall : WB (gp xss) xss.length S = 0 := WB_all fun v hv => by
        cases hx : S v
        · have h1 := cntB_lt (p := S) (q := fun _ => true) (m := xss.length) (fun _ _ _ => rfl) v hv hx rfl
          rw [cntB_all fun _ _ => rfl, hT.out.2] at h1
          omega
        · rfl
      have HA := hide hall
      have hnl : ¬ (r : Int) < (xss.length : Int) - 1 := by omega
      clear hall hrn
      go_wp2_with fail
      go_ret
      refine ⟨ret_int ?_, hbel⟩
      have h1 := hT.out.1
      rw [HA.out] at h1
      omega
end Go.Proofs.Ytncglgkpgbhejaa
