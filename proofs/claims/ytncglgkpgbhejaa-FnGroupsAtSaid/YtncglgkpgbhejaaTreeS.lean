/-
  The least tree in the reference.
-/
import Derived.Test.YtncglgkpgbhejaaTreeP
import Derived.Test.YtncglgkpgbhejaaGapsI
import Derived.Deep.LoopGhost
namespace Go.Proofs.Ytncglgkpgbhejaa
open Go.RowKit

/-- Row i of valid distances, as the walk reads it. -/
theorem RdSS.mt {w : World} {A : Option Addr} {n c : Nat} {xss : List (List Int)} (h : RdSS w (.slice A n c) xss) (hok : okGaps xss = true) {i : Nat} (hi : i < xss.length) : ∃ g off, A = some ⟨g, off, none⟩ ∧ g < w.heap.size ∧
    ∃ b o d, w.cell? ⟨g, off + i, none⟩ = some (.slice (some ⟨b, o, none⟩) xss.length d) ∧ xss.length ≤ d ∧ d ≤ 9223372036854775807 ∧ b < w.heap.size ∧ ∀ k, k < xss.length → w.cell? ⟨b, o + k, none⟩ = some (.int .i64 (gp xss i k)) := by
  obtain ⟨g, off, rfl, hg, B, d, h1, _, h2, h3, h4⟩ := h.row hi
  have hl := (okGaps_all hok).2.1 i hi
  rw [hl] at h1 h2 h4
  obtain ⟨b, o, rfl, hb, hc⟩ := h4 (by omega)
  exact ⟨g, off, rfl, hg, b, o, d, h1, h2, h3, hb, hc⟩

set_option maxHeartbeats 4000000 in
theorem treeFrom_c (v : Value) (g c : Nat) (xss : List (List Int)) (vs : List Value) (S0 : Nat → Bool) (W0 w : World) (h : RdSS W0 v xss) (hok : okGaps xss = true) (hbw : Below W0.heap.size W0 w)
    (hown : OwnV w W0.heap.size 4 (.slice (some ⟨g, 0, none⟩) xss.length c) vs) (hvs : BoolsV xss.length S0 vs) (hS0 : S0 0 = true) :
    Calls Try.prog 31 #[v, .slice (some ⟨g, 0, none⟩) xss.length c] w fun e w' => e = .returned (.int .i64 (WB (gp xss) xss.length S0)) ∧ Below W0.heap.size W0 w' := by
  obtain ⟨A, cA, rfl, hcA, hmA, _⟩ := id h
  obtain ⟨⟨hn1, hn6⟩, hrl, hdg, hsym, hbd⟩ := okGaps_all hok
  have HSYM := hide hsym
  have HBD := hide hbd
  have HM := hide fun (i : Nat) (hi : i < xss.length) => h.mt hok hi
  obtain ⟨-, hcap1, hcap2⟩ := hown.len
  clear hok hsym hbd hrl hdg
  go_enter Try.func31, Try.ntmps31
  go_wp2_with fail
  go_loopg [5] (xss.length + 1) (fun gk sum wr => ∃ (S : Nat → Bool) (us : List Value) (T : Int), sum = .int .i64 T ∧ OwnV wr W0.heap.size 4 (.slice (some ⟨g, 0, none⟩) xss.length c) us ∧ Hid (BoolsV xss.length S us) ∧ Hid (S 0 = true ∧ T + WB (gp xss) xss.length S = WB (gp xss) xss.length S0 ∧ xss.length + 1 ≤ gk + cntB S xss.length) ∧ (0 ≤ T ∧ T ≤ 40 * cntB S xss.length) ∧ Below W0.heap.size W0 wr)
  case atStart => exact ⟨S0, vs, 0, rfl, hown, hvs, ⟨hS0, by omega, by omega⟩, ⟨by omega, by omega⟩, hbw⟩
  case round =>
    obtain ⟨S, us, T, rfl, hown, hvs, hS, hT, hbel⟩ := hrel
    have hg := hown.lt
    have hcnt := cntB_le S xss.length
    go_wp2_with fail
    go_loop [6, 7, 8] (fun be at_ x => ∃ (a : Nat) (p q : Int), a ≤ xss.length ∧ x = .int .i64 a ∧ be = .int .i64 p ∧ at_ = .int .i64 q ∧ Hid (TB (gp xss) xss.length S a 0 p q)) (fun _ _ x => xss.length - (intOf x).toNat)
    case atStart => exact ⟨0, -1, -1, by omega, rfl, rfl, rfl, TB.start⟩
    case round =>
      obtain ⟨a, p, q, ha, rfl, rfl, rfl, htb⟩ := hrel
      by_cases hal : a < xss.length
      · go_wp2_with fail
        go_loop [6, 7, 9] (fun be at_ x => ∃ (b : Nat) (p q : Int), b ≤ xss.length ∧ x = .int .i64 b ∧ be = .int .i64 p ∧ at_ = .int .i64 q ∧ Hid (TB (gp xss) xss.length S a b p q)) (fun _ _ x => xss.length - (intOf x).toNat)
        case atStart => exact ⟨0, p, q, by omega, rfl, rfl, rfl, htb⟩
        case round =>
          clear htb
          obtain ⟨b, p, q, hb, rfl, rfl, rfl, htb⟩ := hrel
          by_cases hbl : b < xss.length
          · obtain ⟨tb1, tb2, tb3⟩ := htb.out.bd
            have ia : (a : Int) < (xss.length : Int) := by omega
            have ib : (b : Int) < (xss.length : Int) := by omega
            have ca := hown.cell (hvs.out.2 a hal)
            have cb := hown.cell (hvs.out.2 b hbl)
            obtain ⟨ga, oa, rfl, hga, ba, ob, da, hr1, hr2, hr3, hba, hcl⟩ := HM.out a hal
            have hrow := (hbel.cell (p := ⟨ga, oa + a, none⟩) hga).trans hr1
            have hcell := (hbel.cell (p := ⟨ba, ob + b, none⟩) hba).trans (hcl b hbl)
            have hgb := fun hne => HBD.out a b hal hbl hne
            have HG := hide hgb
            obtain ⟨sa, hsa⟩ : ∃ x, S a = x := ⟨_, rfl⟩
            obtain ⟨sb, hsb⟩ : ∃ x, S b = x := ⟨_, rfl⟩
            rw [hsa] at ca
            rw [hsb] at cb
            have HSA := hide hsa
            have HSB := hide hsb
            obtain ⟨x, hx⟩ : ∃ x, gp xss a b = x := ⟨_, rfl⟩
            rw [hx] at hcell
            have HX := hide hx
            have HTBI := hide tb3
            clear hsa hsb hgb hx hcl tb3 hr1
            cases sa
            · have HN : Hid (TB (gp xss) xss.length S a (b + 1) p q) := htb.out.skip (.inl HSA.out)
              go_wp2_with fail
              go_round
              case rel => exact ⟨b + 1, p, q, by omega, by go_num, rfl, rfl, HN⟩
              case measure => simp [intOf]; omega
            cases sb
            rotate_left
            · have HN : Hid (TB (gp xss) xss.length S a (b + 1) p q) := htb.out.skip (.inr HSB.out)
              go_wp2_with fail
              go_round
              case rel => exact ⟨b + 1, p, q, by omega, by go_num, rfl, rfl, HN⟩
              case measure => simp [intOf]; omega
            have hne : a ≠ b := by
              rintro rfl
              have h1 := HSA.out
              rw [HSB.out] at h1
              cases h1
            have hxb := HG.out hne
            rw [HX.out] at hxb
            by_cases hp0 : p < 0
            · have hpb : decide (p < 0) = true := decide_eq_true hp0
              have HN : Hid (TB (gp xss) xss.length S a (b + 1) x b) := by
                have := htb.out.new hal hbl HSA.out HSB.out (.inl hp0) (by rw [HX.out]; exact hxb)
                rwa [HX.out] at this
              clear hne
              go_wp2_with fail
              go_round
              case rel => exact ⟨b + 1, x, b, by omega, by go_num, rfl, rfl, HN⟩
              case measure => simp [intOf]; omega
            · have hpb : decide (p < 0) = false := decide_eq_false hp0
              by_cases hxp : x < p
              · have hxd : decide (x < p) = true := decide_eq_true hxp
                have HN : Hid (TB (gp xss) xss.length S a (b + 1) x b) := by
                  have := htb.out.new hal hbl HSA.out HSB.out (.inr (by rw [HX.out]; exact hxp)) (by rw [HX.out]; exact hxb)
                  rwa [HX.out] at this
                clear hne
                go_wp2_with fail
                go_round
                case rel => exact ⟨b + 1, x, b, by omega, by go_num, rfl, rfl, HN⟩
                case measure => simp [intOf]; omega
              · have hxd : decide (x < p) = false := decide_eq_false hxp
                have HN : Hid (TB (gp xss) xss.length S a (b + 1) p q) := htb.out.keep hp0 (by rw [HX.out]; exact hxp)
                clear hne
                go_wp2_with fail
                go_round
                case rel => exact ⟨b + 1, p, q, by omega, by go_num, rfl, rfl, HN⟩
                case measure => simp [intOf]; omega
          · obtain rfl : b = xss.length := by omega
            go_wp2_with fail
            go_round
            case rel => exact ⟨a + 1, p, q, by omega, by go_num, rfl, rfl, htb.out.row⟩
            case measure => simp [intOf]; omega
      · obtain rfl : a = xss.length := by omega
        obtain ⟨tb1, tb2, tb3⟩ := htb.out.bd
        have HB3 := hide tb3
        clear tb3
        by_cases hq0 : q < 0
        · have hqb : decide (q < 0) = true := decide_eq_true hq0
          have HW : Hid (WB (gp xss) xss.length S = 0) := htb.out.none hq0 hS.out.1 (by omega)
          go_wp2_with fail
          go_ret
          refine ⟨ret_int ?_, hbel⟩
          have h1 := hS.out.2.1
          rw [HW.out] at h1
          omega
        · have hqb : decide (q < 0) = false := decide_eq_false hq0
          obtain ⟨t, rfl, ht, hSt, hp, hWt, hct⟩ := htb.out.some hq0 HSYM.out
          have HW := hide hWt
          have ct := hown.cell (hvs.out.2 t ht)
          have ft := hown.frozen t
          have it : (t : Int) < (xss.length : Int) := by omega
          have e1 : IntKind.i64.wrap (T + p) = T + p := IntWalk.i64_in _ (by omega)
          have HC := hide hct
          clear hWt hct
          go_wp2_with fail
          clear e1
          go_roundg (gk - 1)
          case measure => have := hS.out.2.2; omega
          case rel =>
            refine ⟨putS S t, us.set t (.bool true), T + p, rfl, hown.set t _, hvs.out.set t, ⟨by have := hS.out.1; simp [putS, this], ?_, ?_⟩, ⟨by omega, ?_⟩, hbel.setCell hg.1 _⟩
            · have h1 := hS.out.2.1
              have := HW.out
              omega
            · have h1 := hS.out.2.2
              have := HC.out
              omega
            · have := HC.out
              omega

theorem bools : ValsOf Try.prog 41 4 (.bool false) 1 := ⟨Try.underlying41, by kernel_rfl, rfl⟩

set_option maxHeartbeats 1000000 in
theorem TreeS_c (v : Value) (xss : List (List Int)) (w : World) (h : RdSS w v xss) (hok : okGaps xss = true) :
    Calls Try.prog 10 #[v] w fun e w' => e = .returned (.int .i64 (WB (gp xss) xss.length (oneS 0))) ∧ Below w.heap.size w w' := by
  obtain ⟨A, c, rfl, hc, hm, _⟩ := id h
  obtain ⟨hn1, hn6⟩ := (okGaps_all hok).1
  have K := hide fun w h => validGapsS_c (.slice A xss.length c) xss true w h hok
  go_enter Try.func10, Try.ntmps10
  go_wp2_with fail
  refine (K.out _ h).mono ?_
  rintro e w1 ⟨rfl, hb1⟩
  have h1 := h.below hb1
  have K2 := hide fun c' vs w' hbw hown hvs => treeFrom_c (.slice A xss.length c) w1.heap.size c' xss vs (oneS 0) w1 w' h1 hok hbw hown hvs rfl
  clear hok
  go_wp2_with (at_make; refine wpList_make_rows _ rfl (.tmp 8) (.tmp 8) rfl bools xss.length rfl rfl (by omega) (by omega) (toList_madeCells_one _ _) ?_; intro w2 hown2 hbel2 hlt2; have hck := hown2.cell (j := 0) (u := Value.bool false) (by rw [List.getElem?_replicate, if_pos (by omega)]); have hfk := hown2.frozen 0; have i0 : (0 : Int) < (xss.length : Int) := by omega)
  have ht := hown2.set 0 (.bool true)
  have hv : BoolsV xss.length (oneS 0) ((List.replicate xss.length (.bool false)).set 0 (.bool true)) := by
    have := (BoolsV.start xss.length).set 0
    rwa [show putS (fun _ => false) 0 = oneS 0 by funext x; simp [putS, oneS]] at this
  refine (K2.out _ _ _ (hbel2.setCell (Nat.le_refl _) _) ht hv).mono ?_
  rintro e w3 ⟨rfl, hb3⟩
  go_wp2_with fail
  go_ret
  exact ⟨rfl, hb1.trans (hb3.mono hb1.size)⟩
end Go.Proofs.Ytncglgkpgbhejaa
