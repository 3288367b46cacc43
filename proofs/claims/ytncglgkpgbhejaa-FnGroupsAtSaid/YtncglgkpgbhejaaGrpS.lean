/-
  Groups in the reference and in the program: the contracts of groupsAt.
-/
import Derived.Test.YtncglgkpgbhejaaGrpP
import Derived.Test.YtncglgkpgbhejaaTreeI
namespace Go.Proofs.Ytncglgkpgbhejaa
open Go.RowKit

set_option maxHeartbeats 4000000 in
theorem groupsS_c (v : Value) (xss : List (List Int)) (hh : Int) (w : World) (h : RdSS w v xss) (hok : okGaps xss = true) :
    Calls Try.prog 36 #[v, .int .i64 hh] w fun e w' => ∃ v' ys, e = .returned v' ∧ Own w' w.heap.size 3 v' ys ∧ GrpL (gp xss) xss.length hh ys ∧ Below w.heap.size w w' := by
  obtain ⟨A, cA, rfl, hcA, hmA, _⟩ := id h
  obtain ⟨⟨hn1, hn6⟩, hrl, hdg, hsym, hbd⟩ := okGaps_all hok
  have HSYM := hide hsym
  have HM := hide fun (w : World) (h : RdSS w (.slice A xss.length cA) xss) (i : Nat) (hi : i < xss.length) => h.mt hok hi
  clear hok hsym hbd hrl hdg
  have hown0 : Own (w.alloc (.cells #[] 3)) w.heap.size 3 (.slice (some ⟨w.heap.size, 0, none⟩) 0 0) [] := lit_own [] rfl rfl rfl (by simp) (Nat.le_refl _)
  go_enter Try.func36, Try.ntmps36
  go_wp2_with fail
  go_loopw [5, 6] (fun out i wr => ∃ k : Nat, k ≤ xss.length ∧ i = .int .i64 k ∧ Own wr w.heap.size 3 out (idL k) ∧ Below w.heap.size w wr) (fun _ i _ => xss.length - (intOf i).toNat)
  case atStart => exact ⟨0, by omega, rfl, hown0, below_alloc' (Below.refl _ _) _⟩
  case round =>
    obtain ⟨k, hk, rfl, hown, hbel⟩ := hrel
    have HL := hide (idL_len k)
    by_cases hlt : k < xss.length
    · have hsz := hbel.size
      go_wp2_with (at_builtin; refine wpList_push_int _ rfl (.tmp 17) (.tmp 19) rfl ints w.heap.size _ (idL k) k _ 1 rfl rfl hown hsz (by have := HL.out; omega) ?_; intro v7 w7 hown7 hb7 hg7 hat7 hk7 hlt7)
      go_roundw
      case rel => exact ⟨k + 1, by omega, by go_num, by rw [idL_succ]; exact hown7, hbel.trans hb7⟩
      case measure => simp [intOf]; omega
    · obtain rfl : k = xss.length := by omega
      obtain ⟨g, cg, rfl, hg1, hg2, hcg1, hcg2⟩ := hown.form (by have := HL.out; omega)
      rw [HL.out] at hown ⊢
      have HST : Hid (Grp0 (gp xss) xss.length hh (idL xss.length)) := Grp0.start HL.out fun v hv => idL_get hv
      clear HL
      go_wp2_with fail
      go_loopg [7] (2 * sumN (idL xss.length) + 1) (fun gk ag wr => ∃ (ys : List Int) (b : Bool), ag = .bool b ∧ Own wr w.heap.size 3 (.slice (some ⟨g, 0, none⟩) xss.length cg) ys ∧ Hid (Grp0 (gp xss) xss.length hh ys) ∧ Hid (gk = 2 * sumN ys + (if b then 1 else 0)) ∧ Hid (b = false → ∀ x y, x < xss.length → y < xss.length → gp xss x y ≤ hh → ys.getD y 0 ≤ ys.getD x 0) ∧ Below w.heap.size w wr)
      case atStart => exact ⟨_, true, rfl, hown, HST.out, rfl, (fun h => by cases h), hbel⟩
      case round =>
        obtain ⟨ys, b, rfl, hown, hgr, hgk, hfix, hbel⟩ := hrel
        cases b
        · go_wp2_with fail
          go_ret
          exact ⟨_, rfl, ys, hown, hgr.out.fix HSYM.out (hfix.out (by first | rfl | trivial)), hbel⟩
        · clear hfix
          go_wp2_with fail
          go_loopw [7, 8] (fun ag i wr' => ∃ (a : Nat) (zs : List Int) (c : Bool), a ≤ xss.length ∧ i = .int .i64 a ∧ ag = .bool c ∧ Own wr' w.heap.size 3 (.slice (some ⟨g, 0, none⟩) xss.length cg) zs ∧ Hid (Grp0 (gp xss) xss.length hh zs) ∧ Hid (GS (gp xss) xss.length hh ys a 0 zs c) ∧ Below w.heap.size w wr') (fun _ i _ => xss.length - (intOf i).toNat)
          case atStart => exact ⟨0, ys, false, by omega, rfl, rfl, hown, hgr, GS.start, hbel⟩
          case round =>
            rename World => wa
            obtain ⟨a, zs, c, ha, rfl, rfl, howna, hgra, hgsa, hbela⟩ := hrel
            by_cases hal : a < xss.length
            · go_wp2_with fail
              go_loopw [7, 9] (fun ag i wr' => ∃ (b : Nat) (zs : List Int) (c : Bool), b ≤ xss.length ∧ i = .int .i64 b ∧ ag = .bool c ∧ Own wr' w.heap.size 3 (.slice (some ⟨g, 0, none⟩) xss.length cg) zs ∧ Hid (Grp0 (gp xss) xss.length hh zs) ∧ Hid (GS (gp xss) xss.length hh ys a b zs c) ∧ Below w.heap.size w wr') (fun _ i _ => xss.length - (intOf i).toNat)
              case atStart => exact ⟨0, zs, c, by omega, rfl, rfl, howna, hgra, hgsa, hbela⟩
              case round =>
                rename World => wb
                clear howna hgra hgsa hbela hown
                obtain ⟨b, zs, c, hb, rfl, rfl, hownb, hgrb, hgsb, hbelb⟩ := hrel
                by_cases hbl : b < xss.length
                · have HZL := hide hgrb.out.1
                  have hz := h.below hbelb
                  obtain ⟨g1, o1, rfl, hg1, bt, ot, dt, hr1, hr2, hr3, hbt, hcl⟩ := HM.out _ hz a hal
                  have c1 := hcl b hbl
                  have ca := hownb.cell (j := a) (by have := HZL.out; omega)
                  have cb := hownb.cell (j := b) (by have := HZL.out; omega)
                  have fb := hownb.frozen b
                  have ia : (a : Int) < (xss.length : Int) := by omega
                  have ib : (b : Int) < (xss.length : Int) := by omega
                  obtain ⟨x, hx⟩ : ∃ x, gp xss a b = x := ⟨_, rfl⟩
                  obtain ⟨y, hy⟩ : ∃ x, zs.getD a 0 = x := ⟨_, rfl⟩
                  obtain ⟨z, hz'⟩ : ∃ x, zs.getD b 0 = x := ⟨_, rfl⟩
                  have HX := hide hx
                  have HY := hide hy
                  have HZ := hide hz'
                  rw [hx] at c1
                  rw [hy] at ca
                  rw [hz'] at cb
                  clear hx hy hz' hcl
                  by_cases hxh : x ≤ hh
                  · have hxd : decide (x ≤ hh) = true := decide_eq_true hxh
                    by_cases hyz : y < z
                    · have hyd : decide (y < z) = true := decide_eq_true hyz
                      have HN := hide (hgrb.out.put hbl hal (rcB_symm HSYM.out hal hbl (rcB_edge hal hbl (by rw [HX.out]; exact hxh))) (by rw [HY.out, HZ.out]; omega))
                      have HG := hide (hgsb.out.put hgrb.out hal hbl (by rw [HY.out, HZ.out]; exact hyz))
                      rw [HY.out] at HN HG
                      go_wp2_with fail
                      go_quiet (fail)
                      go_wp2_with fail
                      go_roundw
                      case rel => exact ⟨b + 1, zs.set b y, true, by omega, by go_num, rfl, (hownb.drewN nq).set b y, HN.out, HG.out, (below_drewN hbelb nq).setCell hownb.lt.1 _⟩
                      case measure => simp [intOf]; omega
                    · have hyd : decide (y < z) = false := decide_eq_false hyz
                      have HG := hide (hgsb.out.skip fun _ => by rw [HY.out, HZ.out]; omega)
                      go_wp2_with fail
                      go_quiet (fail)
                      go_wp2_with fail
                      go_roundw
                      case rel => exact ⟨b + 1, zs, c, by omega, by go_num, rfl, hownb.drewN nq, hgrb, HG.out, below_drewN hbelb nq⟩
                      case measure => simp [intOf]; omega
                  · have hxd : decide (x ≤ hh) = false := decide_eq_false hxh
                    have HG := hide (hgsb.out.skip fun hh' => by rw [HX.out] at hh'; exact absurd hh' hxh)
                    go_wp2_with fail
                    go_quiet (fail)
                    go_wp2_with fail
                    go_roundw
                    case rel => exact ⟨b + 1, zs, c, by omega, by go_num, rfl, hownb.drewN nq, hgrb, HG.out, below_drewN hbelb nq⟩
                    case measure => simp [intOf]; omega
                · obtain rfl : b = xss.length := by omega
                  go_wp2_with fail
                  go_roundw
                  case rel => exact ⟨a + 1, zs, c, by omega, by go_num, rfl, hownb, hgrb, hgsb.out.row, hbelb⟩
                  case measure => simp [intOf]; omega
            · obtain rfl : a = xss.length := by omega
              go_wp2_with fail
              cases c
              · have he := hide hgsa.out.end
                go_roundg (gk - 1)
                case measure => have := hgk.out; simp at this; omega
                case rel => exact ⟨zs, false, rfl, howna, hgra, (by have := hgk.out; rw [he.out.1]; show _ = _; simp at this ⊢; omega), fun _ => he.out.2, hbela⟩
              · have he := hide hgsa.out.again
                go_roundg (2 * sumN zs + 1)
                case measure => have := hgk.out; have := he.out; simp at *; omega
                case rel => exact ⟨zs, true, rfl, howna, hgra, rfl, (fun h => by cases h), hbela⟩
end Go.Proofs.Ytncglgkpgbhejaa
