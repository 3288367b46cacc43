/-
  Groups in the program: the contract of groupsAt; both GroupsAt.
-/
import Derived.Test.YtncglgkpgbhejaaGrpS
namespace Go.Proofs.Ytncglgkpgbhejaa
open Go.RowKit

set_option maxHeartbeats 4000000 in
theorem groupsI_c (v : Value) (xss : List (List Int)) (hh : Int) (w : World) (h : RdSS w v xss) (hok : okGaps xss = true) :
    Calls Try.prog 38 #[v, .int .i64 hh] w fun e w' => ∃ v' ys, e = .returned v' ∧ Own w' w.heap.size 3 v' ys ∧ GrpL (gp xss) xss.length hh ys ∧ Below w.heap.size w w' := by
  obtain ⟨A, cA, rfl, hcA, hmA, _⟩ := id h
  obtain ⟨⟨hn1, hn6⟩, hrl, hdg, hsym, hbd⟩ := okGaps_all hok
  have HM := hide fun (w : World) (h : RdSS w (.slice A xss.length cA) xss) (i : Nat) (hi : i < xss.length) => h.mt hok hi
  clear hok hsym hbd hrl hdg
  go_enter Try.func38, Try.ntmps38
  go_wp2_with (at_make; refine wpList_make_ints _ rfl (.tmp 10) (.tmp 10) rfl ints xss.length rfl rfl (by omega) ?_; intro w1 hown1 hbel1 hlt1)
  go_loopw [14] (fun i wr => ∃ (k : Nat) (ys : List Int), k ≤ xss.length ∧ i = .int .i64 k ∧ Own wr w.heap.size 3 (.slice (some ⟨w.heap.size, 0, none⟩) xss.length xss.length) ys ∧ Hid (ys.length = xss.length ∧ ∀ v, v < k → ys.getD v 0 = v) ∧ Below w.heap.size w wr) (fun i _ => xss.length - (intOf i).toNat)
  case atStart => exact ⟨0, _, by omega, rfl, hown1, ⟨by simp, fun v hv => by omega⟩, hbel1⟩
  case round =>
    obtain ⟨k, ys, hk, rfl, hown, hys, hbel⟩ := hrel
    by_cases hlt : k < xss.length
    · have ck := hown.cell (j := k) (by have := hys.out.1; omega)
      have fk := hown.frozen k
      have ik : (k : Int) < (xss.length : Int) := by omega
      obtain ⟨x, hx⟩ : ∃ x, ys.getD k 0 = x := ⟨_, rfl⟩
      rw [hx] at ck
      clear hx
      go_wp2_with fail
      go_roundw
      case rel =>
        refine ⟨k + 1, ys.set k k, by omega, by go_num, hown.set k k, ⟨by simp [hys.out.1], fun v hv => ?_⟩, hbel.setCell (Nat.le_refl _) _⟩
        by_cases e : v = k
        · subst e; simp [List.getD, hys.out.1, hlt]
        · have := hys.out.2 v (by omega)
          simp only [List.getD] at this ⊢
          rw [List.getElem?_set_ne (Ne.symm e)]
          exact this
      case measure => simp [intOf]; omega
    · obtain rfl : k = xss.length := by omega
      have HST : Hid (LR (gp xss) xss.length hh 0 0 0 ys) := LR.start hys.out.1 hys.out.2
      clear hys hown1 hbel1 hlt1
      go_wp2_with fail
      go_loopw [24] (fun i wr => ∃ (r : Nat) (ys : List Int), r ≤ xss.length ∧ i = .int .i64 r ∧ Own wr w.heap.size 3 (.slice (some ⟨w.heap.size, 0, none⟩) xss.length xss.length) ys ∧ Hid (LR (gp xss) xss.length hh r 0 0 ys) ∧ Below w.heap.size w wr) (fun i _ => xss.length - (intOf i).toNat)
      case atStart => exact ⟨0, ys, by omega, rfl, hown, HST.out, hbel⟩
      case round =>
        clear hown hbel HST
        obtain ⟨r, ys, hr, rfl, hown, hlr, hbel⟩ := hrel
        by_cases hrl : r < xss.length
        · have ir : (r : Int) < (xss.length : Int) := by omega
          go_wp2_with fail
          go_loopw [28] (fun i wr' => ∃ (a : Nat) (ys : List Int), a ≤ xss.length ∧ i = .int .i64 a ∧ Own wr' w.heap.size 3 (.slice (some ⟨w.heap.size, 0, none⟩) xss.length xss.length) ys ∧ Hid (LR (gp xss) xss.length hh r a 0 ys) ∧ Below w.heap.size w wr') (fun i _ => xss.length - (intOf i).toNat)
          case atStart => exact ⟨0, ys, by omega, rfl, hown, hlr, hbel⟩
          case round =>
            rename World => wa
            clear hown hbel hlr
            obtain ⟨a, ys, ha, rfl, hown, hlr, hbel⟩ := hrel
            by_cases hal : a < xss.length
            · have ia : (a : Int) < (xss.length : Int) := by omega
              go_wp2_with fail
              go_loopw [33] (fun i wr' => ∃ (b : Nat) (ys : List Int), b ≤ xss.length ∧ i = .int .i64 b ∧ Own wr' w.heap.size 3 (.slice (some ⟨w.heap.size, 0, none⟩) xss.length xss.length) ys ∧ Hid (LR (gp xss) xss.length hh r a b ys) ∧ Below w.heap.size w wr') (fun i _ => xss.length - (intOf i).toNat)
              case atStart => exact ⟨0, ys, by omega, rfl, hown, hlr, hbel⟩
              case round =>
                rename World => wb
                clear hown hbel hlr
                obtain ⟨b, ys, hb, rfl, hown, hlr, hbel⟩ := hrel
                by_cases hbl : b < xss.length
                · have HZL := hide hlr.out.1.1
                  have hz := h.below hbel
                  obtain ⟨g1, o1, rfl, hg1, bt, ot, dt, hr1, hr2, hr3, hbt, hcl⟩ := HM.out _ hz a hal
                  have c1 := hcl b hbl
                  have ca := hown.cell (j := a) (by have := HZL.out; omega)
                  have cb := hown.cell (j := b) (by have := HZL.out; omega)
                  have fa := hown.frozen a
                  have ib : (b : Int) < (xss.length : Int) := by omega
                  obtain ⟨x, hx⟩ : ∃ x, gp xss a b = x := ⟨_, rfl⟩
                  obtain ⟨y, hy⟩ : ∃ x, ys.getD a 0 = x := ⟨_, rfl⟩
                  obtain ⟨z, hz'⟩ : ∃ x, ys.getD b 0 = x := ⟨_, rfl⟩
                  have HX := hide hx
                  have HY := hide hy
                  have HZ := hide hz'
                  rw [hx] at c1
                  rw [hy] at ca
                  rw [hz'] at cb
                  clear hx hy hz' hcl
                  by_cases hxh : x ≤ hh
                  · have hxd : decide (x ≤ hh) = true := decide_eq_true hxh
                    by_cases hyz : z < y
                    · have HG := hide (hlr.out.put hal hbl (by rw [HX.out]; exact hxh) (by rw [HY.out, HZ.out]; exact hyz))
                      rw [HZ.out] at HG
                      go_wp2_with fail
                      refine wp_region_quiet_tail 11 (by kernel_rfl) (by kernel_rfl) ?_
                      simp only [List.take_succ_cons, List.take_zero, List.drop_succ_cons, List.drop_zero]
                      repeat (go_big_quiet_step (fail))
                      refine wpQuiet_nil ?_
                      intro _ hw'
                      obtain ⟨nq, rfl⟩ := hw'
                      go_wp2_with fail
                      go_roundw
                      case rel => exact ⟨b + 1, ys.set a z, by omega, by go_num, (hown.drewN nq).set a z, HG.out, (below_drewN hbel nq).setCell (Nat.le_refl _) _⟩
                      case measure => simp [intOf]; omega
                    · have HG := hide (hlr.out.keep hbl (by rw [HY.out, HZ.out]; exact hyz))
                      have HSS : Hid (ys.set a y = ys) := by show _ = _; rw [← HY.out]; exact set_same (by rw [HZL.out]; exact hal)
                      go_wp2_with fail
                      refine wp_region_quiet_tail 11 (by kernel_rfl) (by kernel_rfl) ?_
                      simp only [List.take_succ_cons, List.take_zero, List.drop_succ_cons, List.drop_zero]
                      repeat (go_big_quiet_step (fail))
                      refine wpQuiet_nil ?_
                      intro _ hw'
                      obtain ⟨nq, rfl⟩ := hw'
                      go_wp2_with fail
                      go_roundw
                      case rel => exact ⟨b + 1, ys, by omega, by go_num, by have := (hown.drewN nq).set a y; rw [HSS.out] at this; exact this, HG.out, (below_drewN hbel nq).setCell (Nat.le_refl _) _⟩
                      case measure => simp [intOf]; omega
                  · have hxd : decide (x ≤ hh) = false := decide_eq_false hxh
                    have HG := hide (hlr.out.skip (by rw [HX.out]; exact hxh))
                    go_wp2_with fail
                    go_roundw
                    case rel => exact ⟨b + 1, ys, by omega, by go_num, hown, HG.out, hbel⟩
                    case measure => simp [intOf]; omega
                · obtain rfl : b = xss.length := by omega
                  go_wp2_with fail
                  go_roundw
                  case rel => exact ⟨a + 1, ys, by omega, by go_num, hown, hlr.out.row, hbel⟩
                  case measure => simp [intOf]; omega
            · obtain rfl : a = xss.length := by omega
              go_wp2_with fail
              go_roundw
              case rel => exact ⟨r + 1, ys, by omega, by go_num, hown, hlr.out.round, hbel⟩
              case measure => simp [intOf]; omega
        · obtain rfl : r = xss.length := by omega
          have HE := hide hlr.out.end
          go_wp2_with fail
          go_ret
          exact ⟨_, ys, rfl, hown, HE.out, hbel⟩
end Go.Proofs.Ytncglgkpgbhejaa
