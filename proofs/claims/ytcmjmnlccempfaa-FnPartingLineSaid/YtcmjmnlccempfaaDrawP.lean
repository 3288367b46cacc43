/-
  Contract: what the statement on parting lines draws.
-/
import Derived.Test.YtcmjmnlccempfaaCloud
import Derived.Test.YtcmjmnlccempfaaDrawS
import Derived.Test.YtcmjmnlccempfaaQTail
namespace Go.Proofs.Ytcmjmnlccempfaa
open Go.RowKit

theorem old_drew {R : Option Nat} {a b : World} {n : Nat} (h : a.grownBy b R) : a.grownBy (b.drewN n) R := ⟨h.os, h.tape, h.output, h.size, h.block⟩

set_option maxRecDepth 20000 in
set_option maxHeartbeats 4000000 in
theorem DrawPartingLine_c (A0 : Option Addr) (n c : Nat) (bs : List Int) (w : World) (hl : bs.length = n) (hnc : n ≤ c) (hc : c ≤ 9223372036854775807) (hr : Rd8 w w.heap.size A0 bs) :
    Calls Try.prog 16 #[.slice A0 n c] w fun e w' => ∃ v xs u ys z ms, e = .returned (.tuple #[v, u, z]) ∧ Sl w' w.heap.size v xs ∧ Sl w' w.heap.size u ys ∧ Sl w' w.heap.size z ms ∧ Below w.heap.size w w' := by
  go_enter Try.func16, Try.ntmps16
  go_wp2_with fail
  refine (newReader_c A0 n c bs _ hl hnc hc hr).mono ?_
  rintro e w1 ⟨R, bs', rfl, hbl, hR, ⟨A', c', hrd1⟩, hbw1⟩
  have hsz1 := hbw1.size
  have hRl := blk_lt hrd1.blk
  go_wp2_with fail
  refine (someCloud_c R c' 0 A' bs' _ hrd1 (by omega) hbl).mono ?_
  rintro e w2 ⟨v, xs, u, ys, p2, rfl, hsx2, hxl, hsy2, hyl, hall, hrd2, hp2, hold2⟩
  have hsz2 := hold2.size
  have hbw2 : Below w.heap.size w w2 := hbw1.trans (old_belowR hold2 hbw1.size hR)
  have HAll := hide hall
  clear hall
  go_wp2_with fail
  refine (pick_c R c' _ A' bs' 5 _ (hrd2.alloc _) (by omega) (by omega) hbl).mono ?_
  rintro e w3 ⟨⟨a0, rfl, ha0⟩, hrd3, hon3⟩
  have ha0' : 0 ≤ a0 ∧ a0 < 5 := ha0.2 (by omega)
  have hown3 : Own w3 w2.heap.size 3 (.slice (some ⟨w2.heap.size, 0, none⟩) 0 0) [] := (lit_own (w := w2) [] rfl rfl rfl (by simp) (Nat.le_refl _)).only' hon3 (by omega)
  have hold3 : w2.grownBy w3 (some R) := old_only (old_alloc (old_refl w2 _) _) hon3
  clear ha0 hon3
  go_wp2_with fail
  refine (pick_c R c' _ A' bs' 5 _ hrd3 (by omega) (by omega) hbl).mono ?_
  rintro e w4 ⟨⟨b0, rfl, hb0⟩, hrd4, hon4⟩
  have hb0' : 0 ≤ b0 ∧ b0 < 5 := hb0.2 (by omega)
  have hown4 := hown3.only' hon4 (by omega)
  have hold4 := old_only hold3 hon4
  clear hb0 hon4
  go_wp2_with fail
  refine (pick_c R c' _ A' bs' 5 _ hrd4 (by omega) (by omega) hbl).mono ?_
  rintro e w5 ⟨⟨c0, rfl, hc0⟩, hrd5, hon5⟩
  have hc0' : 0 ≤ c0 ∧ c0 < 5 := hc0.2 (by omega)
  have hown5 := hown4.only' hon5 (by omega)
  have hold5 := old_only hold4 hon5
  clear hc0 hon5 hrd3 hrd4 hown3 hown4 hold3 hold4 hrd2
  obtain ⟨Ax, cx, rfl, hcx, hmx, _⟩ := id hsx2
  obtain ⟨Ay, cy, rfl, hcy, hmy, _⟩ := id hsy2
  have hatx := hsx2.rd.at
  have haty := hsy2.rd.at
  go_wp2_with fail
  go_loopw [8, 12, 13] (fun sm i m wr => ∃ (k : Nat) (ms : List Int) (q : Nat), k ≤ xs.length ∧ i = .int .i64 k ∧ Own wr w2.heap.size 3 sm ms ∧ Hid (ms.length = k) ∧ Rdr wr R A' c' bs' q ∧ q ≤ 300 + k ∧ w2.grownBy wr (some R)) (fun _ i _ _ => xs.length - (intOf i).toNat)
  case atStart => exact ⟨0, [], _, Nat.zero_le _, rfl, hown5, rfl, hrd5, by omega, hold5⟩
  case round =>
    obtain ⟨k, ms, q, hk, rfl, hown, hlen, hrd, hq, hold⟩ := hrel
    have hsz := hold.size
    have hml : ms.length ≤ 100 := by rw [hlen.out]; omega
    have hbel2 : Below w.heap.size w wr := hbw2.trans (old_belowR hold (by omega) hR)
    by_cases hlt : k < xs.length
    · obtain ⟨g, off, rfl, hg, hcl⟩ := hatx (by omega)
      have hgR : g ≠ R := by
        obtain ⟨_, _, he, _, _, h5⟩ := hsx2
        obtain ⟨g', o', e1, h6, _⟩ := h5 (by omega)
        injection he with e2
        rw [e1] at e2
        injection e2 with e2
        injection e2 with e2
        omega
      have hcx : wr.cell? ⟨g, off + k, none⟩ = some (.int .i64 (atL xs k)) := (World.cell?_of_block (hold.block g hg (by simpa using hgR))).trans (hcl k hlt)
      have hxb := at_all HAll.out.1 (by omega) k
      by_cases hlt2 : k < ys.length
      · obtain ⟨g2, off2, rfl, hg2, hcl2⟩ := haty (by omega)
        have hgR2 : g2 ≠ R := by
          obtain ⟨_, _, he, _, _, h5⟩ := hsy2
          obtain ⟨g', o', e1, h6, _⟩ := h5 (by omega)
          injection he with e2
          rw [e1] at e2
          injection e2 with e2
          injection e2 with e2
          omega
        have hcy2 : wr.cell? ⟨g2, off2 + k, none⟩ = some (.int .i64 (atL ys k)) := (World.cell?_of_block (hold.block g2 hg2 (by simpa using hgR2))).trans (hcl2 k hlt2)
        have hyb := at_all HAll.out.2 (by omega) k
        obtain ⟨x, hxe⟩ : ∃ x, atL xs k = x := ⟨_, rfl⟩
        obtain ⟨y, hye⟩ : ∃ x, atL ys k = x := ⟨_, rfl⟩
        rw [hxe] at hcx hxb
        rw [hye] at hcy2 hyb
        have m1 := mul_abs_bd (a := a0 - 2) (x := x) (m := 2) (n := 100) (by omega) hxb (by omega) (by omega)
        have m2 := mul_abs_bd (a := b0 - 2) (x := y) (m := 2) (n := 100) (by omega) hyb (by omega) (by omega)
        have f1 : IntKind.i64.wrap ((a0 - 2) * x) = (a0 - 2) * x := IntWalk.i64_in _ (by omega)
        have f2 : IntKind.i64.wrap ((b0 - 2) * y) = (b0 - 2) * y := IntWalk.i64_in _ (by omega)
        have f3 : IntKind.i64.wrap ((a0 - 2) * x + (b0 - 2) * y) = (a0 - 2) * x + (b0 - 2) * y := IntWalk.i64_in _ (by omega)
        have f4 : IntKind.i64.wrap ((a0 - 2) * x + (b0 - 2) * y + (c0 - 2)) = (a0 - 2) * x + (b0 - 2) * y + (c0 - 2) := IntWalk.i64_in _ (by omega)
        have hi1 : (k : Int) < (xs.length : Int) := by omega
        have hi2 : (k : Int) < (ys.length : Int) := by omega
        clear hcl hcl2 hatx haty hxe hye
        by_cases hC : 0 < (a0 - 2) * x + (b0 - 2) * y + (c0 - 2)
        · go_wp2_with fail
          go_quiet (fail)
          go_wp2_with (at_builtin; refine wpList_push_int _ rfl (.tmp 64) (.tmp 66) rfl ints w2.heap.size _ ms 1 _ 1 rfl rfl (hown.drewN _) hsz (by omega) ?_; intro v7 w7 hown7 hb7 hg7 hat7 hk7 hlt7)
          go_roundw
          case rel => exact ⟨k + 1, _, q, by omega, by go_num, hown7, by show _ = _; simp; exact hlen.out, (hrd.drewN _).below hb7 (by omega), by omega, old_below (old_drew hold) hb7⟩
          case measure => simp [intOf]; omega
        · have hCd : decide (0 < (a0 - 2) * x + (b0 - 2) * y + (c0 - 2)) = false := decide_eq_false hC
          go_wp2_with fail
          refine wp_region_quiet_tail 24 (by kernel_rfl) (by kernel_rfl) ?_
          simp only [List.take_succ_cons, List.take_zero, List.drop_succ_cons, List.drop_zero]
          repeat (go_big_quiet_step (fail))
          refine wpQuiet_nil ?_
          intro _ hw'
          obtain ⟨nq, rfl⟩ := hw'
          go_wp2_with fail
          refine (pick_c R c' q A' bs' 12 _ (hrd.drewN nq) (by omega) (by omega) hbl).mono ?_
          rintro e w6 ⟨⟨z, rfl, hz⟩, hrd6, hon6⟩
          have hown6 := (hown.drewN nq).only' hon6 (by omega)
          have hold6 : w2.grownBy w6 (some R) := old_only (old_drew hold) hon6
          have hsz6 := hold6.size
          clear hz hon6
          by_cases h0 : z = 0
          · subst h0
            go_wp2_with (at_builtin; refine wpList_push_int _ rfl (.tmp 64) (.tmp 66) rfl ints w2.heap.size _ ms 1 _ 1 rfl rfl hown6 hsz6 (by omega) ?_; intro v7 w7 hown7 hb7 hg7 hat7 hk7 hlt7)
            go_roundw
            case rel => exact ⟨k + 1, _, q + 1, by omega, by go_num, hown7, by show _ = _; simp; exact hlen.out, hrd6.below hb7 (by omega), by omega, old_below hold6 hb7⟩
            case measure => simp [intOf]; omega
          · have hb0 : (z == 0) = false := beq_eq_false_iff_ne.2 h0
            go_wp2_with (at_builtin; refine wpList_push_int _ rfl (.tmp 64) (.tmp 66) rfl ints w2.heap.size _ ms 0 _ 1 rfl rfl hown6 hsz6 (by omega) ?_; intro v7 w7 hown7 hb7 hg7 hat7 hk7 hlt7)
            go_roundw
            case rel => exact ⟨k + 1, _, q + 1, by omega, by go_num, hown7, by show _ = _; simp; exact hlen.out, hrd6.below hb7 (by omega), by omega, old_below hold6 hb7⟩
            case measure => simp [intOf]; omega
      · have hlt2d : decide ((k : Int) < (ys.length : Int)) = false := decide_eq_false (by omega)
        clear hatx haty hcl
        go_wp2_with fail
        refine wp_region_quiet_tail 24 (by kernel_rfl) (by kernel_rfl) ?_
        simp only [List.take_succ_cons, List.take_zero, List.drop_succ_cons, List.drop_zero]
        repeat (go_big_quiet_step (fail))
        refine wpQuiet_nil ?_
        intro _ hw'
        obtain ⟨nq, rfl⟩ := hw'
        go_wp2_with fail
        refine (pick_c R c' q A' bs' 12 _ (hrd.drewN nq) (by omega) (by omega) hbl).mono ?_
        rintro e w6 ⟨⟨z, rfl, hz⟩, hrd6, hon6⟩
        have hown6 := (hown.drewN nq).only' hon6 (by omega)
        have hold6 : w2.grownBy w6 (some R) := old_only (old_drew hold) hon6
        have hsz6 := hold6.size
        clear hz hon6
        by_cases h0 : z = 0
        · subst h0
          go_wp2_with (at_builtin; refine wpList_push_int _ rfl (.tmp 64) (.tmp 66) rfl ints w2.heap.size _ ms 1 _ 1 rfl rfl hown6 hsz6 (by omega) ?_; intro v7 w7 hown7 hb7 hg7 hat7 hk7 hlt7)
          go_roundw
          case rel => exact ⟨k + 1, _, q + 1, by omega, by go_num, hown7, by show _ = _; simp; exact hlen.out, hrd6.below hb7 (by omega), by omega, old_below hold6 hb7⟩
          case measure => simp [intOf]; omega
        · have hb0 : (z == 0) = false := beq_eq_false_iff_ne.2 h0
          go_wp2_with (at_builtin; refine wpList_push_int _ rfl (.tmp 64) (.tmp 66) rfl ints w2.heap.size _ ms 0 _ 1 rfl rfl hown6 hsz6 (by omega) ?_; intro v7 w7 hown7 hb7 hg7 hat7 hk7 hlt7)
          go_roundw
          case rel => exact ⟨k + 1, _, q + 1, by omega, by go_num, hown7, by show _ = _; simp; exact hlen.out, hrd6.below hb7 (by omega), by omega, old_below hold6 hb7⟩
          case measure => simp [intOf]; omega
    · obtain rfl : k = xs.length := by omega
      clear hatx haty
      go_wp2_with fail
      refine (pick_c R c' q A' bs' 30 _ hrd (by omega) (by omega) hbl).mono ?_
      rintro e w6 ⟨⟨z, rfl, hz⟩, hrd6, hon6⟩
      have hown6 := hown.only' hon6 (by omega)
      have hold6 := old_only hold hon6
      have hsz6 := hold6.size
      have hbel6 : Below w.heap.size w w6 := hbw2.trans (old_belowR hold6 (by omega) hR)
      have hslx6 := hsx2.grown hold6 (by omega)
      have hsly6 := hsy2.grown hold6 (by omega)
      clear hz hon6
      by_cases h0 : z = 0
      · subst h0
        go_wp2_with (at_builtin; refine wpList_push_int _ rfl (.tmp 71) (.tmp 72) rfl ints w2.heap.size _ ms 1 _ 1 rfl rfl hown6 hsz6 (by omega) ?_; intro v7 w7 hown7 hb7 hg7 hat7 hk7 hlt7)
        have hb7' := hbel6.trans (hb7.mono (by omega))
        go_ret3
        exact ⟨_, xs, _, ys, _, _, rfl, (hsx2.grown (old_below hold6 hb7) (by omega)).low (by omega), (hsy2.grown (old_below hold6 hb7) (by omega)).low (by omega), hown7.sl.low (by omega), hb7'⟩
      · have hb0 : (z == 0) = false := beq_eq_false_iff_ne.2 h0
        go_wp2_with fail
        go_ret3
        exact ⟨_, xs, _, ys, _, _, rfl, hslx6.low (by omega), hsly6.low (by omega), hown6.sl.low (by omega), hbel6⟩
end Go.Proofs.Ytcmjmnlccempfaa
