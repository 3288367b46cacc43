/-
  Contracts: the distances that the statements draw.
-/
import Derived.Test.YtncglgkpgbhejaaSmallLaw
import Derived.Test.YtncglgkpgbhejaaDraw
import Derived.Deep.RegionHeld3
namespace Go.Proofs.Ytncglgkpgbhejaa
open Go.RowKit

theorem old_trans {R : Option Nat} {a b c : World} (h : a.grownBy b R) (k : b.grownBy c R) : a.grownBy c R :=
  ⟨k.os.trans h.os, k.tape.trans h.tape, k.output.trans h.output, Nat.le_trans h.size k.size, fun i hi hne => (k.block i (Nat.lt_of_lt_of_le hi h.size) hne).trans (h.block i hi hne)⟩
theorem old_set {R : Option Nat} {a w : World} (h : a.grownBy w R) {p : Addr} (hp : a.heap.size ≤ p.block) (u : Value) : a.grownBy (w.setCell p u) R :=
  ⟨h.os, h.tape, h.output, by simpa [World.setCell] using h.size, fun k hk hne => (Below.heap_setCell _ _ _ _ (by omega)).trans (h.block k hk hne)⟩
theorem MxW.only {w w' : World} {R B n g : Nat} {bl cp : Nat → Nat} {M : List (List Int)} (h : MxW w B n g bl cp M) (ho : Only R w w') (hR : R < B) : MxW w' B n g bl cp M := by
  have hs := ho.size
  refine ⟨h.sq, ⟨h.hg.1, by rw [hs]; exact h.hg.2⟩, fun i hi => ?_, h.cap, fun i hi => by rw [hs]; exact h.blk i hi, h.inj, fun i k hi hk => ?_, fun i k hi hk => ?_⟩
  · exact (World.cell?_of_block (ho.block g (by have := h.hg; omega))).trans (h.outer i hi)
  · exact (World.cell?_of_block (ho.block (bl i) (by have := (h.blk i hi).1; omega))).trans (h.cells i k hi hk)
  · exact (World.frozen?_of_block (ho.block (bl i) (by have := (h.blk i hi).1; omega))).trans (h.free i k hi hk)
theorem OwnV.only {R B e : Nat} {w w' : World} {v : Value} {vs : List Value} (h : OwnV w B e v vs) (ho : Only R w w') (hR : R < B) : OwnV w' B e v vs := by
  obtain ⟨hl, h0 | ⟨g, cap, cur, hv, hB, hg, hr⟩⟩ := id h
  · exact ⟨hl, .inl h0⟩
  · exact ⟨hl, .inr ⟨g, cap, cur, hv, hB, (ho.block g (by omega)).trans hg, hr⟩⟩
/-- Rows that stay as long as the blocks from B on stay. -/
def RdG (w : World) (B : Nat) (v : Value) (M : List (List Int)) : Prop := ∀ w'' : World, w.heap.size ≤ w''.heap.size → (∀ g, B ≤ g → g < w.heap.size → w''.heap[g]? = w.heap[g]?) → RdSS w'' v M
theorem RdG.rd {w : World} {B : Nat} {v : Value} {M : List (List Int)} (h : RdG w B v M) : RdSS w v M := h w (Nat.le_refl _) fun _ _ _ => rfl
theorem MxW.rdG {w : World} {B n g c : Nat} {bl cp : Nat → Nat} {M : List (List Int)} (h : MxW w B n g bl cp M) (hc : n ≤ c) (hc2 : c ≤ 9223372036854775807) : RdG w B (.slice (some ⟨g, 0, none⟩) n c) M := fun w'' hs hk =>
  MxW.rd (R := B) (bl := bl) (cp := cp) ⟨h.sq, ⟨h.hg.1, Nat.lt_of_lt_of_le h.hg.2 hs⟩, fun i hi => (World.cell?_of_block (hk g h.hg.1 h.hg.2)).trans (h.outer i hi), h.cap, fun i hi => ⟨(h.blk i hi).1, Nat.lt_of_lt_of_le (h.blk i hi).2.1 hs, (h.blk i hi).2.2⟩, h.inj,
    fun i k hi hk2 => (World.cell?_of_block (hk (bl i) (h.blk i hi).1 (h.blk i hi).2.1)).trans (h.cells i k hi hk2), fun i k hi hk2 => (World.frozen?_of_block (hk (bl i) (h.blk i hi).1 (h.blk i hi).2.1)).trans (h.free i k hi hk2)⟩ hc hc2
def zeroM (n : Nat) : List (List Int) := List.replicate n (List.replicate n 0)
theorem zeroM_row {n j : Nat} (hj : j < n) : rw_ (zeroM n) j = List.replicate n 0 := by simp [rw_, zeroM, List.getD, hj]
theorem zeroM_sq (n : Nat) : Sq n (zeroM n) := ⟨by simp [zeroM], fun i hi => by rw [zeroM_row hi]; simp⟩

set_option maxHeartbeats 8000000 in
theorem someGaps_c (R c p : Nat) (A : Option Addr) (bs : List Int) (w : World) (h : Rdr w R A c bs p) (hp : p ≤ 1000) (hbl : bs.length ≤ 2000) :
    Calls Try.prog 41 #[.pointer (some ⟨R, 0, none⟩)] w fun e w' => ∃ v M p', e = .returned v ∧ RdG w' w.heap.size v M ∧ Rdr w' R A c bs p' ∧ p' ≤ p + 200 ∧ w.grownBy w' (some R) := by
  have hR := blk_lt h.blk
  go_enter Try.func41, Try.ntmps41
  go_wp2_with fail
  refine (one_c R c p A bs [4, 5, 3, 6, 2, 1] _ _ (h.alloc _) (by omega) hbl (lit_sl _ rfl (by simp) rfl (by simp) (by omega)) (by simp)).mono ?_
  rintro e w1 ⟨⟨x, hx, rfl⟩, hrd1, hon1⟩
  have hx' : 1 ≤ x ∧ x ≤ 6 := by simp at hx; omega
  clear hx
  obtain ⟨N, rfl⟩ := Int.eq_ofNat_of_zero_le (show 0 ≤ x by omega)
  have hN1 : 1 ≤ N := by omega
  have hN6 : N ≤ 6 := by omega
  have hold1 : w.grownBy w1 (some R) := old_only (old_alloc (old_refl w _) _) hon1
  have hs1 := hold1.size
  obtain ⟨W1, hW1, hown1, hrdW, holdW⟩ : ∃ W, w1.alloc (.cells #[] 28) = W ∧ OwnV W w.heap.size 28 (.slice (some ⟨w1.heap.size, 0, none⟩) 0 0) [] ∧ Rdr W R A c bs (p + 1) ∧ w.grownBy W (some R) := ⟨_, rfl, lit_ownV rfl hs1, hrd1.alloc _, old_alloc hold1 _⟩
  clear hx'
  go_wp2_with fail
  clear hW1
  go_loopw [4, 5] (fun out i wr => ∃ (k : Nat) (us : List Value) (bl cp : Nat → Nat), k ≤ N ∧ i = .int .i64 k ∧ OwnV wr w.heap.size 28 out us ∧ Hid (RwK wr w.heap.size out us bl cp (zeroM N) N k) ∧ Rdr wr R A c bs (p + 1) ∧ w.grownBy wr (some R)) (fun _ i _ => N - (intOf i).toNat)
  case atStart => exact ⟨0, [], fun _ => 0, fun _ => 0, by omega, rfl, hown1, RwK.start _ _ _ _ _ _ _, hrdW, holdW⟩
  case round =>
    clear hown1 hrdW holdW hrd1 hold1 hon1
    obtain ⟨k, us, bl, cp, hk, rfl, hown, hrw, hrd, hold⟩ := hrel
    have hsz := hold.size
    by_cases hlt : k < N
    · have ik : (k : Int) < (N : Int) := by omega
      have hul : us.length ≤ 1000 := by have := hrw.out.1; omega
      go_wp2_with (first | (at_make; refine wpList_make_ints _ rfl (.tmp 20) (.tmp 20) rfl ints N rfl rfl (by omega) ?_; intro w7 hown7 hbel7 hlt7; have hownr := hown.below hbel7; have hsz7 : w.heap.size ≤ w7.heap.size := by omega) | (at_builtin; refine wpList_push_val _ rfl (.tmp 19) (.tmp 22) rfl rows (by omega) w.heap.size _ us _ rfl _ 1 rfl rfl hownr hsz7 (by omega) ?_; intro v8 w8 hown8 hb8 hg8 hat8 hlt8))
      have HNX := hide (hrw.out.push (fun q hq => (World.ownsRow.lt hown q hq).2) hbel7 (by rw [zeroM_row hlt]; exact hown7.low hsz) (Nat.le_refl _) hg8 hat8)
      go_roundw
      case rel => exact ⟨k + 1, _, _, _, by omega, by go_num, hown8, HNX.out, (hrd.below hbel7 (by omega)).below hb8 hR, old_below (old_below hold (hbel7.mono hsz)) hb8⟩
      case measure => simp [intOf]; omega
    · obtain rfl : N = k := by omega
      obtain ⟨Ag, cg, rfl, hc1, hc2, hg⟩ := hown.shape
      obtain ⟨g, rfl, _, _, _⟩ := hg (by have := hrw.out.1; omega)
      rw [hrw.out.1] at hown hc1 hrw ⊢
      have hmx := hrw.out.mx hown (zeroM_sq N)
      obtain ⟨B, hB⟩ : ∃ B, w.heap.size = B := ⟨_, rfl⟩
      rw [hB] at hmx hsz hR
      have HB := hide hB
      clear hrw hown hB
      go_wp2_with fail
      refine (one_c R c (p + 1) A bs [5, 12, 40, 2] _ _ (hrd.alloc _) (by omega) hbl (lit_sl _ rfl (by simp) rfl (by simp) (by omega)) (by simp)).mono ?_
      rintro e w2 ⟨⟨m, hm, rfl⟩, hrd2, hon2⟩
      have hm' : 2 ≤ m ∧ m ≤ 40 := by simp at hm; omega
      clear hm
      have hmx2 := hide ((hmx.below ((Below.refl _ _).alloc (Nat.le_refl _) _)).only hon2 hR)
      have hold2 : w.grownBy w2 (some R) := old_only (old_alloc hold _) hon2
      clear hmx hon2 hrd hold
      go_wp2_with fail
      go_loopw [7] (fun i wr => ∃ (a q : Nat) (M : List (List Int)), a ≤ N ∧ i = .int .i64 a ∧ Hid (MxW wr B N g bl cp M) ∧ Rdr wr R A c bs q ∧ q ≤ p + 2 + 7 * a ∧ w.grownBy wr (some R)) (fun i _ => N - (intOf i).toNat)
      case atStart => exact ⟨0, p + 1 + 1, zeroM N, by omega, rfl, hmx2, hrd2, by omega, hold2⟩
      case round =>
        rename World => wa
        clear hmx2 hrd2 hold2
        obtain ⟨a, q, M, ha, rfl, hmx, hrd, hq, hold⟩ := hrel
        by_cases hal : a < N
        · have ia : (a : Int) < (N : Int) := by omega
          go_wp2_with fail
          go_loopw [8] (fun i wr => ∃ (b q : Nat) (M : List (List Int)), b ≤ a ∧ i = .int .i64 b ∧ Hid (MxW wr B N g bl cp M) ∧ Rdr wr R A c bs q ∧ q ≤ p + 2 + 7 * a + b ∧ w.grownBy wr (some R)) (fun i _ => a - (intOf i).toNat)
          case atStart => exact ⟨0, q, M, by omega, rfl, hmx, hrd, by omega, hold⟩
          case round =>
            rename World => wb
            clear hmx hrd hold hq
            obtain ⟨b, q, M, hb, rfl, hmx, hrd, hq, hold⟩ := hrel
            by_cases hbl2 : b < a
            · have ib : (b : Int) < (a : Int) := by omega
              have ib2 : (b : Int) < (N : Int) := by omega
              have hbN : b < N := by omega
              go_wp2_with fail
              refine (pick_c R c q A bs m _ hrd (by omega) (by omega) hbl).mono ?_
              rintro e w3 ⟨⟨x, rfl, hx⟩, hrd3, hon3⟩
              have hx' : 0 ≤ x ∧ x < m := hx.2 (by omega)
              have e1 : IntKind.i64.wrap (1 + x) = 1 + x := IntWalk.i64_in _ (by omega)
              have hmx3 := hmx.out.only hon3 hR
              have hold3 := old_only hold hon3
              have o1 := hmx3.outer a hal
              have c1 := hmx3.cells a b hal hbN
              have f1 := hmx3.free a b hal hbN
              obtain ⟨Z1, hZ1, hmz1⟩ : ∃ Z, w3.setCell ⟨bl a, b, none⟩ (.int .i64 (1 + x)) = Z ∧ MxW Z B N g bl cp (setM M a b (1 + x)) := ⟨_, rfl, hmx3.set hal hbN _⟩
              have o2 := hmz1.outer b hbN
              have c2 := hmz1.cells b a hbN hal
              have f2 := hmz1.free b a hbN hal
              obtain ⟨Z2, hZ2, hmz2⟩ : ∃ Z, Z1.setCell ⟨bl b, a, none⟩ (.int .i64 (1 + x)) = Z ∧ MxW Z B N g bl cp (setM (setM M a b (1 + x)) b a (1 + x)) := ⟨_, rfl, hmz1.set hbN hal _⟩
              have hba := (hmx3.blk a hal).1
              have hbb := (hmx3.blk b hbN).1
              have HR2 : Hid (Rdr Z2 R A c bs (q + 1)) := by
                show Rdr _ _ _ _ _ _
                rw [← hZ2, ← hZ1]
                exact (hrd3.below ((Below.refl B _).setCell hba _) hR).below ((Below.refl B _).setCell hbb _) hR
              have HO2 : Hid (w.grownBy Z2 (some R)) := by
                show World.grownBy _ _ _
                rw [← hZ2, ← hZ1]
                exact old_set (old_set hold3 (by rw [HB.out]; exact hba) _) (by rw [HB.out]; exact hbb) _
              have HM2 := hide hmz2
              obtain ⟨y, hy⟩ : ∃ y, gp M a b = y := ⟨_, rfl⟩
              obtain ⟨z, hz⟩ : ∃ y, gp (setM M a b (1 + x)) b a = y := ⟨_, rfl⟩
              rw [hy] at c1
              rw [hz] at c2
              clear hmz1 hmz2 hx hmx3 hy hz
              go_wp2_with fail
              clear hZ1 hZ2 e1
              go_roundw
              case rel => exact ⟨b + 1, q + 1, _, by omega, by go_num, HM2.out, HR2.out, by omega, HO2.out⟩
              case measure => simp [intOf]; omega
            · obtain rfl : a = b := by omega
              go_wp2_with fail
              go_roundw
              case rel => exact ⟨a + 1, q, M, by omega, by go_num, hmx, hrd, by omega, hold⟩
              case measure => simp [intOf]; omega
        · obtain rfl : N = a := by omega
          go_wp2_with fail
          refine (pick_c R c q A bs 4 _ hrd (by omega) (by omega) hbl).mono ?_
          rintro e w4 ⟨⟨x, rfl, hx⟩, hrd4, hon4⟩
          have hmx4 := hide (hmx.out.only hon4 hR)
          have hold4 := old_only hold hon4
          have HPB : Hid (q + 2 ≤ p + 60) := by show _ ≤ _; omega
          clear hx hmx hrd hold hon4
          by_cases hx0 : x = 0
          · subst hx0
            have hrdM := hmx4.out.rd hc1 hc2
            have hsqM := hmx4.out.sq
            go_wp2_with fail
            refine (smallWays_c _ M N _ hrdM hsqM hN1 hN6).mono ?_
            rintro e w5 ⟨g', c', bl', cp', rfl, ⟨hc1', hc2'⟩, hmx5, hb5⟩
            have hs4 := hold4.size
            rw [HB.out] at hs4
            have hrd5 := hrd4.below hb5 (by omega)
            have hmx5 := hide (hmx5.low hs4)
            have hold5 : w.grownBy w5 (some R) := old_below hold4 (hb5.mono (by rw [HB.out]; exact hs4))
            clear hrdM hsqM hmx4 hrd4 hold4 hb5
            obtain ⟨MM, hMM⟩ : ∃ MM, fwC N M N = MM := ⟨_, rfl⟩
            rw [hMM] at hmx5
            clear hMM
            go_wp2_with fail
            refine (pick_c R c (q + 1) A bs 30 _ hrd5 (by have := HPB.out; omega) (by omega) hbl).mono ?_
            rintro e w6 ⟨⟨y, rfl, hy⟩, hrd6, hon6⟩
            have hmx6 := hide (hmx5.out.only hon6 hR)
            have hold6 := old_only hold5 hon6
            clear hy
            by_cases hy0 : y = 0
            · subst hy0
              have o1 := hmx6.out.outer 0 hN1
              have c1 := hmx6.out.cells 0 0 hN1 hN1
              have f1 := hmx6.out.free 0 0 hN1 hN1
              have b1 := (hmx6.out.blk 0 hN1).1
              have i0 : (0 : Int) < (N : Int) := by omega
              have HR6 : Hid (Rdr (w6.setCell ⟨bl' 0, 0, none⟩ (.int .i64 1)) R A c bs (q + 1 + 1)) := hrd6.below ((Below.refl B _).setCell b1 _) hR
              have HO6 : Hid (w.grownBy (w6.setCell ⟨bl' 0, 0, none⟩ (.int .i64 1)) (some R)) := old_set hold6 (by rw [HB.out]; exact b1) _
              have HS6 := hide ((hmx6.out.set hN1 hN1 1).rdG hc1' hc2')
              obtain ⟨z, hz⟩ : ∃ z, gp MM 0 0 = z := ⟨_, rfl⟩
              rw [hz] at c1
              clear hz
              go_wp2_with fail
              go_ret
              exact ⟨_, _, q + 1 + 1, rfl, by rw [HB.out]; exact HS6.out, HR6.out, by have := HPB.out; omega, HO6.out⟩
            have hyb0 : (y == 0) = false := beq_eq_false_iff_ne.2 hy0
            by_cases hy1 : y = 1
            · subst hy1
              obtain ⟨K, hK⟩ : ∃ K, N = K + 1 := ⟨N - 1, by omega⟩
              have hNl : K < N := by omega
              have hN0 : 0 < N := by omega
              have i00 : (0 : Int) < (N : Int) := by omega
              have o1 := hmx6.out.outer K hNl
              have i1 : (K : Int) < (N : Int) := by omega
              have e3 : (N : Int) - 1 = K := by omega
              have e1 : IntKind.i64.wrap (K : Int) = K := IntWalk.i64_in _ (by omega)
              have hmxL := hide ((hmx6.out.below ((Below.refl _ _).alloc (Nat.le_refl _) (.cells #[.int .i64 0, .int .i64 41] 3))).drewN 1)
              have o2 := hmxL.out.outer K hNl
              have hrdL : Rdr (w6.alloc (.cells #[.int .i64 0, .int .i64 41] 3)).drew R A c bs (q + 1 + 1) := (hrd6.alloc _).drewN 1
              have hslL : Sl (w6.alloc (.cells #[.int .i64 0, .int .i64 41] 3)).drew (R + 1) (.slice (some ⟨w6.heap.size, 0, none⟩) 2 2) [0, 41] := Sl.drew (lit_sl [0, 41] rfl rfl rfl (by simp) (by have := hold6.size; have := HB.out; omega))
              clear hK
              go_wp2_with fail
              go_region_held3 (fun wz => wz.cell? ⟨g', K, none⟩ = some (.slice (some ⟨bl' K, 0, none⟩) N (cp' K)))
                (first | exact o1 | exact o2 | exact (hmxL.out.only (by assumption) hR).outer K hNl | exact ((hmxL.out.only (by assumption) hR).set hNl hN0 _).outer K hNl)
                (first | (go_at_call 43; with_reducible refine (one_c R c (q + 1 + 1) A bs [0, 41] _ _ hrdL (by have := HPB.out; omega) hbl hslL (by simp)).mono ?_; rintro e w7 ⟨⟨z, hz, rfl⟩, hrd7, hon7⟩; clear hz; have c7 := (hmxL.out.only hon7 hR).cells K 0 hNl hN0; have f7 := (hmxL.out.only hon7 hR).free K 0 hNl hN0; have HM7 := hide (hmxL.out.only hon7 hR); obtain ⟨z2, hz2⟩ : ∃ z, gp MM K 0 = z := ⟨_, rfl⟩; rw [hz2] at c7))
              have b7 := (HM7.out.blk K hNl).1
              have HS7 := hide ((HM7.out.set hNl hN0 z).rdG hc1' hc2')
              have HR7 : Hid (Rdr (w7.setCell ⟨bl' K, 0, none⟩ (.int .i64 z)) R A c bs (q + 1 + 1 + 1)) := hrd7.below ((Below.refl B _).setCell b7 _) hR
              have HO7 : Hid (w.grownBy (w7.setCell ⟨bl' K, 0, none⟩ (.int .i64 z)) (some R)) := old_set (old_only (old_alloc hold6 (.cells #[.int .i64 0, .int .i64 41] 3)) (show Only R (w6.alloc (.cells #[.int .i64 0, .int .i64 41] 3)) w7 from ⟨hon7.os, hon7.tape, hon7.output, hon7.size, hon7.block⟩)) (by rw [HB.out]; exact b7) _
              go_wp2_with fail
              go_ret
              exact ⟨_, _, q + 1 + 1 + 1, rfl, by rw [HB.out]; exact HS7.out, HR7.out, by have := HPB.out; omega, HO7.out⟩
            have hyb1 : (y == 1) = false := beq_eq_false_iff_ne.2 hy1
            by_cases hy2 : y = 2
            · subst hy2
              go_wp2_with fail
              go_ret
              exact ⟨_, [], q + 1 + 1, rfl, fun w'' _ _ => ⟨_, 0, rfl, by simp, by simp, fun hp => absurd hp (by simp)⟩, hrd6.alloc _, by have := HPB.out; omega, old_alloc hold6 _⟩
            have hyb2 : (y == 2) = false := beq_eq_false_iff_ne.2 hy2
            clear hy0 hy1 hy2
            have HS6 := hide (hmx6.out.rdG hc1' hc2')
            go_wp2_with fail
            go_ret
            exact ⟨_, _, q + 1 + 1, rfl, by rw [HB.out]; exact HS6.out, hrd6, by have := HPB.out; omega, hold6⟩
          · have hxb : (x == 0) = false := beq_eq_false_iff_ne.2 hx0
            clear hx0
            obtain ⟨MM, hMM⟩ : ∃ MM, M = MM := ⟨_, rfl⟩
            rw [hMM] at hmx4
            clear hMM
            go_wp2_with fail
            refine (pick_c R c (q + 1) A bs 30 _ hrd4 (by have := HPB.out; omega) (by omega) hbl).mono ?_
            rintro e w6 ⟨⟨y, rfl, hy⟩, hrd6, hon6⟩
            have hmx6 := hide (hmx4.out.only hon6 hR)
            have hold6 := old_only hold4 hon6
            clear hy
            by_cases hy0 : y = 0
            · subst hy0
              have o1 := hmx6.out.outer 0 hN1
              have c1 := hmx6.out.cells 0 0 hN1 hN1
              have f1 := hmx6.out.free 0 0 hN1 hN1
              have b1 := (hmx6.out.blk 0 hN1).1
              have i0 : (0 : Int) < (N : Int) := by omega
              have HR6 : Hid (Rdr (w6.setCell ⟨bl 0, 0, none⟩ (.int .i64 1)) R A c bs (q + 1 + 1)) := hrd6.below ((Below.refl B _).setCell b1 _) hR
              have HO6 : Hid (w.grownBy (w6.setCell ⟨bl 0, 0, none⟩ (.int .i64 1)) (some R)) := old_set hold6 (by rw [HB.out]; exact b1) _
              have HS6 := hide ((hmx6.out.set hN1 hN1 1).rdG hc1 hc2)
              obtain ⟨z, hz⟩ : ∃ z, gp MM 0 0 = z := ⟨_, rfl⟩
              rw [hz] at c1
              clear hz
              go_wp2_with fail
              go_ret
              exact ⟨_, _, q + 1 + 1, rfl, by rw [HB.out]; exact HS6.out, HR6.out, by have := HPB.out; omega, HO6.out⟩
            have hyb0 : (y == 0) = false := beq_eq_false_iff_ne.2 hy0
            by_cases hy1 : y = 1
            · subst hy1
              obtain ⟨K, hK⟩ : ∃ K, N = K + 1 := ⟨N - 1, by omega⟩
              have hNl : K < N := by omega
              have hN0 : 0 < N := by omega
              have i00 : (0 : Int) < (N : Int) := by omega
              have o1 := hmx6.out.outer K hNl
              have i1 : (K : Int) < (N : Int) := by omega
              have e3 : (N : Int) - 1 = K := by omega
              have e1 : IntKind.i64.wrap (K : Int) = K := IntWalk.i64_in _ (by omega)
              have hmxL := hide ((hmx6.out.below ((Below.refl _ _).alloc (Nat.le_refl _) (.cells #[.int .i64 0, .int .i64 41] 3))).drewN 1)
              have o2 := hmxL.out.outer K hNl
              have hrdL : Rdr (w6.alloc (.cells #[.int .i64 0, .int .i64 41] 3)).drew R A c bs (q + 1 + 1) := (hrd6.alloc _).drewN 1
              have hslL : Sl (w6.alloc (.cells #[.int .i64 0, .int .i64 41] 3)).drew (R + 1) (.slice (some ⟨w6.heap.size, 0, none⟩) 2 2) [0, 41] := Sl.drew (lit_sl [0, 41] rfl rfl rfl (by simp) (by have := hold6.size; have := HB.out; omega))
              clear hK
              go_wp2_with fail
              go_region_held3 (fun wz => wz.cell? ⟨g, K, none⟩ = some (.slice (some ⟨bl K, 0, none⟩) N (cp K)))
                (first | exact o1 | exact o2 | exact (hmxL.out.only (by assumption) hR).outer K hNl | exact ((hmxL.out.only (by assumption) hR).set hNl hN0 _).outer K hNl)
                (first | (go_at_call 43; with_reducible refine (one_c R c (q + 1 + 1) A bs [0, 41] _ _ hrdL (by have := HPB.out; omega) hbl hslL (by simp)).mono ?_; rintro e w7 ⟨⟨z, hz, rfl⟩, hrd7, hon7⟩; clear hz; have c7 := (hmxL.out.only hon7 hR).cells K 0 hNl hN0; have f7 := (hmxL.out.only hon7 hR).free K 0 hNl hN0; have HM7 := hide (hmxL.out.only hon7 hR); obtain ⟨z2, hz2⟩ : ∃ z, gp MM K 0 = z := ⟨_, rfl⟩; rw [hz2] at c7))
              have b7 := (HM7.out.blk K hNl).1
              have HS7 := hide ((HM7.out.set hNl hN0 z).rdG hc1 hc2)
              have HR7 : Hid (Rdr (w7.setCell ⟨bl K, 0, none⟩ (.int .i64 z)) R A c bs (q + 1 + 1 + 1)) := hrd7.below ((Below.refl B _).setCell b7 _) hR
              have HO7 : Hid (w.grownBy (w7.setCell ⟨bl K, 0, none⟩ (.int .i64 z)) (some R)) := old_set (old_only (old_alloc hold6 (.cells #[.int .i64 0, .int .i64 41] 3)) (show Only R (w6.alloc (.cells #[.int .i64 0, .int .i64 41] 3)) w7 from ⟨hon7.os, hon7.tape, hon7.output, hon7.size, hon7.block⟩)) (by rw [HB.out]; exact b7) _
              go_wp2_with fail
              go_ret
              exact ⟨_, _, q + 1 + 1 + 1, rfl, by rw [HB.out]; exact HS7.out, HR7.out, by have := HPB.out; omega, HO7.out⟩
            have hyb1 : (y == 1) = false := beq_eq_false_iff_ne.2 hy1
            by_cases hy2 : y = 2
            · subst hy2
              go_wp2_with fail
              go_ret
              exact ⟨_, [], q + 1 + 1, rfl, fun w'' _ _ => ⟨_, 0, rfl, by simp, by simp, fun hp => absurd hp (by simp)⟩, hrd6.alloc _, by have := HPB.out; omega, old_alloc hold6 _⟩
            have hyb2 : (y == 2) = false := beq_eq_false_iff_ne.2 hy2
            clear hy0 hy1 hy2
            have HS6 := hide (hmx6.out.rdG hc1 hc2)
            go_wp2_with fail
            go_ret
            exact ⟨_, _, q + 1 + 1, rfl, by rw [HB.out]; exact HS6.out, hrd6, by have := HPB.out; omega, hold6⟩
end Go.Proofs.Ytncglgkpgbhejaa
