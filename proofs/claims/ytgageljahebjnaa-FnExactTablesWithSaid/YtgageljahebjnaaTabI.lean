
/-
  Contracts: tables of the program.
-/
import Derived.Test.YtgageljahebjnaaTabR
namespace Go.Proofs.Ytgageljahebjnaa
open Go.RowKit

/-- The contract of tables at the rows rs. -/
def TabC (rs : List Int) : Prop := ∀ (cols : List Int) (u v : Value) (w : World), Rd w u rs → Rd w v cols → allB 0 6 cols = true → 1 ≤ cols.length → cols.length ≤ 3 →
  Calls Try.prog 46 #[u, v] w fun e w' => e = .returned (.tuple #[.int .i64 (tabL rs cols).1, .int .i64 (tabL rs cols).2]) ∧ Below w.heap.size w w'

set_option maxHeartbeats 4000000 in
theorem tables1_c {r : Int} {rs cols row : List Int} (hr6 : 0 ≤ r ∧ r ≤ 6) (ha : allB 0 6 cols = true) (hl1 : 1 ≤ cols.length) (hl3 : cols.length ≤ 3) (IH : TabC rs) (hfit : FitR row cols)
    (u vr vc : Value) (B2 B3 B6 B7 : Nat) (mn wy : Int) (W : World) (hu : RowV W u row) (hr : Rd W vr (r :: rs)) (hc : Rd W vc cols) (c2 : W.cell? ⟨B2, 0, none⟩ = some vr) (c3 : W.cell? ⟨B3, 0, none⟩ = some vc)
    (l2 : B2 < W.heap.size) (h6 : W.heap[B6]? = some (.cells #[.int .i64 mn] 3 (0, 0))) (h7 : W.heap[B7]? = some (.cells #[.int .i64 wy] 3 (0, 0))) (h67 : B6 ≠ B7)
    (bmn : 0 ≤ mn ∧ mn ≤ 100000000000000000) (bwy : 0 ≤ wy ∧ wy ≤ 100000000000000000) (ba : 0 ≤ (tabL rs (leftL cols row)).1 ∧ (tabL rs (leftL cols row)).1 ≤ 100000000000000000)
    (bb : 0 ≤ hereF (fac r.toNat) row * (tabL rs (leftL cols row)).2 ∧ hereF (fac r.toNat) row * (tabL rs (leftL cols row)).2 ≤ 100000000000000000) (bz : 0 ≤ (tabL rs (leftL cols row)).2) :
    Calls Try.prog 68 #[u, .pointer (some ⟨B3, 0, none⟩), .pointer (some ⟨B2, 0, none⟩), .pointer (some ⟨B6, 0, none⟩), .pointer (some ⟨B7, 0, none⟩)] W fun e w' => e = .returned (.tuple #[]) ∧
      w'.heap[B6]? = some (.cells #[.int .i64 (mn + (tabL rs (leftL cols row)).1)] 3 (0, 0)) ∧ w'.heap[B7]? = some (.cells #[.int .i64 (wy + hereF (fac r.toNat) row * (tabL rs (leftL cols row)).2)] 3 (0, 0)) ∧ Kept (fun g => g = B6 ∨ g = B7) W w' := by
  obtain ⟨n, hn⟩ : ∃ n, cols.length = n := ⟨_, rfl⟩
  have hrl : row.length = n := by rw [hfit.len, hn]
  have HF := hide hfit
  have HROW6 := hide (fit_row6 hfit ha)
  have KCl := hide (Clone_c vc cols W hc (by omega) (by omega))
  have HLL := hide (And.intro (leftL_len hfit) (leftL_ok hfit ha))
  have hrd := hu.rd
  obtain ⟨Au, cu, rfl, hcu, hmu, hcellu⟩ := hrd
  rw [hrl] at hcu hcellu ⊢
  obtain ⟨gu, ou, rfl, hgu, hclu⟩ := hcellu (by omega)
  have HU := hide hclu
  have HRR := hide hr
  obtain ⟨Ar, cr, rfl, hcr, hmr, hcellr⟩ := hr
  obtain ⟨gr, or_, rfl, hgr, hclr⟩ := hcellr (by simp)
  have hck := hclr 0 (by simp)
  rw [Nat.add_zero] at hck
  have hck : W.cell? ⟨gr, or_, none⟩ = some (.int .i64 r) := hck
  obtain ⟨N, hN⟩ : ∃ N, (r :: rs).length = N := ⟨_, rfl⟩
  have hN1 : N = rs.length + 1 := by rw [← hN, List.length_cons]
  rw [hN] at hcr HRR c2
  have HN1 := hide hN1
  have hi0 : (0 : Int) < (N : Int) := by omega
  obtain ⟨rn, hrn⟩ : ∃ rn : Nat, r = (rn : Int) := Int.eq_ofNat_of_zero_le hr6.1
  subst hrn
  have hfr := fac_bd (n := rn) (by omega)
  have KF := hide fun w => facI_c rn w (by omega)
  rw [Int.toNat_natCast] at bb ⊢
  have HH0 : Hid (hereF (fac rn) (row.take 0) = fac rn) := rfl
  have HHT := hide fun k (hk : k < row.length) => hereF_take (h0 := fac rn) hk
  have HHB : Hid (∀ k, 0 ≤ hereF (fac rn) (row.take k) ∧ hereF (fac rn) (row.take k) ≤ 720) := fun k => hereF_bd _ _ (by omega) hfr.2 fun v hv => HROW6.out v (List.mem_of_mem_take hv)
  have HHE : Hid (hereF (fac rn) (row.take n) = hereF (fac rn) row) := by show _ = _; rw [List.take_of_length_le (by omega)]
  have HLK0 := hide (leftK_zero cols row)
  have HLS := hide fun k (hk : k < cols.length) => leftK_set hfit hk
  have HLA := hide fun k (hk : k < cols.length) => leftK_at hfit hk
  have HLE := hide (leftK_all hfit)
  have HAT := hide fun k (hk : k < cols.length) => hfit.at k hk
  have HC6 := hide fun k (hk : k < cols.length) => allB_get ha hk
  have HCN := hide hn
  have HRL := hide hrl
  obtain ⟨a, hae⟩ : ∃ a, (tabL rs (leftL cols row)).1 = a := ⟨_, rfl⟩
  obtain ⟨b, hbe⟩ : ∃ a, (tabL rs (leftL cols row)).2 = a := ⟨_, rfl⟩
  obtain ⟨H, hHe⟩ : ∃ a, hereF (fac rn) row = a := ⟨_, rfl⟩
  have KT := hide fun (u v : Value) (w : World) (h1 : Rd w u rs) (h2 : Rd w v (leftL cols row)) => IH (leftL cols row) u v w h1 h2 HLL.out.2 (by rw [HLL.out.1]; omega) (by rw [HLL.out.1]; omega)
  rw [hae, hbe] at KT
  rw [hae] at ba ⊢
  rw [hbe] at bb bz ⊢
  have bz0 : 0 ≤ b := bz
  rw [hHe] at bb HHE ⊢
  obtain ⟨F0, hF0⟩ : ∃ f, fac rn = f := ⟨_, rfl⟩
  rw [hF0] at hfr KF HH0 HHT HHB HHE
  have H67 := hide (And.intro h6 h7)
  have l6 := blkR_lt h6
  have l7 := blkR_lt h7
  have i1 : 0 < n := by omega
  have i3 : n ≤ 3 := by omega
  clear hfit ha hc IH hu hcellu hclu hclr hcellr hN hN1 hn hrl hae hbe hHe hF0 h6 h7 hl1 hl3
  go_enter Try.func68, Try.ntmps68
  go_wp2_with fail
  refine KCl.out.mono ?_
  rintro e w1 ⟨v1, rfl, hown1, hb1⟩
  have hz1 := hb1.size
  obtain ⟨gl, cl, rfl, hgl1, hgl2, hcl1, hcl2⟩ := hown1.form (by rw [HCN.out]; exact i1)
  rw [HCN.out] at hown1 hcl1 ⊢
  have c2' := (hb1.cell (p := ⟨B2, 0, none⟩) l2).trans c2
  have hck' := (hb1.cell (p := ⟨gr, or_, none⟩) hgr).trans hck
  go_wp2_with fail
  refine (KF.out _).mono ?_
  rintro e w2 ⟨rfl, rfl⟩
  have HO1 := hide hown1
  clear hown1
  go_wp2_with fail
  go_loopw [7, 20] (fun hh i wr => ∃ k : Nat, k ≤ n ∧ i = .int .i64 k ∧ hh = .int .i64 (hereF F0 (row.take k)) ∧ Hid (Below W.heap.size W wr ∧ Own wr W.heap.size 3 (.slice (some ⟨gl, 0, none⟩) n cl) (leftK cols row k))) (fun _ i _ => n - (intOf i).toNat)
  case atStart => exact ⟨0, by omega, rfl, by rw [HH0.out], hb1, by rw [HLK0.out]; exact HO1.out⟩
  case round =>
    obtain ⟨k, hk, rfl, rfl, hwr⟩ := hrel
    have hbr := hwr.out.1
    have hzr := hbr.size
    have hkc : k < n → k < cols.length := fun h => by have := HCN.out; omega
    by_cases hkn : k < n
    · have hcu' := (hbr.cell (p := ⟨gu, ou + k, none⟩) hgu).trans (HU.out k (by have := HRL.out; omega))
      have hown := hwr.out.2
      have hlen := leftK_len HF.out (k := k) (by have := HCN.out; omega)
      have hcl' := hown.cell (j := k) (by have := HCN.out; omega)
      rw [HLA.out k (hkc hkn)] at hcl'
      have hfl := hown.frozen k
      have hset := hown.set k (cols.getD k 0 - row.getD k 0)
      rw [HLS.out k (hkc hkn)] at hset
      have hB0 := HHB.out k
      have hat := HAT.out k (hkc hkn)
      have hc6 := HC6.out k (hkc hkn)
      have hTK : Hid (hereF F0 (row.take (k + 1)) = hereF F0 (row.take k) / fac (row.getD k 0).toNat) := HHT.out k (by have := HRL.out; omega)
      have hgd : cols.getD k 0 = cols[k]'(hkc hkn) := getD_lt (hkc hkn)
      obtain ⟨vk, hvk⟩ : ∃ v, row.getD k 0 = v := ⟨_, rfl⟩
      obtain ⟨ck, hck2⟩ : ∃ v, cols.getD k 0 = v := ⟨_, rfl⟩
      rw [hvk] at hcu' hset hat hTK
      rw [hck2] at hcl' hset hat hgd
      rw [← hgd] at hc6
      obtain ⟨H0, hH0⟩ : ∃ h, hereF F0 (row.take k) = h := ⟨_, rfl⟩
      rw [hH0] at hB0 hTK ⊢
      obtain ⟨vn, hvn⟩ : ∃ vn : Nat, vk = (vn : Int) := Int.eq_ofNat_of_zero_le hat.1
      subst hvn
      have hfv := fac_bd (n := vn) (by omega)
      have KV := hide fun w => facI_c vn w (by omega)
      rw [Int.toNat_natCast] at hTK
      obtain ⟨fv, hfve⟩ : ∃ f, fac vn = f := ⟨_, rfl⟩
      rw [hfve] at hfv KV hTK
      have hdv := Int.ediv_nonneg hB0.1 (show 0 ≤ fv by omega)
      have hHS := hide hset
      have ik : (k : Int) < (n : Int) := by omega
      have hgl3 : gl < wr.heap.size := hown.lt.2
      have hgl4 : W.heap.size ≤ gl := hown.lt.1
      have HBR := hide hwr.out.1
      obtain ⟨hB1, hB2⟩ := hB0
      obtain ⟨ha1, ha2⟩ := hat
      obtain ⟨hf1, hf2⟩ := hfv
      obtain ⟨hc61, hc62⟩ := hc6
      clear hwr hown hlen hset hvk hck2 hgd hH0 hfve hkc
      go_wp2_with fail
      refine (KV.out _).mono ?_
      rintro e w3 ⟨rfl, rfl⟩
      go_wp2_with fail
      go_roundw
      case rel => exact ⟨k + 1, by omega, by go_num, by rw [hTK.out], HBR.out.setCell hgl4 _, hHS.out⟩
      case measure => simp [intOf]; omega
    · obtain rfl : k = n := by omega
      have hown := hwr.out.2
      have hLE := HLE.out
      rw [HCN.out] at hLE
      rw [hLE] at hown
      rw [HHE.out]
      have hrl2 : Rd wr (.slice (some ⟨gl, 0, none⟩) k cl) (leftL cols row) := hown.sl.rd
      have HRL2 := hide hrl2
      have c2r := (hbr.cell (p := ⟨B2, 0, none⟩) l2).trans c2
      have KSUB : Hid (∀ (A' : Option Addr) (n' c' : Nat), n' = N - 1 → c' = cr - 1 → (0 < rs.length → A' = some ⟨gr, or_ + 1, none⟩) →
          Calls Try.prog 46 #[.slice A' n' c', .slice (some ⟨gl, 0, none⟩) k cl] wr fun e w' => e = .returned (.tuple #[.int .i64 a, .int .i64 b]) ∧ Below wr.heap.size wr w') := by
        intro A' n' c' hn' hc' hA
        subst hn' hc'
        exact KT.out _ _ wr ((HRR.out.below hbr).tailR A' hA) HRL2.out
      have hm6 := (hbr.block _ l6).trans H67.out.1
      have hm7 := (hbr.block _ l7).trans H67.out.2
      have HM := hide (And.intro hm6 hm7)
      have hcrN : N ≤ cr := hcr
      clear hwr hown hLE hrl2 hm6 hm7
      go_wp2_with fail
      all_goals
        refine (KSUB.out _ _ _ (by omega) (by omega) (fun h0 => ?_)).mono ?_
        · first | rfl | (exfalso; have := HN1.out; omega)
        rintro e w3 ⟨rfl, hb3⟩
        have hz3 := hb3.size
        have h6 := (hb3.block _ (show B6 < wr.heap.size by omega)).trans HM.out.1
        have h7 := (hb3.block _ (show B7 < wr.heap.size by omega)).trans HM.out.2
        have d6 : w3.cell? ⟨B6, 0, none⟩ = some (.int .i64 mn) := blkR_cell h6 0
        have f6 : w3.frozen? ⟨B6, 0, none⟩ = false := blkR_frozen h6 0
        have h6s := blkR_set h6 0 (.int .i64 (mn + a))
        have h7s := (Below.heap_setCell w3 (⟨B6, 0, none⟩ : Addr) (.int .i64 (mn + a)) B7 (Ne.symm h67)).trans h7
        obtain ⟨X, hX⟩ : ∃ X, w3.setCell ⟨B6, 0, none⟩ (.int .i64 (mn + a)) = X := ⟨_, rfl⟩
        rw [hX] at h6s h7s
        have d7 : X.cell? ⟨B7, 0, none⟩ = some (.int .i64 wy) := blkR_cell h7s 0
        have f7 : X.frozen? ⟨B7, 0, none⟩ = false := blkR_frozen h7s 0
        have h7t := blkR_set h7s 0 (.int .i64 (wy + H * b))
        have h6t := (Below.heap_setCell X (⟨B7, 0, none⟩ : Addr) (.int .i64 (wy + H * b)) B6 h67).trans h6s
        have HFIN : Hid (Kept (fun g => g = B6 ∨ g = B7) W (X.setCell ⟨B7, 0, none⟩ (.int .i64 (wy + H * b)))) := by
          refine (Kept.of (hbr.trans (hb3.mono hzr))).trans ⟨?_, fun g hg hm => ?_⟩
          · rw [← hX]
            exact ((Below.refl _ _).setCell (Nat.zero_le _) _).setCell (Nat.zero_le _) _
          · rw [← hX]
            exact (Below.heap_setCell _ _ _ _ (fun e => hm (.inr e))).trans (Below.heap_setCell _ _ _ _ (fun e => hm (.inl e)))
        have HH := hide (And.intro h6t h7t)
        have e1 : IntKind.i64.wrap (H * b) = H * b := IntWalk.i64_in _ (by omega)
        clear h6 h7 h6s h7s h6t h7t
        go_wp2_with fail
        go_end0
        exact ⟨rfl, HH.out.1, HH.out.2, HFIN.out⟩

theorem callFuncT1 (args : Array Value) (w : World) : (callFunc 68 args).run Try.prog w = .ok (.enter 68 args) w := by kernel_rfl

set_option maxHeartbeats 1000000 in
theorem tabC_nil : TabC [] := by
  intro cols u v w hr hc ha h1 h3
  obtain ⟨A, c, rfl, hcu, hm, -⟩ := hr
  have hc' := hc
  obtain ⟨A2, c2, rfl, hc2, hm2, -⟩ := hc
  have K := hide fun w h => allIn_c (.slice A2 cols.length c2) cols 0 0 (allB 0 0 cols) w h rfl
  have HT : Hid (tabL [] cols = if allB 0 0 cols then (1, 1) else (0, 0)) := rfl
  obtain ⟨W, hW, hbW, hWs, cb⟩ : ∃ W, (w.alloc (.cells #[.slice A 0 c] 22)).alloc (.cells #[.slice A2 cols.length c2] 22) = W ∧ Below w.heap.size w W ∧ W.heap.size = w.heap.size + 1 + 1 ∧ W.cell? ⟨w.heap.size, 0, none⟩ = some (.slice A 0 c) ∧ W.cell? ⟨w.heap.size + 1, 0, none⟩ = some (.slice A2 cols.length c2) := by
    refine ⟨_, rfl, by (repeat (first | exact Below.refl _ _ | assumption | refine Below.setCell ?_ (by first | (simp; done) | omega | (simp; omega) | (simp at *; omega)) _ | refine Below.drew ?_ | refine below_drewN ?_ _ | refine below_alloc' ?_ _ | refine below_to' ?_ (by assumption))), by simp, by simp, by simp⟩
  obtain ⟨cb1, cb2⟩ := cb
  have hcW := hc'.below hbW
  obtain ⟨b, hb⟩ : ∃ b, allB 0 0 cols = b := ⟨_, rfl⟩
  rw [hb] at K HT
  rw [HT.out]
  clear hb HT hWs
  cases b
  · go_enter Try.func46, Try.ntmps46
    go_wp2_with fail
    clear hW
    refine (K.out _ hcW).mono ?_
    rintro e w2 ⟨rfl, hb2⟩
    go_wp2_with fail
    go_ret2
    exact ⟨rfl, hbW.trans (hb2.mono hbW.size)⟩
  · go_enter Try.func46, Try.ntmps46
    go_wp2_with fail
    clear hW
    refine (K.out _ hcW).mono ?_
    rintro e w2 ⟨rfl, hb2⟩
    go_wp2_with fail
    go_ret2
    exact ⟨rfl, hbW.trans (hb2.mono hbW.size)⟩

/-- What holds between two rows of tables. -/
def TabI (r : Int) (rs cols : List Int) (V : World) (B6 B7 : Nat) (D : List (List Int)) (w : World) : Prop :=
  Kept (fun g => g = B6 ∨ g = B7) V w ∧ w.heap[B6]? = some (.cells #[.int .i64 (tabA r rs cols D).1] 3 (0, 0)) ∧ w.heap[B7]? = some (.cells #[.int .i64 (tabA r rs cols D).2] 3 (0, 0))

set_option maxHeartbeats 4000000 in
theorem tabC_cons {r : Int} {rs : List Int} (hr6 : 0 ≤ r ∧ r ≤ 6) (hrs : allB 0 6 rs = true) (hl2 : rs.length ≤ 2) (IH : TabC rs) : TabC (r :: rs) := by
  intro cols u v w hr hc ha h1 h3
  have hmf : ∀ (fn : Fn) (first cap : Array Value) (w : World), (Instr.makeFunc fn first cap).run Try.prog w = .ok (.func fn first cap) w := fun _ _ _ _ => rfl
  have HR := hide hr
  have HC := hide hc
  obtain ⟨Ar, cr, rfl, hcr, hmr, hcellr⟩ := hr
  obtain ⟨gr, or_, rfl, hgr, hclr⟩ := hcellr (by simp)
  have hck := hclr 0 (by simp)
  rw [Nat.add_zero] at hck
  have hck : w.cell? ⟨gr, or_, none⟩ = some (.int .i64 r) := hck
  obtain ⟨A2, c2, rfl, hc2, hm2, -⟩ := hc
  obtain ⟨N, hN⟩ : ∃ N, (r :: rs).length = N := ⟨_, rfl⟩
  have hN1 : 1 ≤ N := by rw [← hN, List.length_cons]; omega
  rw [hN] at hcr HR ⊢
  have hN0 : ((N : Int) == 0) = false := beq_eq_false_iff_ne.2 (by omega)
  have hi0 : (0 : Int) < (N : Int) := by omega
  have HB : Hid (∀ row, FitR row cols → bdT rs.length (tabL rs (leftL cols row))) := fun row hf => tabL_bd hrs (leftL_ok hf ha) (by rw [leftL_len hf]; exact h3)
  have HP : Hid ((343 : Int) ^ rs.length ≤ 117649 ∧ (246960 : Int) ^ rs.length ≤ 60989241600) := by
    have : rs.length = 0 ∨ rs.length = 1 ∨ rs.length = 2 := by omega
    show _ ∧ _
    rcases this with h | h | h <;> rw [h] <;> decide
  have HD : Hid (∀ D, D <+: rowsL cols r → (0 ≤ (tabA r rs cols D).1 ∧ (tabA r rs cols D).1 ≤ 100000000000000000) ∧ 0 ≤ (tabA r rs cols D).2 ∧ (tabA r rs cols D).2 ≤ 100000000000000000) := fun D hD => by
    obtain ⟨⟨i1, i2⟩, i3, i4⟩ := tabA_bd hr6 ha HB.out (D := D) fun row hrow => rowsL_fit (hD.subset hrow)
    have hl : (D.length : Int) ≤ 343 := by have := hD.length_le; have := rowsL_len3 r ha h3; omega
    have p1 : (0 : Int) ≤ 343 ^ rs.length := Int.le_of_lt (Int.pow_pos (by omega))
    have p2 : (0 : Int) ≤ 720 * 246960 ^ rs.length := Int.mul_nonneg (by omega) (Int.le_of_lt (Int.pow_pos (by omega)))
    have q1 := pow_bd _ D.length p1 hl
    have q2 := pow_bd _ D.length p2 hl
    obtain ⟨x1, x2⟩ := HP.out
    omega
  have HROW : Hid (∀ row, FitR row cols → (0 ≤ (tabL rs (leftL cols row)).1 ∧ (tabL rs (leftL cols row)).1 ≤ 100000000000000000) ∧ (0 ≤ hereF (fac r.toNat) row * (tabL rs (leftL cols row)).2 ∧ hereF (fac r.toNat) row * (tabL rs (leftL cols row)).2 ≤ 100000000000000000) ∧ (0 ≤ (tabL rs (leftL cols row)).2 ∧ (tabL rs (leftL cols row)).2 ≤ 100000000000000000)) := fun row hf => by
    obtain ⟨⟨b1, b2⟩, b3, b4⟩ := HB.out row hf
    have hfr := fac_bd (n := r.toNat) (by omega)
    have hh := hereF_bd row (fac r.toNat) (by omega) hfr.2 (fit_row6 hf ha)
    have hm := mul_pos_bd (m := 720) (n := 60989241600) hh ⟨b3, by have := HP.out.2; omega⟩
    obtain ⟨x1, x2⟩ := HP.out
    omega
  obtain ⟨T, hTe⟩ : ∃ T, tabL (r :: rs) cols = T := ⟨_, rfl⟩
  have HTE : Hid (tabA r rs cols (rowsL cols r) = T) := by show _ = _; rw [← hTe]; rfl
  rw [hTe]
  clear hTe
  have HRO := hide (rowsOf_c ha h3)
  have HR6 := hide hr6
  have hvb : ∀ g, (Value.slice A2 cols.length c2).ownBlock = some g → g < w.heap.size := by
    obtain ⟨A', c', hv', _, _, h4⟩ := HC.out
    simp only [Value.slice.injEq] at hv'
    obtain ⟨rfl, -, rfl⟩ := hv'
    obtain ⟨g', off', rfl, h6', -⟩ := h4 (by omega)
    intro g hg
    simp [Value.ownBlock] at hg
    omega
  have HVB := hide hvb
  have HCC := hide (And.intro ha (And.intro h1 h3))
  have HIH := hide IH
  obtain ⟨W, hW, hbW, hWs, hbx1, hbx2⟩ : ∃ W, (w.alloc (.cells #[.slice (some ⟨gr, or_, none⟩) N cr] 22)).alloc (.cells #[.slice A2 cols.length c2] 22) = W ∧ Below w.heap.size w W ∧ W.heap.size = w.heap.size + 1 + 1 ∧ W.heap[w.heap.size]? = some (.cells #[.slice (some ⟨gr, or_, none⟩) N cr] 22 (0, 0)) ∧ W.heap[w.heap.size + 1]? = some (.cells #[.slice A2 cols.length c2] 22 (0, 0)) := by
    refine ⟨_, rfl, by (repeat (first | exact Below.refl _ _ | assumption | refine Below.setCell ?_ (by first | (simp; done) | omega | (simp; omega) | (simp at *; omega)) _ | refine Below.drew ?_ | refine below_drewN ?_ _ | refine below_alloc' ?_ _ | refine below_to' ?_ (by assumption))), by simp, ?_, ?_⟩
    · rw [Below.heap_alloc _ _ _ (by simp)]; exact heap_alloc_new w _
    · have := heap_alloc_new (w.alloc (.cells #[.slice (some ⟨gr, or_, none⟩) N cr] 22)) (.cells #[.slice A2 cols.length c2] 22)
      rw [size_alloc'] at this
      exact this
  have cbx1 : W.cell? ⟨w.heap.size, 0, none⟩ = some (.slice (some ⟨gr, or_, none⟩) N cr) := blkR_cell hbx1 0
  have hsW : w.heap.size + 1 < W.heap.size := by omega
  clear hvb hcellr hclr hr6 hrs hl2 IH ha h1 h3 hN hWs
  go_enter Try.func46, Try.ntmps46
  go_wp2_with fail
  clear hW
  obtain ⟨V, hV, hbV, hVs, h6, h7⟩ : ∃ V, (W.alloc (.cells #[.int .i64 0] 3)).alloc (.cells #[.int .i64 0] 3) = V ∧ Below W.heap.size W V ∧ V.heap.size = W.heap.size + 1 + 1 ∧ V.heap[W.heap.size]? = some (.cells #[.int .i64 0] 3 (0, 0)) ∧ V.heap[W.heap.size + 1]? = some (.cells #[.int .i64 0] 3 (0, 0)) := by
    refine ⟨_, rfl, by (repeat (first | exact Below.refl _ _ | assumption | refine Below.setCell ?_ (by first | (simp; done) | omega | (simp; omega) | (simp at *; omega)) _ | refine Below.drew ?_ | refine below_drewN ?_ _ | refine below_alloc' ?_ _ | refine below_to' ?_ (by assumption))), by simp, ?_, ?_⟩
    · rw [Below.heap_alloc _ _ _ (by simp)]; exact heap_alloc_new W _
    · have := heap_alloc_new (W.alloc (.cells #[.int .i64 0] 3)) (.cells #[.int .i64 0] 3)
      rw [size_alloc'] at this
      exact this
  rw [hV]
  clear hV cbx1
  have hbwV : Below w.heap.size w V := hbW.trans (hbV.mono hbW.size)
  have hx1V := (hbV.block _ (show w.heap.size < W.heap.size by omega)).trans hbx1
  have hx2V := (hbV.block _ (show w.heap.size + 1 < W.heap.size by omega)).trans hbx2
  have hckV := (hbwV.cell (p := ⟨gr, or_, none⟩) hgr).trans hck
  have k1 := cell_grn (Below.refl V.heap.size V) (show w.heap.size < V.heap.size by omega) (blkR_cell hx1V 0)
  have k2 := cell_grn (Below.refl V.heap.size V) (show w.heap.size + 1 < V.heap.size by omega) (blkR_cell hx2V 0)
  have k3 := cell_grn (Below.refl V.heap.size V) (show gr < V.heap.size by omega) hckV
  have k1 : ∀ d os, (Go.Sort.grow (redrawn V d) os).cell? ⟨w.heap.size, 0, none⟩ = some (.slice (some ⟨gr, or_, none⟩) N cr) := k1
  have k2 : ∀ d os, (Go.Sort.grow (redrawn V d) os).cell? ⟨w.heap.size + 1, 0, none⟩ = some (.slice A2 cols.length c2) := k2
  have HX := hide (And.intro hx1V (And.intro hx2V (And.intro h6 h7)))
  clear hbx1 hbx2 h6 h7 hx1V hx2V hckV hck
  go_wp2_with fail
  refine wp_region_below_tail 5 (by kernel_rfl) (by kernel_rfl) ?_
  simp only [List.take_succ_cons, List.take_zero, List.drop_succ_cons, List.drop_zero]
  repeat (go_big_quiet_step (fail))
  refine wpQuiet_nil ?_
  intro w3 hb3
  clear k1 k2 k3
  have hz3 := hb3.size
  have hbw3 : Below w.heap.size w w3 := hbwV.trans (hb3.mono (by omega))
  go_wp2_with fail
  refine (HRO.out 68 #[.pointer (some ⟨w.heap.size + 1, 0, none⟩), .pointer (some ⟨w.heap.size, 0, none⟩), .pointer (some ⟨W.heap.size, 0, none⟩), .pointer (some ⟨W.heap.size + 1, 0, none⟩)] (fun g => g = W.heap.size ∨ g = W.heap.size + 1) (TabI r rs cols w3 W.heap.size (W.heap.size + 1)) (.slice A2 cols.length c2) r w3 ?hr0 ?hr6 (HC.out.below hbw3) ?hvM ?hM callFuncT1 ?hI ?hcall ?hw).mono ?_
  case hr0 => exact HR6.out.1
  case hr6 => exact HR6.out.2
  case hvM =>
    intro g hg hm
    have := HVB.out g hg
    rcases hm with rfl | rfl <;> omega
  case hM => intro g hg; rcases hg with rfl | rfl <;> omega
  case hI =>
    rintro D wz wz' ⟨q1, q2, q3⟩ hb
    have hz := q1.1.size
    exact ⟨q1.below hb, (hb.block _ (by omega)).trans q2, (hb.block _ (by omega)).trans q3⟩
  case hw => exact ⟨Kept.refl _ _, (hb3.block _ (by omega)).trans HX.out.2.2.1, (hb3.block _ (by omega)).trans HX.out.2.2.2⟩
  case hcall =>
    rintro D row hpre W' u ⟨q1, q2, q3⟩ hW' hrow
    have hz := q1.1.size
    have hmem : row ∈ rowsL cols r := hpre.subset (by simp)
    have hfit := rowsL_fit hmem
    obtain ⟨x1, x2, x3, x4⟩ := HROW.out row hfit
    have hD := HD.out D ((List.prefix_append D [row]).trans hpre)
    have hr3 : Rd W' (.slice (some ⟨gr, or_, none⟩) N cr) (r :: rs) := q1.rd (HR.out.below hbw3) (fun g hg hm => by
      have : gr = g := by simpa [Value.ownBlock] using hg
      subst this
      rcases hm with hm | hm <;> omega)
    have hc3 : Rd W' (.slice A2 cols.length c2) cols := q1.rd (HC.out.below hbw3) (fun g hg hm => by
      have := HVB.out g hg
      rcases hm with hm | hm <;> omega)
    refine (tables1_c HR6.out HCC.out.1 HCC.out.2.1 HCC.out.2.2 HIH.out hfit u _ _ w.heap.size (w.heap.size + 1) W.heap.size (W.heap.size + 1) _ _ W' hrow hr3 hc3
      ((q1.cell (by omega) (fun hm => by rcases hm with hm | hm <;> omega)).trans (blkR_cell ((hb3.block _ (by omega)).trans HX.out.1) 0)) ((q1.cell (by omega) (fun hm => by rcases hm with hm | hm <;> omega)).trans (blkR_cell ((hb3.block _ (by omega)).trans HX.out.2.1) 0))
      (by omega) q2 q3 (by omega) hD.1 hD.2 x1 x2 x3).mono ?_
    rintro e w'' ⟨rfl, y1, y2, y3⟩
    refine ⟨rfl, ⟨q1.trans y3, ?_, ?_⟩, y3⟩
    · rw [tabA_snoc]; exact y1
    · rw [tabA_snoc]; exact y2
  rintro e w4 ⟨rfl, ⟨i1, i2, i3⟩, hK⟩
  have hb4 : Below w.heap.size w w4 := hbw3.trans (i1.to (by omega) (fun g hg => by rcases hg with rfl | rfl <;> omega))
  have d6 := blkR_cell i2 0
  have d7 := blkR_cell i3 0
  rw [HTE.out] at d6 d7
  have d6 : w4.cell? ⟨W.heap.size, 0, none⟩ = some (.int .i64 T.1) := d6
  have d7 : w4.cell? ⟨W.heap.size + 1, 0, none⟩ = some (.int .i64 T.2) := d7
  clear i1 i2 i3 hK
  go_wp2_with fail
  go_quiet (fail)
  go_wp2_with fail
  go_ret2
  exact ⟨rfl, below_drewN hb4 _⟩

theorem tables_c : ∀ {rs : List Int}, allB 0 6 rs = true → rs.length ≤ 3 → TabC rs
  | [], _, _ => tabC_nil
  | r :: rs, h, hl => tabC_cons (allB_iff.1 h r (by simp)) (allB_sub h fun y hy => List.mem_cons_of_mem _ hy) (by simpa using hl) (tables_c (allB_sub h fun y hy => List.mem_cons_of_mem _ hy) (by simp at hl; omega))
end Go.Proofs.Ytgageljahebjnaa
