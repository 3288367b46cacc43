
/-
  Contracts: countTables of the reference.
-/
import Derived.Test.YtgageljahebjnaaTabS
namespace Go.Proofs.Ytgageljahebjnaa
open Go.RowKit

/-- The contract of countTables at the rows rs. -/
def CntC (rs : List Int) : Prop := ∀ (cols : List Int) (u v : Value) (w : World), Rd w u rs → Rd w v cols → allB 0 6 cols = true → 1 ≤ cols.length → cols.length ≤ 3 →
  Calls Try.prog 43 #[u, v] w fun e w' => e = .returned (.tuple #[.int .i64 (tabL rs cols).1, .int .i64 (tabL rs cols).2]) ∧ Below w.heap.size w w'

set_option maxHeartbeats 400000 in
theorem sumST_c (v : Value) (xs : List Int) (w : World) (hr : Rd w v xs) (hb : allB (-1000000) 1000000 xs = true) (hn : xs.length ≤ 2000000) :
    Calls Try.prog 42 #[v] w fun e w' => e = .returned (.int .i64 (sumL xs)) ∧ w = w' := by
  obtain ⟨A, c, rfl, hc, hm, hcell⟩ := hr
  go_enter Try.func42, Try.ntmps42
  go_wp2_with fail
  go_loop [3, 4] (fun s i => ∃ k : Nat, k ≤ xs.length ∧ i = .int .i64 k ∧ s = .int .i64 (sumL (xs.take k))) (fun _ i => xs.length - (intOf i).toNat)
  case atStart => exact ⟨0, Nat.zero_le _, rfl, rfl⟩
  case round =>
    obtain ⟨k, hk, rfl, rfl⟩ := hrel
    by_cases hlt : k < xs.length
    · obtain ⟨g, off, rfl, hg, hcl⟩ := hcell (by omega)
      have hck : w.cell? ⟨g, off + k, none⟩ = some (.int .i64 xs[k]) := by rw [hcl k hlt, getD_lt hlt]
      have hx := allB_get hb hlt
      have hs := sumL_bound (m := 1000000) (by omega) (allB_iff.1 hb) k
      have HT := hide (sumL_take hlt)
      obtain ⟨x, hxe⟩ : ∃ x, xs[k] = x := ⟨_, rfl⟩
      obtain ⟨S, hS⟩ : ∃ x, sumL (xs.take k) = x := ⟨_, rfl⟩
      rw [hxe] at hck hx HT
      rw [hS] at hs HT ⊢
      have ik : (k : Int) < (xs.length : Int) := by omega
      clear hcl hcell hb hxe hS
      go_wp2_with fail
      go_round
      case rel => exact ⟨k + 1, by omega, by go_num, by rw [HT.out]⟩
      case measure => simp [intOf]; omega
    · obtain rfl : k = xs.length := by omega
      rw [List.take_length]
      go_wp2_with fail
      go_ret
      exact ⟨rfl, rfl⟩

set_option maxHeartbeats 1000000 in
theorem cntC_nil : CntC [] := by
  intro cols u v w hr hc ha h1 h3
  obtain ⟨A, c, rfl, hcu, hm, -⟩ := hr
  have K := hide (sumST_c v cols w hc (allB_iff.2 fun x hx => by have := allB_iff.1 ha x hx; omega) (by omega))
  have HS := hide (sum_zero ha)
  have HT : Hid (tabL [] cols = if allB 0 0 cols then (1, 1) else (0, 0)) := rfl
  obtain ⟨S, hS⟩ : ∃ S, sumL cols = S := ⟨_, rfl⟩
  rw [hS] at K HS
  clear hS
  rw [HT.out]
  by_cases h0 : S = 0
  · rw [if_pos (HS.out.1 h0)]
    have hb : (S == 0) = true := by simp [h0]
    clear h0
    go_enter Try.func43, Try.ntmps43
    go_wp2_with fail
    refine K.out.mono ?_
    rintro e w2 ⟨rfl, rfl⟩
    go_wp2_with fail
    go_ret2
    exact ⟨rfl, Below.refl _ _⟩
  · rw [if_neg (fun h => h0 (HS.out.2 h))]
    have hb : (S == 0) = false := by simp [h0]
    clear h0
    go_enter Try.func43, Try.ntmps43
    go_wp2_with fail
    refine K.out.mono ?_
    rintro e w2 ⟨rfl, rfl⟩
    go_wp2_with fail
    go_ret2
    exact ⟨rfl, Below.refl _ _⟩

set_option maxRecDepth 100000 in
set_option maxHeartbeats 8000000 in
theorem cntC_cons {r : Int} {rs : List Int} (hr6 : 0 ≤ r ∧ r ≤ 6) (hrs : allB 0 6 rs = true) (hl2 : rs.length ≤ 2) (IH : CntC rs) : CntC (r :: rs) := by
  intro cols u v w hr hc ha h1 h3
  have HR := hide hr
  have HC := hide hc
  obtain ⟨Ar, cr, rfl, hcr, hmr, hcellr⟩ := hr
  obtain ⟨gr, or_, rfl, hgr, hclr⟩ := hcellr (by simp)
  have hck := hclr 0 (by simp)
  rw [Nat.add_zero] at hck
  obtain ⟨N, hN⟩ : ∃ N, (r :: rs).length = N := ⟨_, rfl⟩
  have hN1 : N = rs.length + 1 := by rw [← hN, List.length_cons]
  rw [hN] at hcr HR ⊢
  have hN0 : ((N : Int) == 0) = false := beq_eq_false_iff_ne.2 (by omega)
  have hi0 : (0 : Int) < (N : Int) := by omega
  have HB : Hid (∀ row, FitR row cols → bdT rs.length (tabL rs (leftL cols row))) := fun row hf => tabL_bd hrs (leftL_ok hf ha) (by rw [leftL_len hf]; exact h3)
  have HP : Hid ((343 : Int) ^ rs.length ≤ 117649 ∧ (246960 : Int) ^ rs.length ≤ 60989241600) := by
    have : rs.length = 0 ∨ rs.length = 1 ∨ rs.length = 2 := by omega
    show _ ∧ _
    rcases this with h | h | h <;> rw [h] <;> decide
  have HD : Hid (∀ D, D <+: rowsL cols r → (0 ≤ (tabA r rs cols D).1 ∧ (tabA r rs cols D).1 ≤ 100000000000000000) ∧ 0 ≤ (tabA r rs cols D).2 ∧ (tabA r rs cols D).2 ≤ 100000000000000000) := fun D hD => by
    obtain ⟨⟨i1, i2⟩, i3, i4⟩ := tabA_bd hr6 ha HB.out (D := D) fun row hrow => rowsL_fit (hD.subset hrow)
    have hl : (D.length : Int) ≤ 343 := by have := hD.length_le; have := rowsL_len3 r ha h3; omega
    have p1 : (0 : Int) ≤ 343 ^ rs.length := Int.le_of_lt (Int.pow_pos (by omega))
    have p2 : (0 : Int) ≤ 720 * 246960 ^ rs.length := Int.mul_nonneg (by omega) (Int.le_of_lt (Int.pow_pos (by omega)))
    have q1 := pow_bd _ D.length p1 hl
    have q2 := pow_bd _ D.length p2 hl
    obtain ⟨x1, x2⟩ := HP.out
    omega
  have HROW : Hid (∀ row, FitR row cols → (0 ≤ (tabL rs (leftL cols row)).1 ∧ (tabL rs (leftL cols row)).1 ≤ 100000000000000000) ∧ (0 ≤ hereF (fac r.toNat) row * (tabL rs (leftL cols row)).2 ∧ hereF (fac r.toNat) row * (tabL rs (leftL cols row)).2 ≤ 100000000000000000) ∧ (0 ≤ (tabL rs (leftL cols row)).2 ∧ (tabL rs (leftL cols row)).2 ≤ 100000000000000000)) := fun row hf => by
    obtain ⟨⟨b1, b2⟩, b3, b4⟩ := HB.out row hf
    have hfr := fac_bd (n := r.toNat) (by omega)
    have hh := hereF_bd row (fac r.toNat) (by omega) hfr.2 (fit_row6 hf ha)
    have hm := mul_pos_bd (m := 720) (n := 60989241600) hh ⟨b3, by have := HP.out.2; omega⟩
    obtain ⟨x1, x2⟩ := HP.out
    omega
  obtain ⟨T, hTe⟩ : ∃ T, tabL (r :: rs) cols = T := ⟨_, rfl⟩
  have HTE : Hid (tabA r rs cols (rowsL cols r) = T) := by show _ = _; rw [← hTe]; rfl
  rw [hTe]
  obtain ⟨n, hn⟩ : ∃ n, cols.length = n := ⟨_, rfl⟩
  have HRF := hide (rowsFrom_c ha h1 h3)
  have HIH := hide IH
  have HHA := hide ha
  have HC6 := hide fun k (hk : k < cols.length) => allB_get ha hk
  have HCN := hide hn
  have HN1 := hide hN1
  obtain ⟨A2, c2, rfl, hc2, hm2, -⟩ := hc
  rw [hn] at hc2 HC h1 h3 ⊢
  obtain ⟨rn, hrn⟩ : ∃ rn : Nat, r = (rn : Int) := Int.eq_ofNat_of_zero_le hr6.1
  subst hrn
  have hr6' : rn ≤ 6 := by omega
  have hfr := fac_bd (n := rn) hr6'
  rw [Int.toNat_natCast] at HROW
  have KF := hide fun w => facS_c rn w hr6'
  have hck : w.cell? ⟨gr, or_, none⟩ = some (.int .i64 rn) := hck
  have KRF := hide (HRF.out (.slice A2 n c2) (rn : Int) w (by omega) (by omega) HC.out)
  obtain ⟨F0, hF0⟩ : ∃ f, fac rn = f := ⟨_, rfl⟩
  rw [hF0] at hfr KF HROW
  have HTS : Hid (∀ D row, tabA (rn : Int) rs cols (D ++ [row]) = ((tabA (rn : Int) rs cols D).1 + (tabL rs (leftL cols row)).1, (tabA (rn : Int) rs cols D).2 + hereF F0 row * (tabL rs (leftL cols row)).2)) := fun D row => by
    rw [tabA_snoc, Int.toNat_natCast, hF0]
  clear hcellr hclr hr6 hrs hl2 IH ha hN hTe hn hN1 hF0
  by_cases hcr1 : cr = 1
  · subst hcr1
    go_enter Try.func43, Try.ntmps43
    go_wp2_with fail
    refine KRF.out.mono ?_
    rintro e w1 ⟨vl, ul, rfl, hov, hri, hb1⟩
    have hz1 := hb1.size
    obtain ⟨Al, cl, rfl, hcl1, hcl2, -⟩ := hov.shape
    have hul := hri.1
    obtain ⟨L, hL⟩ : ∃ L, ul.length = L := ⟨_, rfl⟩
    have HL : Hid (ul.length = L ∧ (rowsL cols (rn : Int)).length = L) := ⟨hL, by rw [← hul]; exact hL⟩
    have hL343 : L ≤ 343 := by have := rowsL_len3 (rn : Int) HHA.out (by have := HCN.out; omega); omega
    have HLST : Hid (OwnV w1 w.heap.size 22 (.slice Al L cl) ul ∧ RowsI w1 w.heap.size ul (rowsL cols (rn : Int))) := by
      show _ ∧ _
      rw [← hL]
      exact ⟨hov, hri⟩
    rw [hL] at hcl1 ⊢
    have hT0 : Hid (tabA (rn : Int) rs cols ((rowsL cols (rn : Int)).take 0) = (0, 0)) := by show _ = _; rw [List.take_zero, tabA_nil]
    clear hov hri hul hL
    go_wp2_with fail
    go_loopw [6, 7, 9] (fun ct wy i wr => ∃ j : Nat, j ≤ L ∧ i = .int .i64 j ∧ ct = .int .i64 (tabA (rn : Int) rs cols ((rowsL cols (rn : Int)).take j)).1 ∧ wy = .int .i64 (tabA (rn : Int) rs cols ((rowsL cols (rn : Int)).take j)).2 ∧ Hid (Below w1.heap.size w1 wr)) (fun _ _ i _ => L - (intOf i).toNat)
    case atStart => exact ⟨0, by omega, rfl, by rw [hT0.out], by rw [hT0.out], Below.refl _ _⟩
    case round =>
      rename World => wo
      obtain ⟨j, hj, rfl, rfl, rfl, hwo⟩ := hrel
      have hbo := hwo.out
      have hzo := hbo.size
      have hbw : Below w.heap.size w wo := hb1.trans (hbo.mono hz1)
      by_cases hjL : j < L
      · have hul : j < ul.length := by have := HL.out.1; omega
        have hj2 : j < (rowsL cols (rn : Int)).length := by have := HL.out.2; omega
        obtain ⟨gl, hgl, hgll, hcells⟩ := HLST.out.1.headI (by omega)
        have hou := HLST.out.2.2 j ul[j] (List.getElem?_eq_getElem hul)
        have cu1 := hcells j ul[j] (List.getElem?_eq_getElem hul)
        have hrowe : (rowsL cols (rn : Int)).getD j [] = (rowsL cols (rn : Int))[j] := by simp [List.getD, hj2]
        have hfit := rowsL_fit (List.getElem_mem hj2)
        have htk : (rowsL cols (rn : Int)).take (j + 1) = (rowsL cols (rn : Int)).take j ++ [(rowsL cols (rn : Int))[j]] := List.take_succ_eq_append_getElem hj2
        obtain ⟨row, hrow⟩ : ∃ row, (rowsL cols (rn : Int))[j] = row := ⟨_, rfl⟩
        rw [hrowe, hrow] at hou
        rw [hrow] at hfit htk
        have HSN : Hid (tabA (rn : Int) rs cols ((rowsL cols (rn : Int)).take (j + 1)) = ((tabA (rn : Int) rs cols ((rowsL cols (rn : Int)).take j)).1 + (tabL rs (leftL cols row)).1, (tabA (rn : Int) rs cols ((rowsL cols (rn : Int)).take j)).2 + hereF F0 row * (tabL rs (leftL cols row)).2)) := by
          show _ = _
          rw [htk, HTS.out]
        obtain ⟨bD1, bD2⟩ := HD.out _ (List.take_prefix j (rowsL cols (rn : Int)))
        obtain ⟨bx1, bx2, bx3⟩ := HROW.out row hfit
        obtain ⟨uv, huv⟩ : ∃ u, ul[j] = u := ⟨_, rfl⟩
        rw [huv] at hou cu1
        have hrl : row.length = n := by rw [hfit.len]; exact HCN.out
        obtain ⟨gu, cu, rfl, -, hgu, hcu1, hcu2⟩ := hou.form (by omega)
        subst hgl
        have cul := (hbo.cell (p := ⟨gl, j, none⟩) hgll).trans cu1
        have HROWC : Hid (∀ k, k < n → w1.cell? ⟨gu, k, none⟩ = some (.int .i64 (row.getD k 0))) := fun k hk => hou.cell (by omega)
        obtain ⟨P, hPe⟩ : ∃ p, tabA (rn : Int) rs cols ((rowsL cols (rn : Int)).take j) = p := ⟨_, rfl⟩
        rw [hPe] at HSN bD1 bD2 ⊢
        have hcols := HC.out.below hbw
        have hcols0 : 0 < cols.length := by have := HCN.out; omega
        have hcols1 : cols.length ≤ 1000000000 := by have := HCN.out; omega
        have hckw := (hbw.cell (p := ⟨gr, or_, none⟩) hgr).trans hck
        have hcx := hcols.alloc (.cells #[] 3)
        have hgrw : gr < wo.heap.size := by omega
        have HFIT := hide hfit
        have HROW6 := hide (fit_row6 hfit HHA.out)
        have HHH : Hid (∀ k, 0 ≤ hereF F0 (row.take k) ∧ hereF F0 (row.take k) ≤ 720) := fun k => hereF_bd _ _ (by omega) hfr.2 fun v hv => HROW6.out v (List.mem_of_mem_take hv)
        have HHT := hide fun k (hk : k < row.length) => hereF_take (h0 := F0) hk
        have HH0 : Hid (hereF F0 (row.take 0) = F0) := rfl
        have HHE : Hid (hereF F0 (row.take n) = hereF F0 row) := by show _ = _; rw [List.take_of_length_le (by omega)]
        have HRL := hide hrl
        have KT := hide fun (u v : Value) (w : World) (h1' : Rd w u rs) (h2' : Rd w v (leftL cols row)) => HIH.out (leftL cols row) u v w h1' h2' (leftL_ok hfit HHA.out) (by rw [leftL_len hfit]; exact hcols0) (by rw [leftL_len hfit]; have := HCN.out; omega)
        obtain ⟨a, hae⟩ : ∃ a, (tabL rs (leftL cols row)).1 = a := ⟨_, rfl⟩
        obtain ⟨b, hbe⟩ : ∃ a, (tabL rs (leftL cols row)).2 = a := ⟨_, rfl⟩
        obtain ⟨H, hHe⟩ : ∃ a, hereF F0 row = a := ⟨_, rfl⟩
        rw [hae, hbe] at KT
        rw [hae, hbe, hHe] at HSN
        rw [hae] at bx1
        rw [hbe] at bx2 bx3
        rw [hHe] at bx2 HHE
        have hwb1 : IntKind.i64.wrap (H * b) = H * b := IntWalk.i64_in _ (by omega)
        clear hou cu1 hrowe hfit htk hrow hrl huv hPe hul hj2 hcells hae hbe hHe
        go_wp2_with (at_builtin; refine wpList_append_rd _ rfl (.tmp 32) (.tmp 33) rfl ints wo.heap.size _ _ [] cols rfl rfl (lit_own [] rfl rfl rfl (by simp) (Nat.le_refl _)) hcx (by simp) (by simp) hcols1 hcols0 ?_; intro v4 w4 hown4 hb4 hg4 hat4 hk4 hlt4; have hb4' : Below wo.heap.size wo w4 := ((Below.refl _ _).alloc (Nat.le_refl _) _).trans hb4; have hck4 := (hb4'.cell (p := ⟨gr, or_, none⟩) hgrw).trans hckw)
        rw [List.nil_append] at hown4
        have hz4 := hb4'.size
        obtain ⟨g4, c4, rfl, hg41, hg42, hc41, hc42⟩ := hown4.form hcols0
        rw [HCN.out] at hown4 hc41 ⊢
        have HO4 := hide hown4
        clear hown4 hg4 hat4 hk4 hb4
        go_wp2_with fail
        refine (KF.out _).mono ?_
        rintro e w5 ⟨rfl, rfl⟩
        go_wp2_with fail
        go_loopw [11, 12] (fun ww i wr => ∃ k : Nat, k ≤ n ∧ i = .int .i64 k ∧ ww = .int .i64 (hereF F0 (row.take k)) ∧ Hid (Below wo.heap.size wo wr ∧ Own wr wo.heap.size 3 (.slice (some ⟨g4, 0, none⟩) n c4) (leftK cols row k))) (fun _ i _ => n - (intOf i).toNat)
        case atStart => exact ⟨0, by omega, rfl, by rw [HH0.out], hb4', HO4.out⟩
        case round =>
          rename World => wk
          obtain ⟨k, hk, rfl, rfl, hwk⟩ := hrel
          have hbk := hwk.out.1
          have hzk := hbk.size
          by_cases hkn : k < n
          · have hkc : k < cols.length := by have := HCN.out; omega
            have hown := hwk.out.2
            have hlen := leftK_len HFIT.out (k := k) (by omega)
            have hcl' := hown.cell (j := k) (by omega)
            rw [leftK_at HFIT.out hkc] at hcl'
            have hfl := hown.frozen k
            have HSET := hide fun m => (hown.drewN m).set k (cols.getD k 0 - row.getD k 0)
            rw [leftK_set HFIT.out hkc] at HSET
            have cul' := (hbk.cell (p := ⟨gl, j, none⟩) (by show gl < _; omega)).trans cul
            have cuw := (hbk.cell (p := ⟨gu, k, none⟩) (by show gu < _; omega)).trans ((hbo.cell (p := ⟨gu, k, none⟩) hgu).trans (HROWC.out k hkn))
            have hB0 := HHH.out k
            have hat := HFIT.out.at k hkc
            have hc6 := HC6.out k hkc
            have hTK := hide (HHT.out k (by have := HRL.out; omega))
            have hgd : cols.getD k 0 = cols[k]'hkc := getD_lt hkc
            obtain ⟨vk, hvk⟩ : ∃ v, row.getD k 0 = v := ⟨_, rfl⟩
            obtain ⟨ck, hck2⟩ : ∃ v, cols.getD k 0 = v := ⟨_, rfl⟩
            rw [hvk] at cuw HSET hat hTK
            rw [hck2] at hcl' HSET hat hgd
            rw [← hgd] at hc6
            obtain ⟨H0, hH0⟩ : ∃ h, hereF F0 (row.take k) = h := ⟨_, rfl⟩
            rw [hH0] at hB0 hTK ⊢
            obtain ⟨vn, hvn⟩ : ∃ vn : Nat, vk = (vn : Int) := Int.eq_ofNat_of_zero_le hat.1
            subst hvn
            have hfv := fac_bd (n := vn) (by omega)
            have KV := hide fun w => facS_c vn w (by omega)
            rw [Int.toNat_natCast] at hTK
            obtain ⟨fv, hfve⟩ : ∃ f, fac vn = f := ⟨_, rfl⟩
            rw [hfve] at hfv KV hTK
            have ik : (k : Int) < (n : Int) := by omega
            have ijL : (j : Int) < (L : Int) := by omega
            have ikr : (k : Int) < (row.length : Int) := by have := HRL.out; omega
            have hcm : IntKind.i64.wrap (ck - (vn : Int)) = ck - (vn : Int) := IntWalk.i64_in _ (by omega)
            have HBK := hide hbk
            have hgl4 : wo.heap.size ≤ g4 := hg41
            obtain ⟨hB1, hB2⟩ := hB0
            obtain ⟨ha1, ha2⟩ := hat
            obtain ⟨hf1, hf2⟩ := hfv
            obtain ⟨hc61, hc62⟩ := hc6
            have hneg4 : gl ≠ g4 := by omega
            have hneg5 : gu ≠ g4 := by omega
            have HCU := hide (And.intro cul' cuw)
            clear hwk hown hlen hvk hck2 hgd hH0 hfve hkc hbk
            go_wp2_with fail
            refine wp_region_quiet_tail 14 (by kernel_rfl) (by kernel_rfl) ?_
            simp only [List.take_succ_cons, List.take_zero, List.drop_succ_cons, List.drop_zero]
            repeat (go_big_quiet_step (fail))
            refine wpQuiet_nil ?_
            intro _ hw'
            obtain ⟨nq, rfl⟩ := hw'
            obtain ⟨X, hX, hbX, hownX, hcX1, hcX2⟩ : ∃ X, (wk.drewN nq).setCell ⟨g4, k, none⟩ (.int .i64 (ck - (vn : Int))) = X ∧ Below wo.heap.size wo X ∧ Own X wo.heap.size 3 (.slice (some ⟨g4, 0, none⟩) n c4) (leftK cols row (k + 1)) ∧ X.cell? ⟨gl, j, none⟩ = some (.slice (some ⟨gu, 0, none⟩) row.length cu) ∧ X.cell? ⟨gu, k, none⟩ = some (.int .i64 vn) := by
              refine ⟨_, rfl, (below_drewN HBK.out nq).setCell hgl4 _, HSET.out nq, ?_, ?_⟩
              · rw [World.cell?_setCell_other _ _ _ _ (by simp <;> omega)]; exact HCU.out.1
              · rw [World.cell?_setCell_other _ _ _ _ (by simp <;> omega)]; exact HCU.out.2
            have HOX := hide hownX
            clear hownX cul' cuw
            go_wp2_with fail
            clear hX
            refine (KV.out _).mono ?_
            rintro e w6 ⟨rfl, rfl⟩
            go_wp2_with fail
            go_roundw
            case rel => exact ⟨k + 1, by omega, by go_num, by rw [hTK.out], hbX, HOX.out⟩
            case measure => simp [intOf]; omega
          · obtain rfl : k = n := by omega
            have hown := hwk.out.2
            have hLE := leftK_all HFIT.out
            rw [HCN.out] at hLE
            rw [hLE] at hown
            rw [HHE.out]
            have hrl2 : Rd wk (.slice (some ⟨g4, 0, none⟩) k c4) (leftL cols row) := hown.sl.rd
            have hbwk : Below w.heap.size w wk := hbw.trans (hbk.mono (by omega))
            have KSUB : Hid (∀ (A' : Option Addr) (n' c' : Nat), n' = N - 1 → c' = 1 - 1 → (0 < rs.length → A' = some ⟨gr, or_ + 1, none⟩) →
                Calls Try.prog 43 #[.slice A' n' c', .slice (some ⟨g4, 0, none⟩) k c4] wk fun e w' => e = .returned (.tuple #[.int .i64 a, .int .i64 b]) ∧ Below wk.heap.size wk w') := by
              intro A' n' c' hn' hc' hA
              subst hn' hc'
              exact KT.out _ _ wk ((HR.out.below hbwk).tailR A' hA) hrl2
            have HBK := hide hbk
            clear hwk hown hLE hrl2 hbk
            go_wp2_with fail
            all_goals
              refine (KSUB.out _ _ _ (by omega) (by omega) (fun h0 => ?_)).mono ?_
              · first | rfl | (exfalso; have := HN1.out; omega)
              rintro e w7 ⟨rfl, hb7⟩
              have HFIN := hide (hbo.trans ((HBK.out.trans (hb7.mono hzk)).mono hzo))
              go_wp2_with fail
              go_roundw
              case rel => exact ⟨j + 1, by omega, by go_num, by rw [HSN.out], by rw [HSN.out], HFIN.out⟩
              case measure => simp [intOf]; omega
      · have HE : Hid (tabA (rn : Int) rs cols ((rowsL cols (rn : Int)).take j) = T) := by
          have h := HTE.out
          show _ = _
          rwa [List.take_of_length_le (by have := HL.out.2; omega)]
        rw [HE.out]
        go_wp2_with fail
        go_ret2
        exact ⟨rfl, hbw⟩
  · skip
    go_enter Try.func43, Try.ntmps43
    go_wp2_with fail
    refine KRF.out.mono ?_
    rintro e w1 ⟨vl, ul, rfl, hov, hri, hb1⟩
    have hz1 := hb1.size
    obtain ⟨Al, cl, rfl, hcl1, hcl2, -⟩ := hov.shape
    have hul := hri.1
    obtain ⟨L, hL⟩ : ∃ L, ul.length = L := ⟨_, rfl⟩
    have HL : Hid (ul.length = L ∧ (rowsL cols (rn : Int)).length = L) := ⟨hL, by rw [← hul]; exact hL⟩
    have hL343 : L ≤ 343 := by have := rowsL_len3 (rn : Int) HHA.out (by have := HCN.out; omega); omega
    have HLST : Hid (OwnV w1 w.heap.size 22 (.slice Al L cl) ul ∧ RowsI w1 w.heap.size ul (rowsL cols (rn : Int))) := by
      show _ ∧ _
      rw [← hL]
      exact ⟨hov, hri⟩
    rw [hL] at hcl1 ⊢
    have hT0 : Hid (tabA (rn : Int) rs cols ((rowsL cols (rn : Int)).take 0) = (0, 0)) := by show _ = _; rw [List.take_zero, tabA_nil]
    clear hov hri hul hL
    go_wp2_with fail
    go_loopw [6, 7, 9] (fun ct wy i wr => ∃ j : Nat, j ≤ L ∧ i = .int .i64 j ∧ ct = .int .i64 (tabA (rn : Int) rs cols ((rowsL cols (rn : Int)).take j)).1 ∧ wy = .int .i64 (tabA (rn : Int) rs cols ((rowsL cols (rn : Int)).take j)).2 ∧ Hid (Below w1.heap.size w1 wr)) (fun _ _ i _ => L - (intOf i).toNat)
    case atStart => exact ⟨0, by omega, rfl, by rw [hT0.out], by rw [hT0.out], Below.refl _ _⟩
    case round =>
      rename World => wo
      obtain ⟨j, hj, rfl, rfl, rfl, hwo⟩ := hrel
      have hbo := hwo.out
      have hzo := hbo.size
      have hbw : Below w.heap.size w wo := hb1.trans (hbo.mono hz1)
      by_cases hjL : j < L
      · have hul : j < ul.length := by have := HL.out.1; omega
        have hj2 : j < (rowsL cols (rn : Int)).length := by have := HL.out.2; omega
        obtain ⟨gl, hgl, hgll, hcells⟩ := HLST.out.1.headI (by omega)
        have hou := HLST.out.2.2 j ul[j] (List.getElem?_eq_getElem hul)
        have cu1 := hcells j ul[j] (List.getElem?_eq_getElem hul)
        have hrowe : (rowsL cols (rn : Int)).getD j [] = (rowsL cols (rn : Int))[j] := by simp [List.getD, hj2]
        have hfit := rowsL_fit (List.getElem_mem hj2)
        have htk : (rowsL cols (rn : Int)).take (j + 1) = (rowsL cols (rn : Int)).take j ++ [(rowsL cols (rn : Int))[j]] := List.take_succ_eq_append_getElem hj2
        obtain ⟨row, hrow⟩ : ∃ row, (rowsL cols (rn : Int))[j] = row := ⟨_, rfl⟩
        rw [hrowe, hrow] at hou
        rw [hrow] at hfit htk
        have HSN : Hid (tabA (rn : Int) rs cols ((rowsL cols (rn : Int)).take (j + 1)) = ((tabA (rn : Int) rs cols ((rowsL cols (rn : Int)).take j)).1 + (tabL rs (leftL cols row)).1, (tabA (rn : Int) rs cols ((rowsL cols (rn : Int)).take j)).2 + hereF F0 row * (tabL rs (leftL cols row)).2)) := by
          show _ = _
          rw [htk, HTS.out]
        obtain ⟨bD1, bD2⟩ := HD.out _ (List.take_prefix j (rowsL cols (rn : Int)))
        obtain ⟨bx1, bx2, bx3⟩ := HROW.out row hfit
        obtain ⟨uv, huv⟩ : ∃ u, ul[j] = u := ⟨_, rfl⟩
        rw [huv] at hou cu1
        have hrl : row.length = n := by rw [hfit.len]; exact HCN.out
        obtain ⟨gu, cu, rfl, -, hgu, hcu1, hcu2⟩ := hou.form (by omega)
        subst hgl
        have cul := (hbo.cell (p := ⟨gl, j, none⟩) hgll).trans cu1
        have HROWC : Hid (∀ k, k < n → w1.cell? ⟨gu, k, none⟩ = some (.int .i64 (row.getD k 0))) := fun k hk => hou.cell (by omega)
        obtain ⟨P, hPe⟩ : ∃ p, tabA (rn : Int) rs cols ((rowsL cols (rn : Int)).take j) = p := ⟨_, rfl⟩
        rw [hPe] at HSN bD1 bD2 ⊢
        have hcols := HC.out.below hbw
        have hcols0 : 0 < cols.length := by have := HCN.out; omega
        have hcols1 : cols.length ≤ 1000000000 := by have := HCN.out; omega
        have hckw := (hbw.cell (p := ⟨gr, or_, none⟩) hgr).trans hck
        have hcx := hcols.alloc (.cells #[] 3)
        have hgrw : gr < wo.heap.size := by omega
        have HFIT := hide hfit
        have HROW6 := hide (fit_row6 hfit HHA.out)
        have HHH : Hid (∀ k, 0 ≤ hereF F0 (row.take k) ∧ hereF F0 (row.take k) ≤ 720) := fun k => hereF_bd _ _ (by omega) hfr.2 fun v hv => HROW6.out v (List.mem_of_mem_take hv)
        have HHT := hide fun k (hk : k < row.length) => hereF_take (h0 := F0) hk
        have HH0 : Hid (hereF F0 (row.take 0) = F0) := rfl
        have HHE : Hid (hereF F0 (row.take n) = hereF F0 row) := by show _ = _; rw [List.take_of_length_le (by omega)]
        have HRL := hide hrl
        have KT := hide fun (u v : Value) (w : World) (h1' : Rd w u rs) (h2' : Rd w v (leftL cols row)) => HIH.out (leftL cols row) u v w h1' h2' (leftL_ok hfit HHA.out) (by rw [leftL_len hfit]; exact hcols0) (by rw [leftL_len hfit]; have := HCN.out; omega)
        obtain ⟨a, hae⟩ : ∃ a, (tabL rs (leftL cols row)).1 = a := ⟨_, rfl⟩
        obtain ⟨b, hbe⟩ : ∃ a, (tabL rs (leftL cols row)).2 = a := ⟨_, rfl⟩
        obtain ⟨H, hHe⟩ : ∃ a, hereF F0 row = a := ⟨_, rfl⟩
        rw [hae, hbe] at KT
        rw [hae, hbe, hHe] at HSN
        rw [hae] at bx1
        rw [hbe] at bx2 bx3
        rw [hHe] at bx2 HHE
        have hwb1 : IntKind.i64.wrap (H * b) = H * b := IntWalk.i64_in _ (by omega)
        clear hou cu1 hrowe hfit htk hrow hrl huv hPe hul hj2 hcells hae hbe hHe
        go_wp2_with (at_builtin; refine wpList_append_rd _ rfl (.tmp 32) (.tmp 33) rfl ints wo.heap.size _ _ [] cols rfl rfl (lit_own [] rfl rfl rfl (by simp) (Nat.le_refl _)) hcx (by simp) (by simp) hcols1 hcols0 ?_; intro v4 w4 hown4 hb4 hg4 hat4 hk4 hlt4; have hb4' : Below wo.heap.size wo w4 := ((Below.refl _ _).alloc (Nat.le_refl _) _).trans hb4; have hck4 := (hb4'.cell (p := ⟨gr, or_, none⟩) hgrw).trans hckw)
        rw [List.nil_append] at hown4
        have hz4 := hb4'.size
        obtain ⟨g4, c4, rfl, hg41, hg42, hc41, hc42⟩ := hown4.form hcols0
        rw [HCN.out] at hown4 hc41 ⊢
        have HO4 := hide hown4
        clear hown4 hg4 hat4 hk4 hb4
        go_wp2_with fail
        refine (KF.out _).mono ?_
        rintro e w5 ⟨rfl, rfl⟩
        go_wp2_with fail
        go_loopw [11, 12] (fun ww i wr => ∃ k : Nat, k ≤ n ∧ i = .int .i64 k ∧ ww = .int .i64 (hereF F0 (row.take k)) ∧ Hid (Below wo.heap.size wo wr ∧ Own wr wo.heap.size 3 (.slice (some ⟨g4, 0, none⟩) n c4) (leftK cols row k))) (fun _ i _ => n - (intOf i).toNat)
        case atStart => exact ⟨0, by omega, rfl, by rw [HH0.out], hb4', HO4.out⟩
        case round =>
          rename World => wk
          obtain ⟨k, hk, rfl, rfl, hwk⟩ := hrel
          have hbk := hwk.out.1
          have hzk := hbk.size
          by_cases hkn : k < n
          · have hkc : k < cols.length := by have := HCN.out; omega
            have hown := hwk.out.2
            have hlen := leftK_len HFIT.out (k := k) (by omega)
            have hcl' := hown.cell (j := k) (by omega)
            rw [leftK_at HFIT.out hkc] at hcl'
            have hfl := hown.frozen k
            have HSET := hide fun m => (hown.drewN m).set k (cols.getD k 0 - row.getD k 0)
            rw [leftK_set HFIT.out hkc] at HSET
            have cul' := (hbk.cell (p := ⟨gl, j, none⟩) (by show gl < _; omega)).trans cul
            have cuw := (hbk.cell (p := ⟨gu, k, none⟩) (by show gu < _; omega)).trans ((hbo.cell (p := ⟨gu, k, none⟩) hgu).trans (HROWC.out k hkn))
            have hB0 := HHH.out k
            have hat := HFIT.out.at k hkc
            have hc6 := HC6.out k hkc
            have hTK := hide (HHT.out k (by have := HRL.out; omega))
            have hgd : cols.getD k 0 = cols[k]'hkc := getD_lt hkc
            obtain ⟨vk, hvk⟩ : ∃ v, row.getD k 0 = v := ⟨_, rfl⟩
            obtain ⟨ck, hck2⟩ : ∃ v, cols.getD k 0 = v := ⟨_, rfl⟩
            rw [hvk] at cuw HSET hat hTK
            rw [hck2] at hcl' HSET hat hgd
            rw [← hgd] at hc6
            obtain ⟨H0, hH0⟩ : ∃ h, hereF F0 (row.take k) = h := ⟨_, rfl⟩
            rw [hH0] at hB0 hTK ⊢
            obtain ⟨vn, hvn⟩ : ∃ vn : Nat, vk = (vn : Int) := Int.eq_ofNat_of_zero_le hat.1
            subst hvn
            have hfv := fac_bd (n := vn) (by omega)
            have KV := hide fun w => facS_c vn w (by omega)
            rw [Int.toNat_natCast] at hTK
            obtain ⟨fv, hfve⟩ : ∃ f, fac vn = f := ⟨_, rfl⟩
            rw [hfve] at hfv KV hTK
            have ik : (k : Int) < (n : Int) := by omega
            have ijL : (j : Int) < (L : Int) := by omega
            have ikr : (k : Int) < (row.length : Int) := by have := HRL.out; omega
            have hcm : IntKind.i64.wrap (ck - (vn : Int)) = ck - (vn : Int) := IntWalk.i64_in _ (by omega)
            have HBK := hide hbk
            have hgl4 : wo.heap.size ≤ g4 := hg41
            obtain ⟨hB1, hB2⟩ := hB0
            obtain ⟨ha1, ha2⟩ := hat
            obtain ⟨hf1, hf2⟩ := hfv
            obtain ⟨hc61, hc62⟩ := hc6
            have hneg4 : gl ≠ g4 := by omega
            have hneg5 : gu ≠ g4 := by omega
            have HCU := hide (And.intro cul' cuw)
            clear hwk hown hlen hvk hck2 hgd hH0 hfve hkc hbk
            go_wp2_with fail
            refine wp_region_quiet_tail 14 (by kernel_rfl) (by kernel_rfl) ?_
            simp only [List.take_succ_cons, List.take_zero, List.drop_succ_cons, List.drop_zero]
            repeat (go_big_quiet_step (fail))
            refine wpQuiet_nil ?_
            intro _ hw'
            obtain ⟨nq, rfl⟩ := hw'
            obtain ⟨X, hX, hbX, hownX, hcX1, hcX2⟩ : ∃ X, (wk.drewN nq).setCell ⟨g4, k, none⟩ (.int .i64 (ck - (vn : Int))) = X ∧ Below wo.heap.size wo X ∧ Own X wo.heap.size 3 (.slice (some ⟨g4, 0, none⟩) n c4) (leftK cols row (k + 1)) ∧ X.cell? ⟨gl, j, none⟩ = some (.slice (some ⟨gu, 0, none⟩) row.length cu) ∧ X.cell? ⟨gu, k, none⟩ = some (.int .i64 vn) := by
              refine ⟨_, rfl, (below_drewN HBK.out nq).setCell hgl4 _, HSET.out nq, ?_, ?_⟩
              · rw [World.cell?_setCell_other _ _ _ _ (by simp <;> omega)]; exact HCU.out.1
              · rw [World.cell?_setCell_other _ _ _ _ (by simp <;> omega)]; exact HCU.out.2
            have HOX := hide hownX
            clear hownX cul' cuw
            go_wp2_with fail
            clear hX
            refine (KV.out _).mono ?_
            rintro e w6 ⟨rfl, rfl⟩
            go_wp2_with fail
            go_roundw
            case rel => exact ⟨k + 1, by omega, by go_num, by rw [hTK.out], hbX, HOX.out⟩
            case measure => simp [intOf]; omega
          · obtain rfl : k = n := by omega
            have hown := hwk.out.2
            have hLE := leftK_all HFIT.out
            rw [HCN.out] at hLE
            rw [hLE] at hown
            rw [HHE.out]
            have hrl2 : Rd wk (.slice (some ⟨g4, 0, none⟩) k c4) (leftL cols row) := hown.sl.rd
            have hbwk : Below w.heap.size w wk := hbw.trans (hbk.mono (by omega))
            have KSUB : Hid (∀ (A' : Option Addr) (n' c' : Nat), n' = N - 1 → c' = cr - 1 → (0 < rs.length → A' = some ⟨gr, or_ + 1, none⟩) →
                Calls Try.prog 43 #[.slice A' n' c', .slice (some ⟨g4, 0, none⟩) k c4] wk fun e w' => e = .returned (.tuple #[.int .i64 a, .int .i64 b]) ∧ Below wk.heap.size wk w') := by
              intro A' n' c' hn' hc' hA
              subst hn' hc'
              exact KT.out _ _ wk ((HR.out.below hbwk).tailR A' hA) hrl2
            have HBK := hide hbk
            clear hwk hown hLE hrl2 hbk
            go_wp2_with fail
            all_goals
              refine (KSUB.out _ _ _ (by omega) (by omega) (fun h0 => ?_)).mono ?_
              · first | rfl | (exfalso; have := HN1.out; omega)
              rintro e w7 ⟨rfl, hb7⟩
              have HFIN := hide (hbo.trans ((HBK.out.trans (hb7.mono hzk)).mono hzo))
              go_wp2_with fail
              go_roundw
              case rel => exact ⟨j + 1, by omega, by go_num, by rw [HSN.out], by rw [HSN.out], HFIN.out⟩
              case measure => simp [intOf]; omega
      · have HE : Hid (tabA (rn : Int) rs cols ((rowsL cols (rn : Int)).take j) = T) := by
          have h := HTE.out
          show _ = _
          rwa [List.take_of_length_le (by have := HL.out.2; omega)]
        rw [HE.out]
        go_wp2_with fail
        go_ret2
        exact ⟨rfl, hbw⟩

theorem countTables_c : ∀ {rs : List Int}, allB 0 6 rs = true → rs.length ≤ 3 → CntC rs
  | [], _, _ => cntC_nil
  | r :: rs, h, hl => cntC_cons (allB_iff.1 h r (by simp)) (allB_sub h fun y hy => List.mem_cons_of_mem _ hy) (by simpa using hl) (countTables_c (allB_sub h fun y hy => List.mem_cons_of_mem _ hy) (by simp at hl; omega))
end Go.Proofs.Ytgageljahebjnaa
