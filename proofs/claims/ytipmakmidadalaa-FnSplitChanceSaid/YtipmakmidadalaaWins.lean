/-
  Contracts: two samples; how often one sample wins, in the program and in its reference.
-/
import Derived.Test.YtipmakmidadalaaRankP
namespace Go.Proofs.Ytipmakmidadalaa
open Go.RowKit

def okTwo (xs ys : List Int) : Bool := okData xs && (okData ys && (decide (xs.length + ys.length ≤ 10) && (decide (0 < xs.length) && decide (0 < ys.length))))
theorem okTwo_all {xs ys : List Int} (h : okTwo xs ys = true) : okData xs = true ∧ okData ys = true ∧ xs.length + ys.length ≤ 10 ∧ 0 < xs.length ∧ 0 < ys.length := by simpa [okTwo] using h
theorem okTwo_no {xs ys : List Int} (h : ¬ (okData xs = true ∧ okData ys = true ∧ xs.length + ys.length ≤ 10 ∧ 0 < xs.length ∧ 0 < ys.length)) : okTwo xs ys = false := by
  cases hk : okTwo xs ys
  · rfl
  · exact absurd (okTwo_all hk) h
theorem okTwo_yes {xs ys : List Int} (h1 : okData xs = true) (h2 : okData ys = true) (h3 : xs.length + ys.length ≤ 10) (h4 : 0 < xs.length) (h5 : 0 < ys.length) : okTwo xs ys = true := by simp [okTwo, h1, h2, h3, h4, h5]

set_option maxHeartbeats 1000000 in
theorem samplesI_c (u v : Value) (xs ys : List Int) (b : Bool) (w : World) (hx : Rd w u xs) (hy : Rd w v ys) (hn1 : xs.length ≤ 2000000) (hn2 : ys.length ≤ 2000000) (hb : okTwo xs ys = b) :
    Calls Try.prog 58 #[u, v] w fun e w' => e = .returned (.bool b) ∧ Below w.heap.size w w' := by
  have hx' := hx
  have hy' := hy
  obtain ⟨A, c, rfl, hc, hm, hcell⟩ := hx
  obtain ⟨A2, c2, rfl, hc2, hm2, hcell2⟩ := hy
  clear hcell hcell2
  by_cases h1 : 0 < xs.length
  · by_cases h2 : 0 < ys.length
    · by_cases h3 : xs.length + ys.length ≤ 10
      · cases hk : okData xs
        · have HB : Hid (b = false) := by show _ = _; rw [← hb]; exact okTwo_no (by simp [hk])
          clear hb
          go_enter Try.func58, Try.ntmps58
          go_wp2_with fail
          refine (ValidData_c _ xs false _ hx' hk).mono ?_
          rintro e w1 ⟨rfl, hb1⟩
          go_wp2_with fail
          go_ret
          exact ⟨ret_bool HB.out.symm, hb1⟩
        · have HB : Hid (okData ys = b) := by
            show _ = _
            rw [← hb]
            cases hk2 : okData ys
            · exact (okTwo_no (by simp [hk2])).symm
            · exact (okTwo_yes hk hk2 h3 h1 h2).symm
          clear hb
          go_enter Try.func58, Try.ntmps58
          go_wp2_with fail
          refine (ValidData_c _ xs true _ hx' hk).mono ?_
          rintro e w1 ⟨rfl, hb1⟩
          go_wp2_with fail
          refine (ValidData_c _ ys b _ (hy'.below hb1) HB.out).mono ?_
          rintro e w2 ⟨rfl, hb2⟩
          go_wp2_with fail
          go_ret
          exact ⟨rfl, by (repeat (first | exact Below.refl _ _ | assumption | refine Below.setCell ?_ (by first | (simp; done) | omega | (simp; omega) | (simp at *; omega)) _ | refine Below.drew ?_ | refine below_drewN ?_ _ | refine below_alloc' ?_ _ | refine below_to' ?_ (by assumption)))⟩
      · have HB : Hid (b = false) := by show _ = _; rw [← hb]; exact okTwo_no (by omega)
        have h3' : (10 : Int) < (xs.length : Int) + (ys.length : Int) := by omega
        clear hb h3
        go_enter Try.func58, Try.ntmps58
        go_wp2_with fail
        go_ret
        exact ⟨ret_bool HB.out.symm, Below.refl _ _⟩
    · have HB : Hid (b = false) := by show _ = _; rw [← hb]; exact okTwo_no (by omega)
      clear hb
      go_enter Try.func58, Try.ntmps58
      go_wp2_with fail
      go_ret
      exact ⟨ret_bool HB.out.symm, Below.refl _ _⟩
  · have HB : Hid (b = false) := by show _ = _; rw [← hb]; exact okTwo_no (by omega)
    clear hb
    go_enter Try.func58, Try.ntmps58
    go_wp2_with fail
    go_ret
    exact ⟨ret_bool HB.out.symm, Below.refl _ _⟩

set_option maxHeartbeats 1000000 in
theorem samplesS_c (u v : Value) (xs ys : List Int) (b : Bool) (w : World) (hx : Rd w u xs) (hy : Rd w v ys) (hn1 : xs.length ≤ 2000000) (hn2 : ys.length ≤ 2000000) (hb : okTwo xs ys = b) :
    Calls Try.prog 59 #[u, v] w fun e w' => e = .returned (.bool b) ∧ w = w' := by
  have hx' := hx
  have hy' := hy
  obtain ⟨A, c, rfl, hc, hm, hcell⟩ := hx
  obtain ⟨A2, c2, rfl, hc2, hm2, hcell2⟩ := hy
  clear hcell hcell2
  cases hk : okData xs
  · have HB : Hid (b = false) := by show _ = _; rw [← hb]; exact okTwo_no (by simp [hk])
    clear hb
    go_enter Try.func59, Try.ntmps59
    go_wp2_with fail
    refine (validData_c _ xs false _ hx' hk).mono ?_
    rintro e w1 ⟨rfl, rfl⟩
    go_wp2_with fail
    go_ret
    exact ⟨ret_bool (by first | exact HB.out.symm | (rw [HB.out]; simp; omega)), rfl⟩
  · cases hk2 : okData ys
    · have HB : Hid (b = false) := by show _ = _; rw [← hb]; exact okTwo_no (by simp [hk2])
      clear hb
      go_enter Try.func59, Try.ntmps59
      go_wp2_with fail
      refine (validData_c _ xs true _ hx' hk).mono ?_
      rintro e w1 ⟨rfl, rfl⟩
      go_wp2_with fail
      refine (validData_c _ ys false _ hy' hk2).mono ?_
      rintro e w1 ⟨rfl, rfl⟩
      go_wp2_with fail
      go_ret
      exact ⟨ret_bool (by first | exact HB.out.symm | (rw [HB.out]; simp; omega)), rfl⟩
    · by_cases h3 : (xs.length : Int) + (ys.length : Int) ≤ 10
      · by_cases h1 : 0 < xs.length
        · by_cases h2 : 0 < ys.length
          · skip
            have HB : Hid (b = true) := by show _ = _; rw [← hb]; exact okTwo_yes hk hk2 (by omega) (by omega) (by omega)
            have HK := hide hk
            have HK2 := hide hk2
            clear hb hk hk2
            go_enter Try.func59, Try.ntmps59
            go_wp2_with fail
            refine (validData_c _ xs true _ hx' HK.out).mono ?_
            rintro e w1 ⟨rfl, rfl⟩
            go_wp2_with fail
            refine (validData_c _ ys true _ hy' HK2.out).mono ?_
            rintro e w1 ⟨rfl, rfl⟩
            go_wp2_with fail
            go_ret
            exact ⟨ret_bool (by first | exact HB.out.symm | (rw [HB.out]; simp; omega)), rfl⟩
          · skip
            have HB : Hid (b = false) := by show _ = _; rw [← hb]; exact okTwo_no (by omega)
            have HK := hide hk
            have HK2 := hide hk2
            clear hb hk hk2
            go_enter Try.func59, Try.ntmps59
            go_wp2_with fail
            refine (validData_c _ xs true _ hx' HK.out).mono ?_
            rintro e w1 ⟨rfl, rfl⟩
            go_wp2_with fail
            refine (validData_c _ ys true _ hy' HK2.out).mono ?_
            rintro e w1 ⟨rfl, rfl⟩
            go_wp2_with fail
            go_ret
            exact ⟨ret_bool (by first | exact HB.out.symm | (rw [HB.out]; simp; omega)), rfl⟩
        · skip
          have HB : Hid (b = false) := by show _ = _; rw [← hb]; exact okTwo_no (by omega)
          have HK := hide hk
          have HK2 := hide hk2
          clear hb hk hk2
          go_enter Try.func59, Try.ntmps59
          go_wp2_with fail
          refine (validData_c _ xs true _ hx' HK.out).mono ?_
          rintro e w1 ⟨rfl, rfl⟩
          go_wp2_with fail
          refine (validData_c _ ys true _ hy' HK2.out).mono ?_
          rintro e w1 ⟨rfl, rfl⟩
          go_wp2_with fail
          go_ret
          exact ⟨ret_bool (by first | exact HB.out.symm | (rw [HB.out]; simp; omega)), rfl⟩
      · skip
        have HB : Hid (b = false) := by show _ = _; rw [← hb]; exact okTwo_no (by omega)
        have h3' : (10 : Int) < (xs.length : Int) + (ys.length : Int) := by omega
        clear h3
        have HK := hide hk
        have HK2 := hide hk2
        clear hb hk hk2
        go_enter Try.func59, Try.ntmps59
        go_wp2_with fail
        refine (validData_c _ xs true _ hx' HK.out).mono ?_
        rintro e w1 ⟨rfl, rfl⟩
        go_wp2_with fail
        refine (validData_c _ ys true _ hy' HK2.out).mono ?_
        rintro e w1 ⟨rfl, rfl⟩
        go_wp2_with fail
        go_ret
        exact ⟨ret_bool (by first | exact HB.out.symm | (rw [HB.out]; simp; omega)), rfl⟩

/-- What WinsOf answers. -/
def winsR (xs ys : List Int) : Int := if okTwo xs ys then winsL xs ys else -1
theorem winsR_ok {xs ys : List Int} (h : okTwo xs ys = true) : winsR xs ys = winsL xs ys := by simp [winsR, h]
theorem winsR_bad {xs ys : List Int} (h : okTwo xs ys = false) : winsR xs ys = -1 := by simp [winsR, h]
theorem winsL_take_bd {xs ys : List Int} (hl : ys.length ≤ 10) (k : Nat) : 0 ≤ sumL ((xs.map fun x => rankIn x ys).take k) ∧ sumL ((xs.map fun x => rankIn x ys).take k) ≤ 20 * k := by
  induction k with
  | zero => simp [sumL_nil]
  | succ k ih =>
    by_cases hk : k < (xs.map fun x => rankIn x ys).length
    · rw [sumL_take hk]
      have h2 := rankIn_bd (xs[k]'(by simpa using hk)) ys ys.length
      rw [List.take_length] at h2
      have e : (xs.map fun x => rankIn x ys)[k] = rankIn (xs[k]'(by simpa using hk)) ys := by simp
      omega
    · rw [List.take_of_length_le (by omega)] at ih ⊢
      omega
theorem winsL_take_succ {xs ys : List Int} {k : Nat} (hk : k < xs.length) : sumL ((xs.map fun x => rankIn x ys).take (k + 1)) = sumL ((xs.map fun x => rankIn x ys).take k) + rankIn xs[k] ys := by
  rw [sumL_take (by simpa using hk)]
  simp

set_option maxHeartbeats 1000000 in
theorem winsS_c (u v : Value) (xs ys : List Int) (w : World) (hx : Rd w u xs) (hy : Rd w v ys) (hax : okData xs = true) (hay : okData ys = true) :
    Calls Try.prog 60 #[u, v] w fun e w' => e = .returned (.int .i64 (winsL xs ys)) ∧ Below w.heap.size w w' := by
  obtain ⟨hall1, hlen1⟩ := okData_all hax
  obtain ⟨hall2, hlen2⟩ := okData_all hay
  obtain ⟨A, c, rfl, hc, hm, hcell⟩ := hx
  obtain ⟨A2, c2, rfl, hc2, hm2, hcell2⟩ := hy
  clear hax hay
  go_enter Try.func60, Try.ntmps60
  go_wp2_with fail
  go_loopw [5, 6] (fun s i wr => ∃ k : Nat, k ≤ xs.length ∧ i = .int .i64 k ∧ s = .int .i64 (sumL ((xs.map fun x => rankIn x ys).take k)) ∧ Below w.heap.size w wr) (fun _ i _ => xs.length - (intOf i).toNat)
  case atStart => exact ⟨0, Nat.zero_le _, rfl, rfl, Below.refl _ _⟩
  case round =>
    obtain ⟨k, hk, rfl, rfl, hbel⟩ := hrel
    by_cases hlt : k < xs.length
    · obtain ⟨g, off, rfl, hg, hcl⟩ := hcell (by omega)
      have hxk := allB_get hall1 hlt
      have hS := winsL_take_bd (xs := xs) hlen2 k
      have HS := hide (winsL_take_succ (ys := ys) hlt)
      have hcw : w.cell? ⟨g, off + k, none⟩ = some (.int .i64 xs[k]) := by rw [hcl k hlt, getD_lt hlt]
      obtain ⟨V, hV⟩ : ∃ V, xs[k] = V := ⟨_, rfl⟩
      obtain ⟨S, hS'⟩ : ∃ S, sumL ((xs.map fun x => rankIn x ys).take k) = S := ⟨_, rfl⟩
      rw [hV] at hxk hcw HS
      rw [hS'] at hS HS ⊢
      have HCW := hide hcw
      clear hcell hcl hV hS' hcw
      go_wp2_with fail
      go_loopw [5, 7] (fun s j wr2 => ∃ m : Nat, m ≤ ys.length ∧ j = .int .i64 m ∧ s = .int .i64 (S + rankIn V (ys.take m)) ∧ Below w.heap.size w wr2) (fun _ j _ => ys.length - (intOf j).toNat)
      case atStart => exact ⟨0, Nat.zero_le _, rfl, by simp [rankIn, sumL_nil], hbel⟩
      case round =>
        obtain ⟨m, hml, rfl, rfl, hbel2⟩ := hrel
        by_cases hlm : m < ys.length
        · obtain ⟨g2, off2, rfl, hg2, hcl2⟩ := hcell2 (by omega)
          have hck : wr.cell? ⟨g, off + k, none⟩ = some (.int .i64 V) := (hbel2.cell hg).trans HCW.out
          have hcm : wr.cell? ⟨g2, off2 + m, none⟩ = some (.int .i64 ys[m]) := by rw [hbel2.cell hg2, hcl2 m hlm, getD_lt hlm]
          have hym := allB_get hall2 hlm
          have hR := rankIn_bd V ys m
          have HR : Hid (rankIn V (ys.take (m + 1)) = rankIn V (ys.take m) + (1 + sgn (V - ys[m]))) := by show _ = _; rw [rankIn_take hlm, oneRank_sgn]
          have hsg := sgn_bd (V - ys[m])
          obtain ⟨Z, hZ⟩ : ∃ Z, rankIn V (ys.take m) = Z := ⟨_, rfl⟩
          rw [hZ] at hR HR ⊢
          have hi1 : (k : Int) < (xs.length : Int) := by omega
          have hi2 : (m : Int) < (ys.length : Int) := by omega
          have e1 : IntKind.i64.wrap (V - ys[m]) = V - ys[m] := IntWalk.i64_in _ (by omega)
          have e2 : IntKind.i64.wrap (S + Z + sgn (V - ys[m])) = S + Z + sgn (V - ys[m]) := IntWalk.i64_in _ (by omega)
          have e3 : IntKind.i64.wrap (S + Z + sgn (V - ys[m]) + 1) = S + Z + sgn (V - ys[m]) + 1 := IntWalk.i64_in _ (by omega)
          clear hcl2 hcell2 hZ
          go_wp2_with fail
          go_quiet ((go_at_call 68; exact quiet_eq (signS_c _ _ (by omega))))
          go_wp2
          go_roundw
          case rel => exact ⟨m + 1, by omega, by go_num, by rw [HR.out]; congr 1; omega, below_drewN hbel2 _⟩
          case measure => simp [intOf]; omega
        · obtain rfl : m = ys.length := by omega
          rw [List.take_length]
          go_wp2_with fail
          go_roundw
          case rel => exact ⟨k + 1, by omega, by go_num, by rw [HS.out], hbel2⟩
          case measure => simp [intOf]; omega
    · obtain rfl : k = xs.length := by omega
      have HT : Hid (sumL ((xs.map fun x => rankIn x ys).take xs.length) = winsL xs ys) := by
        show _ = _
        rw [List.take_of_length_le (by simp)]
        rfl
      rw [HT.out]
      go_wp2_with fail
      go_ret
      exact ⟨rfl, hbel⟩

set_option maxHeartbeats 1000000 in
theorem WinsS_c (u v : Value) (xs ys : List Int) (w : World) (hx : Rd w u xs) (hy : Rd w v ys) (hn1 : xs.length ≤ 2000000) (hn2 : ys.length ≤ 2000000) :
    Calls Try.prog 31 #[u, v] w fun e w' => e = .returned (.int .i64 (winsR xs ys)) ∧ Below w.heap.size w w' := by
  have hx' := hx
  have hy' := hy
  obtain ⟨A, c, rfl, hc, hm, hcell⟩ := hx
  obtain ⟨A2, c2, rfl, hc2, hm2, hcell2⟩ := hy
  clear hcell hcell2
  cases hk : okTwo xs ys
  · have HR := hide (winsR_bad hk)
    go_enter Try.func31, Try.ntmps31
    go_wp2_with fail
    refine (samplesS_c _ _ xs ys false _ hx' hy' hn1 hn2 hk).mono ?_
    rintro e w1 ⟨rfl, rfl⟩
    go_wp2_with fail
    go_ret
    exact ⟨ret_int HR.out.symm, Below.refl _ _⟩
  · have HR := hide (winsR_ok hk)
    obtain ⟨h1, h2, _⟩ := okTwo_all hk
    go_enter Try.func31, Try.ntmps31
    go_wp2_with fail
    refine (samplesS_c _ _ xs ys true _ hx' hy' hn1 hn2 hk).mono ?_
    rintro e w1 ⟨rfl, rfl⟩
    go_wp2_with fail
    refine (winsS_c _ _ xs ys _ hx' hy' h1 h2).mono ?_
    rintro e w2 ⟨rfl, hb2⟩
    go_wp2_with fail
    go_ret
    exact ⟨ret_int HR.out.symm, hb2⟩

set_option maxHeartbeats 1000000 in
theorem WinsI_c (u v : Value) (xs ys : List Int) (w : World) (hx : Rd w u xs) (hy : Rd w v ys) (hn1 : xs.length ≤ 2000000) (hn2 : ys.length ≤ 2000000) :
    Calls Try.prog 30 #[u, v] w fun e w' => e = .returned (.int .i64 (winsR xs ys)) ∧ Below w.heap.size w w' := by
  have hx' := hx
  have hy' := hy
  obtain ⟨A, c, rfl, hc, hm, hcell⟩ := hx
  obtain ⟨A2, c2, rfl, hc2, hm2, hcell2⟩ := hy
  cases hk : okTwo xs ys
  · have HR := hide (winsR_bad hk)
    clear hcell hcell2
    go_enter Try.func30, Try.ntmps30
    go_wp2_with fail
    refine (samplesI_c _ _ xs ys false _ hx' hy' hn1 hn2 hk).mono ?_
    rintro e w1 ⟨rfl, hb1⟩
    go_wp2_with fail
    go_ret
    exact ⟨ret_int HR.out.symm, hb1⟩
  · have HR := hide (winsR_ok hk)
    obtain ⟨h1, h2, _⟩ := okTwo_all hk
    obtain ⟨hall1, hlen1⟩ := okData_all h1
    obtain ⟨hall2, hlen2⟩ := okData_all h2
    go_enter Try.func30, Try.ntmps30
    go_wp2_with fail
    refine (samplesI_c _ _ xs ys true _ hx' hy' hn1 hn2 hk).mono ?_
    rintro e w1 ⟨rfl, hb1⟩
    clear h1 h2 hk
    go_wp2_with fail
    go_loop [5, 16] (fun s i => ∃ k : Nat, k ≤ xs.length ∧ i = .int .i64 k ∧ s = .int .i64 (sumL ((xs.map fun x => rankIn x ys).take k))) (fun _ i => xs.length - (intOf i).toNat)
    case atStart => exact ⟨0, Nat.zero_le _, rfl, rfl⟩
    case round =>
      obtain ⟨k, hk, rfl, rfl⟩ := hrel
      by_cases hlt : k < xs.length
      · obtain ⟨g, off, rfl, hg, hcl⟩ := hcell (by omega)
        have hxk := allB_get hall1 hlt
        have hS := winsL_take_bd (xs := xs) hlen2 k
        have HS := hide (winsL_take_succ (ys := ys) hlt)
        have hck : w1.cell? ⟨g, off + k, none⟩ = some (.int .i64 xs[k]) := by rw [hb1.cell hg, hcl k hlt, getD_lt hlt]
        obtain ⟨V, hV⟩ : ∃ V, xs[k] = V := ⟨_, rfl⟩
        obtain ⟨S, hS'⟩ : ∃ S, sumL ((xs.map fun x => rankIn x ys).take k) = S := ⟨_, rfl⟩
        rw [hV] at hxk hck HS
        rw [hS'] at hS HS ⊢
        clear hcell hcl hV hS'
        go_wp2_with fail
        go_loop [5, 22] (fun s j => ∃ m : Nat, m ≤ ys.length ∧ j = .int .i64 m ∧ s = .int .i64 (S + rankIn V (ys.take m))) (fun _ j => ys.length - (intOf j).toNat)
        case atStart => exact ⟨0, Nat.zero_le _, rfl, by simp [rankIn, sumL_nil]⟩
        case round =>
          obtain ⟨m, hml, rfl, rfl⟩ := hrel
          by_cases hlm : m < ys.length
          · obtain ⟨g2, off2, rfl, hg2, hcl2⟩ := hcell2 (by omega)
            have hcm : w1.cell? ⟨g2, off2 + m, none⟩ = some (.int .i64 ys[m]) := by rw [hb1.cell hg2, hcl2 m hlm, getD_lt hlm]
            have hym := allB_get hall2 hlm
            have hR := rankIn_bd V ys m
            have HR : Hid (rankIn V (ys.take (m + 1)) = rankIn V (ys.take m) + (1 + sgn (V - ys[m]))) := by show _ = _; rw [rankIn_take hlm, oneRank_sgn]
            have hsg := sgn_bd (V - ys[m])
            obtain ⟨Z, hZ⟩ : ∃ Z, rankIn V (ys.take m) = Z := ⟨_, rfl⟩
            rw [hZ] at hR HR ⊢
            clear hcl2 hcell2 hZ
            go_wp2_with fail
            refine (signI_c _ _ (by omega)).mono ?_
            rintro e w' ⟨rfl, rfl⟩
            go_wp2_with fail
            go_round
            case rel => exact ⟨m + 1, by omega, by go_num, by rw [HR.out]; congr 1; omega⟩
            case measure => simp [intOf]; omega
          · obtain rfl : m = ys.length := by omega
            rw [List.take_length]
            go_wp2_with fail
            go_round
            case rel => exact ⟨k + 1, by omega, by go_num, by rw [HS.out]⟩
            case measure => simp [intOf]; omega
      · obtain rfl : k = xs.length := by omega
        have HT : Hid (sumL ((xs.map fun x => rankIn x ys).take xs.length) = winsL xs ys) := by
          show _ = _
          rw [List.take_of_length_le (by simp)]
          rfl
        rw [HT.out]
        go_wp2_with fail
        go_ret
        exact ⟨ret_int HR.out.symm, hb1⟩
end Go.Proofs.Ytipmakmidadalaa
