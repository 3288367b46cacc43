/-
  Contracts: two samples; how often one sample wins, in the program and in its reference.
-/
import Derived.Test.YtcmjmnlccempfaaData
import Derived.Test.YtcmjmnlccempfaaSum
namespace Go.Proofs.Ytcmjmnlccempfaa
open Go.RowKit

def okTwo (xs ys : List Int) : Bool := okData xs && (okData ys && (decide (xs.length + ys.length ≤ 10) && (decide (0 < xs.length) && decide (0 < ys.length))))
theorem okTwo_all {xs ys : List Int} (h : okTwo xs ys = true) : okData xs = true ∧ okData ys = true ∧ xs.length + ys.length ≤ 10 ∧ 0 < xs.length ∧ 0 < ys.length := by simpa [okTwo] using h
theorem okTwo_no {xs ys : List Int} (h : ¬ (okData xs = true ∧ okData ys = true ∧ xs.length + ys.length ≤ 10 ∧ 0 < xs.length ∧ 0 < ys.length)) : okTwo xs ys = false := by
  cases hk : okTwo xs ys
  · rfl
  · exact absurd (okTwo_all hk) h
theorem okTwo_yes {xs ys : List Int} (h1 : okData xs = true) (h2 : okData ys = true) (h3 : xs.length + ys.length ≤ 10) (h4 : 0 < xs.length) (h5 : 0 < ys.length) : okTwo xs ys = true := by simp [okTwo, h1, h2, h3, h4, h5]

set_option maxHeartbeats 1000000 in
theorem samplesI_c (u v : Value) (xs ys : List Int) (b : Bool) (w : World) (hx : Rd w u xs) (hy : Rd w v ys) (hn1 : xs.length ≤ 2000000) (hn2 : ys.length ≤ 2000000) (hb : okTwo xs ys = b) :
    Calls Try.prog 30 #[u, v] w fun e w' => e = .returned (.bool b) ∧ Below w.heap.size w w' := by
  have hx' := hx
  have hy' := hy
  obtain ⟨A, c, rfl, hc, hm, hcell⟩ := hx
  obtain ⟨A2, c2, rfl, hc2, hm2, hcell2⟩ := hy
  clear hcell hcell2
  by_cases h1 : 0 < xs.length
  · by_cases h2 : 0 < ys.length
    · by_cases h3 : xs.length + ys.length ≤ 10
      · cases hk : okData xs
        · have HB : Hid (b = false) := by show _ = _; rw [← hb]; exact okTwo_no (by simp [hk])
          clear hb
          go_enter Try.func30, Try.ntmps30
          go_wp2_with fail
          refine (ValidData_c _ xs false _ hx' hk).mono ?_
          rintro e w1 ⟨rfl, hb1⟩
          go_wp2_with fail
          go_ret
          exact ⟨ret_bool HB.out.symm, hb1⟩
        · have HB : Hid (okData ys = b) := by
            show _ = _
            rw [← hb]
            cases hk2 : okData ys
            · exact (okTwo_no (by simp [hk2])).symm
            · exact (okTwo_yes hk hk2 h3 h1 h2).symm
          clear hb
          go_enter Try.func30, Try.ntmps30
          go_wp2_with fail
          refine (ValidData_c _ xs true _ hx' hk).mono ?_
          rintro e w1 ⟨rfl, hb1⟩
          go_wp2_with fail
          refine (ValidData_c _ ys b _ (hy'.below hb1) HB.out).mono ?_
          rintro e w2 ⟨rfl, hb2⟩
          go_wp2_with fail
          go_ret
          exact ⟨rfl, by (repeat (first | exact Below.refl _ _ | assumption | refine Below.setCell ?_ (by first | (simp; done) | omega | (simp; omega) | (simp at *; omega)) _ | refine Below.drew ?_ | refine below_drewN ?_ _ | refine below_alloc' ?_ _ | refine below_to' ?_ (by assumption)))⟩
      · have HB : Hid (b = false) := by show _ = _; rw [← hb]; exact okTwo_no (by omega)
        have h3' : (10 : Int) < (xs.length : Int) + (ys.length : Int) := by omega
        clear hb h3
        go_enter Try.func30, Try.ntmps30
        go_wp2_with fail
        go_ret
        exact ⟨ret_bool HB.out.symm, Below.refl _ _⟩
    · have HB : Hid (b = false) := by show _ = _; rw [← hb]; exact okTwo_no (by omega)
      clear hb
      go_enter Try.func30, Try.ntmps30
      go_wp2_with fail
      go_ret
      exact ⟨ret_bool HB.out.symm, Below.refl _ _⟩
  · have HB : Hid (b = false) := by show _ = _; rw [← hb]; exact okTwo_no (by omega)
    clear hb
    go_enter Try.func30, Try.ntmps30
    go_wp2_with fail
    go_ret
    exact ⟨ret_bool HB.out.symm, Below.refl _ _⟩

set_option maxHeartbeats 1000000 in
theorem samplesS_c (u v : Value) (xs ys : List Int) (b : Bool) (w : World) (hx : Rd w u xs) (hy : Rd w v ys) (hn1 : xs.length ≤ 2000000) (hn2 : ys.length ≤ 2000000) (hb : okTwo xs ys = b) :
    Calls Try.prog 28 #[u, v] w fun e w' => e = .returned (.bool b) ∧ w = w' := by
  have hx' := hx
  have hy' := hy
  obtain ⟨A, c, rfl, hc, hm, hcell⟩ := hx
  obtain ⟨A2, c2, rfl, hc2, hm2, hcell2⟩ := hy
  clear hcell hcell2
  cases hk : okData xs
  · have HB : Hid (b = false) := by show _ = _; rw [← hb]; exact okTwo_no (by simp [hk])
    clear hb
    go_enter Try.func28, Try.ntmps28
    go_wp2_with fail
    refine (validData_c _ xs false _ hx' hk).mono ?_
    rintro e w1 ⟨rfl, rfl⟩
    go_wp2_with fail
    go_ret
    exact ⟨ret_bool (by first | exact HB.out.symm | (rw [HB.out]; simp; omega)), rfl⟩
  · cases hk2 : okData ys
    · have HB : Hid (b = false) := by show _ = _; rw [← hb]; exact okTwo_no (by simp [hk2])
      clear hb
      go_enter Try.func28, Try.ntmps28
      go_wp2_with fail
      refine (validData_c _ xs true _ hx' hk).mono ?_
      rintro e w1 ⟨rfl, rfl⟩
      go_wp2_with fail
      refine (validData_c _ ys false _ hy' hk2).mono ?_
      rintro e w1 ⟨rfl, rfl⟩
      go_wp2_with fail
      go_ret
      exact ⟨ret_bool (by first | exact HB.out.symm | (rw [HB.out]; simp; omega)), rfl⟩
    · by_cases h3 : (xs.length : Int) + (ys.length : Int) ≤ 10
      · by_cases h1 : 0 < xs.length
        · by_cases h2 : 0 < ys.length
          · skip
            have HB : Hid (b = true) := by show _ = _; rw [← hb]; exact okTwo_yes hk hk2 (by omega) (by omega) (by omega)
            have HK := hide hk
            have HK2 := hide hk2
            clear hb hk hk2
            go_enter Try.func28, Try.ntmps28
            go_wp2_with fail
            refine (validData_c _ xs true _ hx' HK.out).mono ?_
            rintro e w1 ⟨rfl, rfl⟩
            go_wp2_with fail
            refine (validData_c _ ys true _ hy' HK2.out).mono ?_
            rintro e w1 ⟨rfl, rfl⟩
            go_wp2_with fail
            go_ret
            exact ⟨ret_bool (by first | exact HB.out.symm | (rw [HB.out]; simp; omega)), rfl⟩
          · skip
            have HB : Hid (b = false) := by show _ = _; rw [← hb]; exact okTwo_no (by omega)
            have HK := hide hk
            have HK2 := hide hk2
            clear hb hk hk2
            go_enter Try.func28, Try.ntmps28
            go_wp2_with fail
            refine (validData_c _ xs true _ hx' HK.out).mono ?_
            rintro e w1 ⟨rfl, rfl⟩
            go_wp2_with fail
            refine (validData_c _ ys true _ hy' HK2.out).mono ?_
            rintro e w1 ⟨rfl, rfl⟩
            go_wp2_with fail
            go_ret
            exact ⟨ret_bool (by first | exact HB.out.symm | (rw [HB.out]; simp; omega)), rfl⟩
        · skip
          have HB : Hid (b = false) := by show _ = _; rw [← hb]; exact okTwo_no (by omega)
          have HK := hide hk
          have HK2 := hide hk2
          clear hb hk hk2
          go_enter Try.func28, Try.ntmps28
          go_wp2_with fail
          refine (validData_c _ xs true _ hx' HK.out).mono ?_
          rintro e w1 ⟨rfl, rfl⟩
          go_wp2_with fail
          refine (validData_c _ ys true _ hy' HK2.out).mono ?_
          rintro e w1 ⟨rfl, rfl⟩
          go_wp2_with fail
          go_ret
          exact ⟨ret_bool (by first | exact HB.out.symm | (rw [HB.out]; simp; omega)), rfl⟩
      · skip
        have HB : Hid (b = false) := by show _ = _; rw [← hb]; exact okTwo_no (by omega)
        have h3' : (10 : Int) < (xs.length : Int) + (ys.length : Int) := by omega
        clear h3
        have HK := hide hk
        have HK2 := hide hk2
        clear hb hk hk2
        go_enter Try.func28, Try.ntmps28
        go_wp2_with fail
        refine (validData_c _ xs true _ hx' HK.out).mono ?_
        rintro e w1 ⟨rfl, rfl⟩
        go_wp2_with fail
        refine (validData_c _ ys true _ hy' HK2.out).mono ?_
        rintro e w1 ⟨rfl, rfl⟩
        go_wp2_with fail
        go_ret
        exact ⟨ret_bool (by first | exact HB.out.symm | (rw [HB.out]; simp; omega)), rfl⟩

end Go.Proofs.Ytcmjmnlccempfaa
