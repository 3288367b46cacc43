
/-
  Contracts: the least of fractions (MinFunc by compare); at most so many pieces, in the program.
-/
import Derived.Test.YtgageljahebjnaaCutI
namespace Go.Proofs.Ytgageljahebjnaa
open Go.RowKit

def cmpV (p q : Rat) : Int := max (-1) (min 1 (p - q).num)
theorem cmpV_neg (p q : Rat) : decide (cmpV p q < 0) = decide (p < q) := by
  rw [decide_eq_decide, lt_num, cmpV]
  omega
set_option maxHeartbeats 400000 in
theorem signC_c (n : Int) (w : World) : Calls Try.prog 77 #[.int .i64 n] w fun e w' => e = .returned (.int .i64 (max (-1) (min 1 n))) ∧ w = w' := by
  rcases (show n < -1 ∨ n = -1 ∨ n = 0 ∨ n = 1 ∨ 1 < n by omega) with h | rfl | rfl | rfl | h
  · rw [show max (-1) (min 1 n) = -1 by omega]
    go_enter Try.func77, Try.ntmps77
    go_wp2
    all_goals first | (go_ret; exact ⟨ret_int (by omega), rfl⟩) | omega
  · go_enter Try.func77, Try.ntmps77
    go_wp2
    go_ret
    exact ⟨rfl, rfl⟩
  · go_enter Try.func77, Try.ntmps77
    go_wp2
    go_ret
    exact ⟨rfl, rfl⟩
  · go_enter Try.func77, Try.ntmps77
    go_wp2
    go_ret
    exact ⟨rfl, rfl⟩
  · rw [show max (-1) (min 1 n) = 1 by omega]
    go_enter Try.func77, Try.ntmps77
    go_wp2
    all_goals first | (go_ret; exact ⟨ret_int (by omega), rfl⟩) | omega
set_option maxHeartbeats 1000000 in
theorem compare_c (p q : Rat) (w : World) (hp : Sm p) (hq : Sm q) :
    Calls Try.prog 72 #[.agg #[.int .i64 (p).num, .int .i64 ((p).den : Int)], .agg #[.int .i64 (q).num, .int .i64 ((q).den : Int)]] w fun e w' => e = .returned (.int .i64 (cmpV p q)) ∧ Below w.heap.size w w' := by
  have F := hide fun w => minusI_c p q w hp hq
  have HC : Hid (cmpV p q = max (-1) (min 1 (p - q).num)) := rfl
  obtain ⟨r, hr⟩ : ∃ r, p - q = r := ⟨_, rfl⟩
  rw [hr] at F HC
  obtain ⟨c, hc⟩ : ∃ c, cmpV p q = c := ⟨_, rfl⟩
  rw [hc] at HC ⊢
  have G := hide fun w => signC_c r.num w
  rw [← HC.out] at G
  have f0 := fld0
  clear hr hc hp hq
  go_enter Try.func72, Try.ntmps72
  go_wp2_with fail
  refine (F.out _).mono ?_
  rintro e w1 ⟨rfl, hb1⟩
  obtain ⟨hc1, hf1⟩ := bcell hb1
  have hz1 := hb1.size
  go_wp2_with fail
  refine (G.out _).mono ?_
  rintro e w2 ⟨rfl, rfl⟩
  go_wp2_with fail
  go_ret
  exact ⟨rfl, by (repeat (first | exact Below.refl _ _ | assumption | refine Below.setCell ?_ (by first | (simp; done) | omega | (simp; omega) | (simp at *; omega)) _ | refine Below.drew ?_ | refine below_drewN ?_ _ | refine below_alloc' ?_ _ | refine below_to' ?_ (by assumption)))⟩

/-- The least of the first values, the first such. -/
def mnF (F : Nat → Rat) : Nat → Rat
  | 0 => F 0
  | j + 1 => if F (j + 1) < mnF F j then F (j + 1) else mnF F j
theorem mnF_succ (F : Nat → Rat) (j : Nat) : mnF F (j + 1) = if F (j + 1) < mnF F j then F (j + 1) else mnF F j := rfl
theorem mnF_mnE (m : Nat → Nat → Rat) (n : Nat) : ∀ j, mnF (fun q => eR m q n) j = mnE m n j
  | 0 => rfl
  | j + 1 => by rw [mnF_succ, mnF_mnE m n j]; rfl
theorem mnF_P {F : Nat → Rat} {P : Rat → Prop} : ∀ j, (∀ i, i ≤ j → P (F i)) → P (mnF F j)
  | 0, h => h 0 (Nat.le_refl _)
  | j + 1, h => by
    rw [mnF_succ]
    split
    · exact h _ (Nat.le_refl _)
    · exact mnF_P j fun i hi => h i (by omega)
theorem callFuncCmp (args : Array Value) (w : World) : (callFunc 72 args).run Try.prog w = .ok (.enter 72 args) w := by kernel_rfl

set_option maxHeartbeats 2000000 in
theorem minFunc_c (v : Value) (ps : List (Int × Int)) (F : Nat → Rat) (w : World) (hr : RdP w v ps) (h0 : 1 ≤ ps.length) (hF : ∀ j, j < ps.length → pAt ps j = frp (F j) ∧ Sm (F j)) :
    Calls Try.prog 71 #[v, .func (.func 72) #[] #[]] w fun e w' => e = .returned (.agg #[.int .i64 (mnF F (ps.length - 1)).num, .int .i64 ((mnF F (ps.length - 1)).den : Int)]) ∧ Below w.heap.size w w' := by
  have hcf := callFuncCmp
  obtain ⟨A, c, rfl, hc, hm, hcell⟩ := hr
  obtain ⟨g, off, rfl, hg, hcl⟩ := hcell h0
  have HCL : Hid (∀ j, j < ps.length → w.cell? ⟨g, off + j * 2, none⟩ = some (.int .i64 (F j).num) ∧ w.cell? ⟨g, off + j * 2 + 1, none⟩ = some (.int .i64 ((F j).den : Int))) := fun j hj => by
    have := hcl j hj
    rw [(hF j hj).1] at this
    exact this
  have HS : Hid (∀ j, j < ps.length → Sm (F j)) := fun j hj => (hF j hj).2
  have HMS : Hid (∀ j, j < ps.length → Sm (mnF F j)) := fun j hj => mnF_P (P := Sm) j fun i hi => (hF i (by omega)).2
  have c0 := (HCL.out 0 h0).1
  have c1 := (HCL.out 0 h0).2
  rw [Nat.zero_mul, Nat.add_zero] at c0 c1
  have hlt1 : decide ((ps.length : Int) < 1) = false := decide_eq_false (by omega)
  obtain ⟨n, hn⟩ : ∃ n, ps.length = n := ⟨_, rfl⟩
  rw [hn] at HCL HS HMS h0 hc hlt1 ⊢
  have HM0 : Hid (mnF F 0 = F 0) := rfl
  obtain ⟨f0, hf0⟩ : ∃ f, F 0 = f := ⟨_, rfl⟩
  rw [hf0] at c0 c1 HM0
  obtain ⟨W, hW, hbW, hWs, hRW⟩ := new1 w 24 0 0
  obtain ⟨V, hV, hbV, hVs, hPV⟩ := new1 W 24 f0.num f0.den
  have HRW := hide (hRW.below hbV (by omega))
  rw [hWs] at hbV hPV hVs
  have HPV := hide hPV
  have c0 := (hbW.cell (p := ⟨g, off, none⟩) hg).trans c0
  have c1 := (hbW.cell (p := ⟨g, off + 1, none⟩) hg).trans c1
  have hbwV : Below w.heap.size w V := hbW.trans (hbV.mono (by omega))
  clear hcl hcell hF hn hf0 hRW hPV
  go_enter Try.func71, Try.ntmps71
  go_wp2_with fail
  clear hV hW c0 c1
  go_loopw [6] (fun i wr => ∃ j : Nat, 1 ≤ j ∧ j ≤ n ∧ i = .int .i64 j ∧ Hid (Below (w.heap.size + 1) V wr ∧ Pr wr (w.heap.size + 1) (mnF F (j - 1)).num ((mnF F (j - 1)).den : Int))) (fun i _ => n - (intOf i).toNat)
  case atStart => exact ⟨1, by omega, h0, rfl, Below.refl _ _, by rw [show 1 - 1 = 0 by omega, HM0.out]; exact HPV.out⟩
  case round =>
    obtain ⟨j, hj1, hj, rfl, hwr⟩ := hrel
    have hbel := hwr.out.1
    have hzr := hbel.size
    have hbw : Below w.heap.size w wr := hbwV.trans (hbel.mono (by omega))
    by_cases hjn : j < n
    · obtain ⟨t1, t2⟩ := HCL.out j hjn
      have t1 := (hbw.cell (p := ⟨g, _, none⟩) hg).trans t1
      have t2 := (hbw.cell (p := ⟨g, _, none⟩) hg).trans t2
      have KC := hide fun u => compare_c (F j) (mnF F (j - 1)) u (HS.out j hjn) (HMS.out (j - 1) (by omega))
      have HST : Hid (mnF F (j + 1 - 1) = if F j < mnF F (j - 1) then F j else mnF F (j - 1)) := by
        show _ = _
        have := mnF_succ F (j - 1)
        rwa [show j - 1 + 1 = j by omega] at this
      have HCV := hide (cmpV_neg (F j) (mnF F (j - 1)))
      obtain ⟨X, hX⟩ : ∃ X, F j = X := ⟨_, rfl⟩
      obtain ⟨M, hM⟩ : ∃ M, mnF F (j - 1) = M := ⟨_, rfl⟩
      have hpm := hwr.out.2
      rw [hX] at t1 t2 KC HST HCV
      rw [hM] at KC HST HCV hpm
      obtain ⟨s, hs⟩ : ∃ s, cmpV X M = s := ⟨_, rfl⟩
      rw [hs] at KC HCV
      have HPM := hide hpm
      obtain ⟨⟨a1, a2⟩, -, -⟩ := hpm
      have k1 := cell_grn (Below.refl wr.heap.size wr) (by omega) t1
      have k2 := cell_grn (Below.refl wr.heap.size wr) (by omega) t2
      have k3 := cell_grn (Below.refl wr.heap.size wr) (by omega) a1
      have k4 := cell_grn (Below.refl wr.heap.size wr) (by omega) a2
      have ij : (j : Int) < (n : Int) := by omega
      have HT := hide (And.intro t1 t2)
      clear hX hM hs t1 t2 a1 a2
      go_wp2_with fail
      refine wp_region_below (by kernel_rfl) (by kernel_rfl) ?_
      repeat (go_big_quiet_step ((with_reducible exact calls_grn KC.out)))
      refine wpQuiet_nil ?_
      intro w4 hb4
      have hpm4 := HPM.out.below hb4 (by omega)
      have hz4 := hb4.size
      have t1 := (hb4.cell (p := ⟨g, off + j * 2, none⟩) (by show g < _; omega)).trans HT.out.1
      have t2 := (hb4.cell (p := ⟨g, off + j * 2 + 1, none⟩) (by show g < _; omega)).trans HT.out.2
      clear k1 k2 k3 k4
      by_cases hsn : s < 0
      · have hlt : X < M := by
          have := HCV.out
          rw [decide_eq_true hsn] at this
          exact of_decide_eq_true this.symm
        have HX : Hid (mnF F (j + 1 - 1) = X) := by show _ = _; rw [HST.out, if_pos hlt]
        obtain ⟨Z, hZ, hbZ, hPZ, hZs, _⟩ := hpm4.put X.num X.den
        obtain ⟨⟨a1, a2⟩, a3, a4⟩ := hpm4
        have HPZ := hide hPZ
        clear hlt hPZ
        go_wp2_with fail
        clear hZ
        go_roundw
        case rel => exact ⟨j + 1, by omega, by omega, by go_num, hbel.trans ((hb4.mono (by omega)).trans hbZ), by rw [HX.out]; exact HPZ.out⟩
        case measure => simp [intOf]; omega
      · have hlt : ¬ X < M := by
          have := HCV.out
          rw [decide_eq_false hsn] at this
          exact of_decide_eq_false this.symm
        have HX : Hid (mnF F (j + 1 - 1) = M) := by show _ = _; rw [HST.out, if_neg hlt]
        have HPZ := hide hpm4
        clear hlt hpm4
        go_wp2_with fail
        go_roundw
        case rel => exact ⟨j + 1, by omega, by omega, by go_num, hbel.trans (hb4.mono (by omega)), by rw [HX.out]; exact HPZ.out⟩
        case measure => simp [intOf]; omega
    · obtain rfl : j = n := by omega
      obtain ⟨M, hM⟩ : ∃ M, mnF F (j - 1) = M := ⟨_, rfl⟩
      have hpm := hwr.out.2
      rw [hM] at hpm
      have HM := hide hM
      have hRr := HRW.out.keep hbel (by omega)
      obtain ⟨Z, hZ, hbZ, hPZ, hZs, _⟩ := hRr.put M.num M.den
      obtain ⟨⟨a1, a2⟩, -, -⟩ := hpm
      obtain ⟨⟨r1, r2⟩, r3, r4⟩ := hRr
      obtain ⟨⟨z1, z2⟩, -, -⟩ := hPZ
      clear hM
      go_wp2_with fail
      refine bodyPost_ret (v := .agg #[.int .i64 (M).num, .int .i64 ((M).den : Int)]) (by simp [results, Try.results71, go_sem, z1, z2]) rfl ⟨by rw [HM.out], hbw.trans hbZ⟩
end Go.Proofs.Ytgageljahebjnaa
