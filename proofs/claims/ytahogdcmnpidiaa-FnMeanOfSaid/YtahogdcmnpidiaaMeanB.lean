/-
  MeanOf of the reference and of the program.
-/
import Derived.Test.YtahogdcmnpidiaaMeanO
import Derived.Test.YtahogdcmnpidiaaHullS
namespace Go.Proofs.Ytahogdcmnpidiaa
open Go.RowKit

def okA (xs : List Int) (i : Int) : Bool := decide (0 ≤ i) && decide (i ≤ (xs.length : Int) - 1)
def okB (xs : List Int) (i k : Int) : Bool := decide (i ≤ k) && decide (k ≤ (xs.length : Int) - 1)
def okM (xs ws : List Int) (i k : Int) : Bool := okLoads xs ws && (okA xs i && okB xs i k)
def meanM (xs ws : List Int) (i k : Int) : Rat := meanR xs ws i.toNat (k - i + 1).toNat
def meanT (xs ws : List Int) (i k : Int) : Value := if okM xs ws i k = true then .tuple #[.agg #[.int .i64 (meanM xs ws i k).num, .int .i64 ((meanM xs ws i k).den : Int)], .bool true] else .tuple #[.agg #[.int .i64 0, .int .i64 0], .bool false]

set_option maxHeartbeats 4000000 in
theorem MeanOfS_c (u v : Value) (xs ws : List Int) (i k : Int) (w : World) (hx : Rd w u xs) (hy : Rd w v ws) (hi : -1000 ≤ i ∧ i ≤ 1000) (hk : -1000 ≤ k ∧ k ≤ 1000) :
    Calls Try.prog 39 #[u, v, .int .i64 i, .int .i64 k] w fun e w' => e = .returned (meanT xs ws i k) ∧ Below w.heap.size w w' := by
  obtain ⟨A, c, rfl, hc, hm, _⟩ := id hx
  obtain ⟨A2, c2, rfl, hc2, hm2, _⟩ := id hy
  obtain ⟨W, hW, hbW, hWs, HP⟩ := new1 w 31 0 0
  have HRES := hide HP
  have hxW := hx.below hbW
  have hyW := hy.below hbW
  cases hok : okLoads xs ws
  · have HX : Hid (meanT xs ws i k = .tuple #[.agg #[.int .i64 0, .int .i64 0], .bool false]) := by show _ = _; simp [meanT, okM, hok]
    have K := hide fun w hx hy => validLoadsS_c (.slice A xs.length c) (.slice A2 ws.length c2) xs ws false w hx hy hok
    clear hok HP
    go_enter Try.func39, Try.ntmps39
    go_wp2_with fail
    clear hW
    refine (K.out _ hxW hyW).mono ?_
    rintro e w1 ⟨rfl, rfl⟩
    have hb1 := Below.refl W.heap.size W
    obtain ⟨⟨r1, r2⟩, r3, r4⟩ := HRES.out.keep hb1 hWs
    have hs0 := Nat.lt_of_lt_of_le hWs hb1.size
    go_wp2_with fail
    refine bodyPost_ret (v := .tuple #[.agg #[.int .i64 0, .int .i64 0], .bool false]) (by simp [results, Try.results39, go_sem, r1, r2]) rfl ⟨HX.out.symm ▸ rfl, ?_⟩
    exact ((hbW.trans (hb1.mono hbW.size)).setCell (Nat.le_refl _) _).setCell (Nat.le_refl _) _
  have K := hide fun w hx hy => validLoadsS_c (.slice A xs.length c) (.slice A2 ws.length c2) xs ws true w hx hy hok
  obtain ⟨l1, l8, hl, hxs, hws⟩ := okLoads_all hok
  have e1 : IntKind.i64.wrap ((xs.length : Int) - 1) = (xs.length : Int) - 1 := IntWalk.i64_in _ (by omega)
  cases ha : okA xs i
  · have HX : Hid (meanT xs ws i k = .tuple #[.agg #[.int .i64 0, .int .i64 0], .bool false]) := by show _ = _; simp [meanT, okM, ha]
    have KA := hide fun w => inRange_c false i 0 ((xs.length : Int) - 1) w ha
    clear hok HP hl ha
    go_enter Try.func39, Try.ntmps39
    go_wp2_with fail
    clear hW
    refine (K.out _ hxW hyW).mono ?_
    rintro e w1 ⟨rfl, rfl⟩
    have hb1 := Below.refl W.heap.size W
    go_wp2_with fail
    refine (KA.out _).mono ?_
    rintro e w2 ⟨rfl, rfl⟩
    obtain ⟨⟨r1, r2⟩, r3, r4⟩ := HRES.out
    go_wp2_with fail
    refine bodyPost_ret (v := .tuple #[.agg #[.int .i64 0, .int .i64 0], .bool false]) (by simp [results, Try.results39, go_sem, r1, r2]) rfl ⟨HX.out.symm ▸ rfl, ?_⟩
    exact (hbW.setCell (Nat.le_refl _) _).setCell (Nat.le_refl _) _
  cases hb : okB xs i k
  · have HX : Hid (meanT xs ws i k = .tuple #[.agg #[.int .i64 0, .int .i64 0], .bool false]) := by show _ = _; simp [meanT, okM, hb]
    have KA := hide fun w => inRange_c true i 0 ((xs.length : Int) - 1) w ha
    have KB := hide fun w => inRange_c false k i ((xs.length : Int) - 1) w hb
    clear hok HP hl ha hb
    go_enter Try.func39, Try.ntmps39
    go_wp2_with fail
    clear hW
    refine (K.out _ hxW hyW).mono ?_
    rintro e w1 ⟨rfl, rfl⟩
    go_wp2_with fail
    refine (KA.out _).mono ?_
    rintro e w2 ⟨rfl, rfl⟩
    go_wp2_with fail
    refine (KB.out _).mono ?_
    rintro e w3 ⟨rfl, rfl⟩
    obtain ⟨⟨r1, r2⟩, r3, r4⟩ := HRES.out
    go_wp2_with fail
    refine bodyPost_ret (v := .tuple #[.agg #[.int .i64 0, .int .i64 0], .bool false]) (by simp [results, Try.results39, go_sem, r1, r2]) rfl ⟨HX.out.symm ▸ rfl, ?_⟩
    exact (hbW.setCell (Nat.le_refl _) _).setCell (Nat.le_refl _) _
  have HX : Hid (meanT xs ws i k = .tuple #[.agg #[.int .i64 (meanM xs ws i k).num, .int .i64 ((meanM xs ws i k).den : Int)], .bool true]) := by show _ = _; simp [meanT, okM, hok, ha, hb]
  have ha' : 0 ≤ i ∧ i ≤ (xs.length : Int) - 1 := by simpa [okA] using ha
  have hb' : i ≤ k ∧ k ≤ (xs.length : Int) - 1 := by simpa [okB] using hb
  obtain ⟨I, rfl⟩ := Int.eq_ofNat_of_zero_le ha'.1
  have KM := hide fun (w : World) (hx : Rd w (.slice A xs.length c) xs) (hy : Rd w (.slice A2 ws.length c2) ws) => meanS_c (.slice A xs.length c) (.slice A2 ws.length c2) xs ws I (k - I + 1).toNat k w hx hy hxs hws (by omega) (by omega) (by omega) (by omega) (by omega) (by omega)
  have HMM : Hid (meanM xs ws I k = meanR xs ws I (k - I + 1).toNat) := by show _ = _; rw [meanM, Int.toNat_natCast]
  rw [HMM.out] at HX
  obtain ⟨r, hr⟩ : ∃ r, meanR xs ws I (k - I + 1).toNat = r := ⟨_, rfl⟩
  rw [hr] at KM HX
  clear hok hl hxs hws hr HMM HP
  have KA := hide fun w => inRange_c true (I : Int) 0 ((xs.length : Int) - 1) w ha
  have KB := hide fun w => inRange_c true k (I : Int) ((xs.length : Int) - 1) w hb
  clear ha hb
  go_enter Try.func39, Try.ntmps39
  go_wp2_with fail
  clear hW
  refine (K.out _ hxW hyW).mono ?_
  rintro e w1 ⟨rfl, rfl⟩
  have hb1 := Below.refl W.heap.size W
  go_wp2_with fail
  refine (KA.out _).mono ?_
  rintro e w2 ⟨rfl, rfl⟩
  go_wp2_with fail
  refine (KB.out _).mono ?_
  rintro e w3 ⟨rfl, rfl⟩
  go_wp2_with fail
  refine (KM.out _ (hxW.below hb1) (hyW.below hb1)).mono ?_
  rintro e w2 ⟨rfl, hb2⟩
  obtain ⟨⟨r1, r2⟩, r3, r4⟩ := HRES.out.keep (hb1.trans (hb2.mono hb1.size)) hWs
  have hs0 : w.heap.size < w2.heap.size := by have := hb1.size; have := hb2.size; omega
  go_wp2_with fail
  refine bodyPost_ret (v := .tuple #[.agg #[.int .i64 (r).num, .int .i64 ((r).den : Int)], .bool true]) (by simp [results, Try.results39, go_sem, r1, r2]) rfl ⟨HX.out.symm ▸ rfl, ?_⟩
  exact ((hbW.trans ((hb1.trans (hb2.mono hb1.size)).mono hbW.size)).setCell (Nat.le_refl _) _).setCell (Nat.le_refl _) _
set_option maxHeartbeats 4000000 in
theorem MeanOfI_c (u v : Value) (xs ws : List Int) (i k : Int) (w : World) (hx : Rd w u xs) (hy : Rd w v ws) (hi : -1000 ≤ i ∧ i ≤ 1000) (hk : -1000 ≤ k ∧ k ≤ 1000) :
    Calls Try.prog 38 #[u, v, .int .i64 i, .int .i64 k] w fun e w' => e = .returned (meanT xs ws i k) ∧ Below w.heap.size w w' := by
  obtain ⟨A, c, rfl, hc, hm, _⟩ := id hx
  obtain ⟨A2, c2, rfl, hc2, hm2, _⟩ := id hy
  obtain ⟨W, hW, hbW, hWs, HP⟩ := new1 w 31 0 0
  have HRES := hide HP
  have hxW := hx.below hbW
  have hyW := hy.below hbW
  cases hok : okLoads xs ws
  · have HX : Hid (meanT xs ws i k = .tuple #[.agg #[.int .i64 0, .int .i64 0], .bool false]) := by show _ = _; simp [meanT, okM, hok]
    have K := hide fun w hx hy => ValidLoadsI_c (.slice A xs.length c) (.slice A2 ws.length c2) xs ws false w hx hy hok
    clear hok HP
    go_enter Try.func38, Try.ntmps38
    go_wp2_with fail
    clear hW
    refine (K.out _ hxW hyW).mono ?_
    rintro e w1 ⟨rfl, hb1⟩
    have hb1 := hb1
    obtain ⟨⟨r1, r2⟩, r3, r4⟩ := HRES.out.keep hb1 hWs
    have hs0 := Nat.lt_of_lt_of_le hWs hb1.size
    go_wp2_with fail
    refine bodyPost_ret (v := .tuple #[.agg #[.int .i64 0, .int .i64 0], .bool false]) (by simp [results, Try.results38, go_sem, r1, r2]) rfl ⟨HX.out.symm ▸ rfl, ?_⟩
    exact ((hbW.trans (hb1.mono hbW.size)).setCell (Nat.le_refl _) _).setCell (Nat.le_refl _) _
  have K := hide fun w hx hy => ValidLoadsI_c (.slice A xs.length c) (.slice A2 ws.length c2) xs ws true w hx hy hok
  obtain ⟨l1, l8, hl, hxs, hws⟩ := okLoads_all hok
  have e1 : IntKind.i64.wrap ((xs.length : Int) - 1) = (xs.length : Int) - 1 := IntWalk.i64_in _ (by omega)
  by_cases hno : i < 0 ∨ k < i ∨ (xs.length : Int) ≤ k
  · have HX : Hid (meanT xs ws i k = .tuple #[.agg #[.int .i64 0, .int .i64 0], .bool false]) := by
      have h0 : (okA xs i && okB xs i k) = false := by
        rw [← Bool.not_eq_true]
        simp only [okA, okB, Bool.and_eq_true, decide_eq_true_eq]
        omega
      show _ = _
      simp [meanT, okM, h0]
    clear hok HP hl
    by_cases h1 : i < 0
    · skip
      go_enter Try.func38, Try.ntmps38
      go_wp2_with fail
      clear hW
      refine (K.out _ hxW hyW).mono ?_
      rintro e w1 ⟨rfl, hb1⟩
      obtain ⟨⟨r1, r2⟩, r3, r4⟩ := HRES.out.keep hb1 hWs
      have hs0 := Nat.lt_of_lt_of_le hWs hb1.size
      go_wp2_with fail
      refine bodyPost_ret (v := .tuple #[.agg #[.int .i64 0, .int .i64 0], .bool false]) (by simp [results, Try.results38, go_sem, r1, r2]) rfl ⟨HX.out.symm ▸ rfl, ?_⟩
      exact ((hbW.trans (hb1.mono hbW.size)).setCell (Nat.le_refl _) _).setCell (Nat.le_refl _) _
    by_cases h2 : k < i
    · skip
      go_enter Try.func38, Try.ntmps38
      go_wp2_with fail
      clear hW
      refine (K.out _ hxW hyW).mono ?_
      rintro e w1 ⟨rfl, hb1⟩
      obtain ⟨⟨r1, r2⟩, r3, r4⟩ := HRES.out.keep hb1 hWs
      have hs0 := Nat.lt_of_lt_of_le hWs hb1.size
      go_wp2_with fail
      refine bodyPost_ret (v := .tuple #[.agg #[.int .i64 0, .int .i64 0], .bool false]) (by simp [results, Try.results38, go_sem, r1, r2]) rfl ⟨HX.out.symm ▸ rfl, ?_⟩
      exact ((hbW.trans (hb1.mono hbW.size)).setCell (Nat.le_refl _) _).setCell (Nat.le_refl _) _
    have h3 : (xs.length : Int) ≤ k := by omega
    clear hno
    go_enter Try.func38, Try.ntmps38
    go_wp2_with fail
    clear hW
    refine (K.out _ hxW hyW).mono ?_
    rintro e w1 ⟨rfl, hb1⟩
    obtain ⟨⟨r1, r2⟩, r3, r4⟩ := HRES.out.keep hb1 hWs
    have hs0 := Nat.lt_of_lt_of_le hWs hb1.size
    go_wp2_with fail
    refine bodyPost_ret (v := .tuple #[.agg #[.int .i64 0, .int .i64 0], .bool false]) (by simp [results, Try.results38, go_sem, r1, r2]) rfl ⟨HX.out.symm ▸ rfl, ?_⟩
    exact ((hbW.trans (hb1.mono hbW.size)).setCell (Nat.le_refl _) _).setCell (Nat.le_refl _) _
  have ha : okA xs i = true := by simp only [okA, Bool.and_eq_true, decide_eq_true_eq]; omega
  have hb : okB xs i k = true := by simp only [okB, Bool.and_eq_true, decide_eq_true_eq]; omega
  clear hno
  have HX : Hid (meanT xs ws i k = .tuple #[.agg #[.int .i64 (meanM xs ws i k).num, .int .i64 ((meanM xs ws i k).den : Int)], .bool true]) := by show _ = _; simp [meanT, okM, hok, ha, hb]
  have ha' : 0 ≤ i ∧ i ≤ (xs.length : Int) - 1 := by simpa [okA] using ha
  have hb' : i ≤ k ∧ k ≤ (xs.length : Int) - 1 := by simpa [okB] using hb
  obtain ⟨I, rfl⟩ := Int.eq_ofNat_of_zero_le ha'.1
  have KM := hide fun (w : World) (hx : Rd w (.slice A xs.length c) xs) (hy : Rd w (.slice A2 ws.length c2) ws) => meanI_c (.slice A xs.length c) (.slice A2 ws.length c2) xs ws I (k - I + 1).toNat k w hx hy hxs hws (by omega) (by omega) (by omega) (by omega) (by omega) (by omega)
  have HMM : Hid (meanM xs ws I k = meanR xs ws I (k - I + 1).toNat) := by show _ = _; rw [meanM, Int.toNat_natCast]
  rw [HMM.out] at HX
  obtain ⟨r, hr⟩ : ∃ r, meanR xs ws I (k - I + 1).toNat = r := ⟨_, rfl⟩
  rw [hr] at KM HX
  clear hok hl hxs hws hr HMM HP
  have h1 : ¬ (I : Int) < 0 := by omega
  have h2 : ¬ k < (I : Int) := by omega
  have h3 : ¬ (xs.length : Int) ≤ k := by omega
  clear ha hb
  go_enter Try.func38, Try.ntmps38
  go_wp2_with fail
  clear hW
  refine (K.out _ hxW hyW).mono ?_
  rintro e w1 ⟨rfl, hb1⟩
  have hb1 := hb1
  go_wp2_with fail
  refine (KM.out _ (hxW.below hb1) (hyW.below hb1)).mono ?_
  rintro e w2 ⟨rfl, hb2⟩
  obtain ⟨⟨r1, r2⟩, r3, r4⟩ := HRES.out.keep (hb1.trans (hb2.mono hb1.size)) hWs
  have hs0 : w.heap.size < w2.heap.size := by have := hb1.size; have := hb2.size; omega
  go_wp2_with fail
  refine bodyPost_ret (v := .tuple #[.agg #[.int .i64 (r).num, .int .i64 ((r).den : Int)], .bool true]) (by simp [results, Try.results38, go_sem, r1, r2]) rfl ⟨HX.out.symm ▸ rfl, ?_⟩
  exact ((hbW.trans ((hb1.trans (hb2.mono hb1.size)).mono hbW.size)).setCell (Nat.le_refl _) _).setCell (Nat.le_refl _) _

end Go.Proofs.Ytahogdcmnpidiaa
