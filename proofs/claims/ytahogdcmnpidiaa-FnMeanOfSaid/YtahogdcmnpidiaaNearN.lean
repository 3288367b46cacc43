/-
  The nearest line where the cloud is not valid: zeros, in both.
-/
import Derived.Test.YtahogdcmnpidiaaNearS
namespace Go.Proofs.Ytahogdcmnpidiaa
open Go.RowKit

/-- What NearLine answers: the numbers of slope, height, distance, and whether there is a line. -/
def nearQ (xs ys : List Int) : (Int × Int) × (Int × Int) × (Int × Int) × Bool := if okCloud xs ys = true then (oS (bestP xs ys xs.length), oH (bestP xs ys xs.length), oF (bestP xs ys xs.length), true) else ((0, 0), (0, 0), (0, 0), false)

set_option maxRecDepth 100000 in
set_option maxHeartbeats 4000000 in
theorem NearS_no (u v : Value) (xs ys : List Int) (w : World) (hx : Rd w u xs) (hy : Rd w v ys) (hok : okCloud xs ys = false) :
    Calls Try.prog 27 #[u, v] w fun e w' => e = .returned (.tuple #[.agg #[.int .i64 0, .int .i64 0], .agg #[.int .i64 0, .int .i64 0], .agg #[.int .i64 0, .int .i64 0], .bool false]) ∧ Below w.heap.size w w' := by
  have K := hide fun w hx hy => validCloudS_c u v xs ys false w hx hy hok
  clear hok
  obtain ⟨A, c, rfl, hc, hm, _⟩ := id hx
  obtain ⟨A2, c2, rfl, hc2, hm2, _⟩ := id hy
  obtain ⟨W, hW, hbW, hWs, R0, R1, R2⟩ := new3 w 31
  have HRES := hide (And.intro R0 (And.intro R1 R2))
  have hxW := hx.below hbW
  have hyW := hy.below hbW
  clear R0 R1 R2
  go_enter Try.func27, Try.ntmps27
  go_wp2_with fail
  clear hW
  refine (K.out _ hxW hyW).mono ?_
  rintro e w1 ⟨rfl, hb1⟩
  obtain ⟨⟨r1, r2⟩, r3, r4⟩ := HRES.out.1.keep hb1 (by omega)
  obtain ⟨⟨r5, r6⟩, r7, r8⟩ := HRES.out.2.1.keep hb1 (by omega)
  obtain ⟨⟨r9, r10⟩, r11, r12⟩ := HRES.out.2.2.keep hb1 (by omega)
  have hbw := hbW.trans (hb1.mono hbW.size)
  have hsz : w.heap.size + 1 + 1 < w1.heap.size := by have := hb1.size; omega
  have hsz1 : w.heap.size + 1 < w1.heap.size := by omega
  have hsz0 : w.heap.size < w1.heap.size := by omega
  clear K hx hy hxW hyW HRES hb1 hbW
  obtain ⟨p0, hp0⟩ : ∃ p, w.heap.size = p := ⟨_, rfl⟩
  obtain ⟨p1, hp1⟩ : ∃ p, p0 + 1 = p := ⟨_, rfl⟩
  obtain ⟨p2, hp2⟩ : ∃ p, p1 + 1 = p := ⟨_, rfl⟩
  have n10 : ¬ p0 = p1 := by omega
  have n11 : ¬ p0 = p2 := by omega
  have n12 : ¬ p1 = p2 := by omega
  have n13 : ¬ p1 = p0 := by omega
  have n14 : ¬ p2 = p0 := by omega
  have n15 : ¬ p2 = p1 := by omega
  rw [hp0, hp1, hp2]
  rw [hp0] at r1 r2 r3 r4 r5 r6 r7 r8 r9 r10 r11 r12 hsz hsz0 hsz1 hbw
  rw [hp1] at r5 r6 r7 r8 r9 r10 r11 r12 hsz hsz1
  rw [hp2] at r9 r10 r11 r12 hsz
  have hB1 : p0 ≤ p1 := by omega
  have hB2 : p0 ≤ p2 := by omega
  clear hp1 hp2 hWs
  go_wp2_with fail
  refine bodyPost_ret (v := .tuple #[.agg #[.int .i64 0, .int .i64 0], .agg #[.int .i64 0, .int .i64 0], .agg #[.int .i64 0, .int .i64 0], .bool false]) (by simp [results, Try.results27, go_sem, r1, r2, r5, r6, r9, r10, n10, n11, n12, n13, n14, n15]) rfl ⟨rfl, ?_⟩
  rw [hp0]
  refine Below.setCell ?_ hB2 _
  refine Below.setCell ?_ hB2 _
  refine Below.setCell ?_ hB1 _
  refine Below.setCell ?_ hB1 _
  refine Below.setCell ?_ (Nat.le_refl p0) _
  refine Below.setCell ?_ (Nat.le_refl p0) _
  exact hbw

set_option maxRecDepth 100000 in
set_option maxHeartbeats 4000000 in
theorem NearI_no (u v : Value) (xs ys : List Int) (w : World) (hx : Rd w u xs) (hy : Rd w v ys) (hok : okCloud xs ys = false) :
    Calls Try.prog 28 #[u, v] w fun e w' => e = .returned (.tuple #[.agg #[.int .i64 0, .int .i64 0], .agg #[.int .i64 0, .int .i64 0], .agg #[.int .i64 0, .int .i64 0], .bool false]) ∧ Below w.heap.size w w' := by
  have K := hide fun w hx hy => ValidCloudI_c u v xs ys false w hx hy hok
  clear hok
  obtain ⟨A, c, rfl, hc, hm, _⟩ := id hx
  obtain ⟨A2, c2, rfl, hc2, hm2, _⟩ := id hy
  obtain ⟨W, hW, hbW, hWs, R0, R1, R2⟩ := new3 w 31
  have HRES := hide (And.intro R0 (And.intro R1 R2))
  have hxW := hx.below hbW
  have hyW := hy.below hbW
  clear R0 R1 R2
  go_enter Try.func28, Try.ntmps28
  go_wp2_with fail
  clear hW
  refine (K.out _ hxW hyW).mono ?_
  rintro e w1 ⟨rfl, hb1⟩
  obtain ⟨⟨r1, r2⟩, r3, r4⟩ := HRES.out.1.keep hb1 (by omega)
  obtain ⟨⟨r5, r6⟩, r7, r8⟩ := HRES.out.2.1.keep hb1 (by omega)
  obtain ⟨⟨r9, r10⟩, r11, r12⟩ := HRES.out.2.2.keep hb1 (by omega)
  have hbw := hbW.trans (hb1.mono hbW.size)
  have hsz : w.heap.size + 1 + 1 < w1.heap.size := by have := hb1.size; omega
  have hsz1 : w.heap.size + 1 < w1.heap.size := by omega
  have hsz0 : w.heap.size < w1.heap.size := by omega
  clear K hx hy hxW hyW HRES hb1 hbW
  obtain ⟨p0, hp0⟩ : ∃ p, w.heap.size = p := ⟨_, rfl⟩
  obtain ⟨p1, hp1⟩ : ∃ p, p0 + 1 = p := ⟨_, rfl⟩
  obtain ⟨p2, hp2⟩ : ∃ p, p1 + 1 = p := ⟨_, rfl⟩
  have n10 : ¬ p0 = p1 := by omega
  have n11 : ¬ p0 = p2 := by omega
  have n12 : ¬ p1 = p2 := by omega
  have n13 : ¬ p1 = p0 := by omega
  have n14 : ¬ p2 = p0 := by omega
  have n15 : ¬ p2 = p1 := by omega
  rw [hp0, hp1, hp2]
  rw [hp0] at r1 r2 r3 r4 r5 r6 r7 r8 r9 r10 r11 r12 hsz hsz0 hsz1 hbw
  rw [hp1] at r5 r6 r7 r8 r9 r10 r11 r12 hsz hsz1
  rw [hp2] at r9 r10 r11 r12 hsz
  have hB1 : p0 ≤ p1 := by omega
  have hB2 : p0 ≤ p2 := by omega
  clear hp1 hp2 hWs
  go_wp2_with fail
  refine bodyPost_ret (v := .tuple #[.agg #[.int .i64 0, .int .i64 0], .agg #[.int .i64 0, .int .i64 0], .agg #[.int .i64 0, .int .i64 0], .bool false]) (by simp [results, Try.results28, go_sem, r1, r2, r5, r6, r9, r10, n10, n11, n12, n13, n14, n15]) rfl ⟨rfl, ?_⟩
  rw [hp0]
  refine Below.setCell ?_ hB2 _
  refine Below.setCell ?_ hB2 _
  refine Below.setCell ?_ hB1 _
  refine Below.setCell ?_ hB1 _
  refine Below.setCell ?_ (Nat.le_refl p0) _
  refine Below.setCell ?_ (Nat.le_refl p0) _
  exact hbw
end Go.Proofs.Ytahogdcmnpidiaa
