/-
  Plain facts on the least sum of distances of a rising row: it is nothing exactly where the numbers rise; it is not more than the row of highest numbers so far costs; it is the same turned round and negated.
-/
import Derived.Test.YtahogdcmnpidiaaRiseO
namespace Go.Proofs.Ytahogdcmnpidiaa
open Go.RowKit

theorem at_rev {xs : List Int} {i : Nat} (h : i < xs.length) : atL xs.reverse i = atL xs (xs.length - 1 - i) := by
  have h2 : xs.length - 1 - i < xs.length := by omega
  simp [atL, List.getD, List.getElem_reverse, h, h2]
theorem at_neg {xs : List Int} {i : Nat} (h : i < xs.length) : atL (negL xs) i = -atL xs i := by simp [atL, negL, List.getD, h]
theorem riseX_ok {xs ws : List Int} (h : okLoads xs ws = true) : riseX xs ws = bestR (fun i => (hN xs i : Int)) (wN ws) xs.length 60 := by rw [riseX, if_pos h]
theorem riseX_bd {xs ws : List Int} (h : okLoads xs ws = true) : 0 ≤ riseX xs ws ∧ riseX xs ws ≤ 2400 := by
  obtain ⟨l1, l8, hl, hxs, hws⟩ := okLoads_all h
  rw [riseX_ok h, bestR_PL]
  have := pm_bd (f := PL xs ws xs.length) (lo := 0) (hi := 300 * (xs.length : Int)) (h := 60) fun k hk => PL_bd hxs hws hl _ (Nat.le_refl _) k hk
  omega
theorem hN_at {xs : List Int} (hx : allB (-30) 30 xs = true) {i : Nat} (h : i < xs.length) : (hN xs i : Int) = atL xs i + 30 ∧ hN xs i ≤ 60 := by
  have := allB_at hx h
  unfold hN
  omega
theorem riseX_zero {xs ws : List Int} (h : okLoads xs ws = true) : riseX xs ws = 0 ↔ AscI xs := by
  obtain ⟨l1, l8, hl, hxs, hws⟩ := okLoads_all h
  rw [riseX_ok h, best_zero (by omega) (fun i hi => (hN_at hxs hi).2) (fun i hi => by have := allB_at hws (j := i) (by omega); unfold wN; omega)]
  constructor
  · intro ha j hj
    have := ha j hj
    have a := (hN_at hxs (i := j) (by omega)).1
    have b := (hN_at hxs (i := j + 1) hj).1
    omega
  · intro ha j hj
    have := ha j hj
    have a := (hN_at hxs (i := j) (by omega)).1
    have b := (hN_at hxs (i := j + 1) hj).1
    omega
def farF (xs ws : List Int) : Nat → Int
  | 0 => 0
  | k + 1 => farF xs ws k + atL ws k * (topF xs k - atL xs k)
theorem farF_bd {xs ws : List Int} (hx : allB (-30) 30 xs = true) (hw : allB 1 5 ws = true) (hl : xs.length = ws.length) : ∀ k, k ≤ xs.length → 0 ≤ farF xs ws k ∧ farF xs ws k ≤ 300 * (k : Int)
  | 0, _ => by simp [farF]
  | k + 1, hk => by
    have ih := farF_bd hx hw hl k (by omega)
    have a := allB_at hx (j := k) (by omega)
    have b := allB_at hw (j := k) (by omega)
    have c := topF_allB hx k (by omega)
    have d := topF_ge xs k
    have m1 := Int.mul_nonneg (a := atL ws k) (b := topF xs k - atL xs k) (by omega) (by omega)
    have m2 : atL ws k * (topF xs k - atL xs k) ≤ 5 * 60 := Int.mul_le_mul (by omega) (by omega) (by omega) (by omega)
    simp only [farF]
    omega
theorem cost_far {xs ws : List Int} (hx : allB (-30) 30 xs = true) : ∀ k, k ≤ xs.length → costR (fun i => (hN xs i : Int)) (wN ws) (fun i => (topF xs i + 30).toNat) k = farF xs ws k
  | 0, _ => rfl
  | k + 1, hk => by
    have ih := cost_far (ws := ws) hx k (by omega)
    have c := topF_allB hx k (by omega)
    have d := topF_ge xs k
    have a := (hN_at hx (i := k) (by omega)).1
    simp only [costR, farF]
    rw [ih]
    congr 1
    show wN ws k * ab ((hN xs k : Int) - ((topF xs k + 30).toNat : Int)) = _
    unfold wN
    congr 1
    unfold ab
    omega
theorem riseX_far {xs ws : List Int} (h : okLoads xs ws = true) : riseX xs ws ≤ farF xs ws xs.length := by
  obtain ⟨l1, l8, hl, hxs, hws⟩ := okLoads_all h
  rw [riseX_ok h, ← cost_far hxs _ (Nat.le_refl _)]
  refine best_le (by omega) (fun i hi => ?_) ?_
  · have := topF_asc xs i
    show (topF xs i + 30).toNat ≤ (topF xs (i + 1) + 30).toNat
    omega
  · have := topF_allB hxs (xs.length - 1) (by omega)
    show (topF xs (xs.length - 1) + 30).toNat ≤ 60
    omega
theorem riseX_turn {xs ws : List Int} (h : okLoads xs ws = true) : riseX (negL xs.reverse) ws.reverse = riseX xs ws := by
  obtain ⟨l1, l8, hl, hxs, hws⟩ := okLoads_all h
  have hlr : (negL xs.reverse).length = xs.length := by rw [negL_len, List.length_reverse]
  have h1 : allB (-30) 30 (negL xs.reverse) = true := allB_iff.2 fun y hy => by
    obtain ⟨x, hx1, rfl⟩ := List.mem_map.1 hy
    have := (allB_iff.1 hxs) x (List.mem_reverse.1 hx1)
    omega
  have h2 : allB 1 5 ws.reverse = true := allB_iff.2 fun y hy => (allB_iff.1 hws) y (List.mem_reverse.1 hy)
  have hok : okLoads (negL xs.reverse) ws.reverse = true := okLoads_yes (by omega) (by omega) (by rw [hlr, List.length_reverse]; exact hl) h1 h2
  rw [riseX_ok hok, riseX_ok h, hlr]
  rw [← best_turn (xs := hN xs) (ws := wN ws) (n := xs.length) (T := 60) (by omega) fun i hi => (hN_at hxs hi).2]
  refine bestR_congr (fun i hi => ?_) fun i hi => ?_
  · have a := hN_at hxs (i := xs.length - 1 - i) (by omega)
    have b := (hN_at h1 (i := i) (by omega)).1
    rw [at_neg (by rw [List.length_reverse]; exact hi), at_rev hi] at b
    rw [b]
    omega
  · show atL ws.reverse i = atL ws (xs.length - 1 - i)
    rw [at_rev (by omega), hl]
end Go.Proofs.Ytahogdcmnpidiaa
