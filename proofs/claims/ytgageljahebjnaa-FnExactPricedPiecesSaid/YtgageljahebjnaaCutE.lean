
/-
  Plain laws on the rows of leastCut and leastMisses; bounds.
-/
import Derived.Test.YtgageljahebjnaaCutD
import Derived.Test.YtgageljahebjnaaPieceP
import Derived.Test.YtgageljahebjnaaFrM
namespace Go.Proofs.Ytgageljahebjnaa
open Go.RowKit

def frp (q : Rat) : Int × Int := (q.num, (q.den : Int))
/-- What a piece costs. -/
def mR (xs : List Int) (i k : Nat) : Rat := missR (seg xs i k)
def eRow (m : Nat → Nat → Rat) (p n e : Nat) : List (Int × Int) := (List.range (n + 1)).map fun k => if p < k ∧ k < e then frp (eR m p k) else (0, 0)
theorem eRow_len (m : Nat → Nat → Rat) (p n e : Nat) : (eRow m p n e).length = n + 1 := by simp [eRow]
theorem eRow_get (m : Nat → Nat → Rat) {p n e k : Nat} (h : k ≤ n) : (eRow m p n e)[k]? = some (if p < k ∧ k < e then frp (eR m p k) else (0, 0)) := by
  simp [eRow, List.getElem?_range (show k < n + 1 by omega)]
theorem eRow_at (m : Nat → Nat → Rat) {p n e k : Nat} (h : k ≤ n) (h1 : p < k) (h2 : k < e) : pAt (eRow m p n e) k = frp (eR m p k) := by
  rw [pAt, List.getD, eRow_get m h, if_pos ⟨h1, h2⟩]; rfl
theorem eRow_start (m : Nat → Nat → Rat) {p n e : Nat} (h : e ≤ p + 1) : List.replicate (n + 1) ((0 : Int), (0 : Int)) = eRow m p n e := by
  apply List.ext_getElem?
  intro k
  by_cases hk : k ≤ n
  · rw [eRow_get m hk, if_neg (by omega), List.getElem?_replicate, if_pos (by omega)]
  · rw [List.getElem?_eq_none (by simp; omega), List.getElem?_eq_none (by rw [eRow_len]; omega)]
theorem eRow_set (m : Nat → Nat → Rat) {p n e : Nat} (hp : p < e) (he : e ≤ n) {q : Rat} (hq : q = eR m p e) : (eRow m p n e).set e (q.num, (q.den : Int)) = eRow m p n (e + 1) := by
  subst hq
  apply List.ext_getElem?
  intro k
  rw [List.getElem?_set]
  by_cases hk : k ≤ n
  · rw [eRow_get m hk, eRow_get m hk]
    by_cases e0 : e = k
    · subst e0
      rw [if_pos rfl, if_pos (by rw [eRow_len]; omega), if_pos ⟨hp, by omega⟩]
      rfl
    · rw [if_neg e0]
      by_cases h1 : p < k ∧ k < e
      · rw [if_pos h1, if_pos ⟨h1.1, by omega⟩]
      · rw [if_neg h1, if_neg (by omega)]
  · rw [if_neg (by omega), List.getElem?_eq_none (by rw [eRow_len]; omega), List.getElem?_eq_none (by rw [eRow_len]; omega)]
theorem set_at {ps : List (Int × Int)} {j : Nat} (hj : j < ps.length) (z : Int × Int) : pAt (ps.set j z) j = z := by simp [pAt, List.getD, hj]
theorem mA_next (m : Nat → Nat → Rat) (q k i : Nat) (h : 1 ≤ i) : mA m (aR m q) k (i + 1 - 1) = if aR m q i + m i k < mA m (aR m q) k (i - 1) then aR m q i + m i k else mA m (aR m q) k (i - 1) := by
  have := mA_succ m (aR m q) k (i - 1)
  rwa [show i - 1 + 1 = i by omega, show i = i + 1 - 1 by omega] at this
/-- The row while its entry e is being found, behind j places. -/
def eRowJ (m : Nat → Nat → Rat) (q n e : Nat) : Nat → List (Int × Int)
  | 0 => eRow m (q + 1) n e
  | j + 1 => (eRow m (q + 1) n e).set e (frp (mE m (eR m q) q e j))
theorem eRowJ_zero (m : Nat → Nat → Rat) (q n e : Nat) : eRowJ m q n e 0 = eRow m (q + 1) n e := rfl
theorem eRowJ_len (m : Nat → Nat → Rat) (q n e : Nat) : ∀ j, (eRowJ m q n e j).length = n + 1
  | 0 => eRow_len ..
  | j + 1 => by rw [eRowJ, List.length_set, eRow_len]
theorem eRowJ_at (m : Nat → Nat → Rat) {q n e : Nat} (he : e ≤ n) (j : Nat) : pAt (eRowJ m q n e (j + 1)) e = frp (mE m (eR m q) q e j) := set_at (by rw [eRow_len]; omega) _
theorem eRowJ_set (m : Nat → Nat → Rat) (q n e j : Nat) {x : Rat} (hx : x = mE m (eR m q) q e j) : (eRowJ m q n e j).set e (x.num, (x.den : Int)) = eRowJ m q n e (j + 1) := by
  subst hx
  cases j with
  | zero => rfl
  | succ j => rw [eRowJ, eRowJ, List.set_set]; rfl
theorem eRowJ_done (m : Nat → Nat → Rat) {q n e : Nat} (h1 : q + 2 ≤ e) (he : e ≤ n) : eRowJ m q n e (e - (q + 1)) = eRow m (q + 1) n (e + 1) := by
  rw [show e - (q + 1) = (e - (q + 2)) + 1 by omega, eRowJ]
  exact eRow_set m (by omega) he rfl
/-- The next place: better or not. -/
theorem mE_next (m : Nat → Nat → Rat) (q e a : Nat) (h : q + 2 ≤ a) : mE m (eR m q) q e (a - (q + 1)) = if eR m q a + m a e < mE m (eR m q) q e (a - (q + 2)) then eR m q a + m a e else mE m (eR m q) q e (a - (q + 2)) := by
  rw [show a - (q + 1) = (a - (q + 2)) + 1 by omega, mE_succ, show q + 2 + (a - (q + 2)) = a by omega]
def outL (m : Nat → Nat → Rat) (n p : Nat) : List (Int × Int) := (List.range (p + 1)).map fun q => frp (eR m q n)
theorem outL_len (m : Nat → Nat → Rat) (n p : Nat) : (outL m n p).length = p + 1 := by simp [outL]
theorem outL_zero (m : Nat → Nat → Rat) (n : Nat) : outL m n 0 = [frp (eR m 0 n)] := rfl
theorem outL_succ (m : Nat → Nat → Rat) (n p : Nat) : outL m n (p + 1) = outL m n p ++ [frp (eR m (p + 1) n)] := by
  unfold outL
  rw [List.range_succ, List.map_append]
  rfl
theorem outL_at (m : Nat → Nat → Rat) {n p q : Nat} (h : q ≤ p) : pAt (outL m n p) q = frp (eR m q n) := by
  simp [pAt, outL, List.getD, List.getElem?_range (show q < p + 1 by omega)]

theorem mR_fb {xs : List Int} (hall : allB (-30) 30 xs = true) (hn : xs.length ≤ 8) {i k : Nat} (h1 : i < k) (h2 : k ≤ xs.length) : FB 840 (756000 * ((k - i : Nat) : Int)) (mR xs i k) := by
  have hl := seg_len (xs := xs) (i := i) h2
  have := missR_fb (seg_allB hall i k) (by omega) (by omega)
  rwa [hl] at this
theorem CX.fb {xs : List Int} (hall : allB (-30) 30 xs = true) (hn : xs.length ≤ 8) : ∀ {p k : Nat} {r : Rat}, CX (mR xs) p k r → k ≤ xs.length → FB 840 (756000 * (k : Int)) r
  | 0, k, r, h, hk => by
    rw [h.2]
    exact mR_fb hall hn h.1 hk
  | p + 1, k, r, h, hk => by
    obtain ⟨i, r', h1, h2, rfl⟩ := h
    exact ((CX.fb hall hn h2 (by omega)).add (by omega) (mR_fb hall hn h1 hk)).mono (by omega)
theorem mR_sm {xs : List Int} (hall : allB (-30) 30 xs = true) (hn : xs.length ≤ 8) {i k : Nat} (h1 : i < k) (h2 : k ≤ xs.length) : Sm (mR xs i k) := sm_840 (mR_fb hall hn h1 h2) (by omega)
theorem eR_sm {xs : List Int} (hall : allB (-30) 30 xs = true) (hn : xs.length ≤ 8) {p k : Nat} (h1 : p < k) (h2 : k ≤ xs.length) : Sm (eR (mR xs) p k) := sm_840 ((eR_lst h1).1.fb hall hn h2) (by omega)
/-- One way more to cut. -/
theorem eS_sm {xs : List Int} (hall : allB (-30) 30 xs = true) (hn : xs.length ≤ 8) {p i k : Nat} (h0 : p < i) (h1 : i < k) (h2 : k ≤ xs.length) : Sm (eR (mR xs) p i + mR xs i k) :=
  sm_840 (CX.fb (p := p + 1) hall hn ⟨i, _, h1, (eR_lst h0).1, rfl⟩ h2) (by omega)
theorem mE_sm {xs : List Int} (hall : allB (-30) 30 xs = true) (hn : xs.length ≤ 8) {p k j : Nat} (h1 : p + 1 + j < k) (h2 : k ≤ xs.length) : Sm (mE (mR xs) (eR (mR xs) p) p k j) := by
  obtain ⟨⟨i, q1, q2, q3⟩, _⟩ := mE_spec (m := mR xs) (f := eR (mR xs) p) (p := p) (k := k) j
  rw [q3]
  exact eS_sm hall hn q1 (by omega) h2
theorem aR_sm {xs : List Int} (hall : allB (-30) 30 xs = true) (hn : xs.length ≤ 8) {p k : Nat} (h1 : 0 < k) (h2 : k ≤ xs.length) : Sm (aR (mR xs) p k) := by
  obtain ⟨q, _, h⟩ := (aR_lst (m := mR xs) (p := p) h1).1
  exact sm_840 (h.fb hall hn h2) (by omega)
theorem aS_sm {xs : List Int} (hall : allB (-30) 30 xs = true) (hn : xs.length ≤ 8) {p i k : Nat} (h0 : 0 < i) (h1 : i < k) (h2 : k ≤ xs.length) : Sm (aR (mR xs) p i + mR xs i k) := by
  obtain ⟨q, _, h⟩ := (aR_lst (m := mR xs) (p := p) h0).1
  exact sm_840 (CX.fb (p := q + 1) hall hn ⟨i, _, h1, h, rfl⟩ h2) (by omega)
theorem mA_sm {xs : List Int} (hall : allB (-30) 30 xs = true) (hn : xs.length ≤ 8) {p k j : Nat} (h1 : j < k) (h2 : k ≤ xs.length) : Sm (mA (mR xs) (aR (mR xs) p) k j) := by
  rcases (mA_spec (m := mR xs) (f := aR (mR xs) p) (k := k) j).1 with h | ⟨i, q1, q2, q3⟩
  · rw [h]; exact aR_sm hall hn (by omega) h2
  · rw [q3]; exact aS_sm hall hn q1 (by omega) h2
end Go.Proofs.Ytgageljahebjnaa
