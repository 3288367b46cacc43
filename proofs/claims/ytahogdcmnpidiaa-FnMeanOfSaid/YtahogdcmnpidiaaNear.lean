/-
  The nearest line through two points: plain laws.
-/
import Derived.Test.YtahogdcmnpidiaaSqL
namespace Go.Proofs.Ytahogdcmnpidiaa
open Go.RowKit

/-- A line: its slope, its height, and how far the points are from it. -/
structure Ln where
  s : Rat
  h : Rat
  f : Rat
def slP (xs ys : List Int) (i k : Nat) : Rat := qf (atL ys i - atL ys k) (atL xs i - atL xs k)
theorem slP_comm (xs ys : List Int) (i k : Nat) : slP xs ys k i = slP xs ys i k := by
  unfold slP
  rw [← divInt_neg']
  congr 1 <;> omega
def hgP (xs ys : List Int) (i : Nat) (s : Rat) : Rat := (atL ys i : Rat) - s * (atL xs i : Rat)
def offP (xs ys : List Int) (s h : Rat) (j : Nat) : Rat := szR ((atL ys j : Rat) - (s * (atL xs j : Rat) + h))
def farTo (xs ys : List Int) (s h : Rat) : Nat → Rat
  | 0 => 0
  | j + 1 => farTo xs ys s h j + offP xs ys s h j
def lineP (xs ys : List Int) (i k : Nat) : Ln := ⟨slP xs ys i k, hgP xs ys i (slP xs ys i k), farTo xs ys (slP xs ys i k) (hgP xs ys i (slP xs ys i k)) xs.length⟩
def betterP (b : Option Ln) (l : Ln) : Option Ln :=
  match b with
  | none => some l
  | some b => if l.f < b.f then some l else some b
/-- The best line of the pairs (i, i + 1 ..) below (i, k). -/
def rowP (xs ys : List Int) (i : Nat) (b : Option Ln) : Nat → Option Ln
  | 0 => b
  | d + 1 => if atL xs i = atL xs (i + 1 + d) then rowP xs ys i b d else betterP (rowP xs ys i b d) (lineP xs ys i (i + 1 + d))
def bestP (xs ys : List Int) : Nat → Option Ln
  | 0 => none
  | i + 1 => rowP xs ys i (bestP xs ys i) (xs.length - (i + 1))

/-- The denominator that all fractions of a pair share: the difference of the xs. -/
theorem slP_fb {xs ys : List Int} (hx : allB (-12) 12 xs = true) (hy : allB (-12) 12 ys = true) {i k : Nat} (hi : i < xs.length) (hk : k < xs.length) (hi2 : i < ys.length) (hk2 : k < ys.length) (hne : atL xs i ≠ atL xs k) :
    ∃ D : Int, 0 < D ∧ D ≤ 24 ∧ FB D 24 (slP xs ys i k) := by
  have a1 := allB_at hx hi
  have a2 := allB_at hx hk
  have a3 := allB_at hy hi2
  have a4 := allB_at hy hk2
  rcases Int.lt_or_gt_of_ne hne with h | h
  · refine ⟨atL xs k - atL xs i, by omega, by omega, ?_⟩
    rw [slP, ← divInt_neg']
    have : -(atL xs i - atL xs k) = atL xs k - atL xs i := by omega
    rw [this]
    exact FB.qf (by omega)
  · exact ⟨atL xs i - atL xs k, by omega, by omega, FB.qf (by omega)⟩
theorem FB.sz {D M : Int} {p : Rat} (h : FB D M p) : FB D M (szR p) := by
  unfold szR
  split
  · exact h.neg
  · exact h
structure NearB (xs ys : List Int) (s h : Rat) (D : Int) : Prop where
  d0 : 0 < D
  d1 : D ≤ 24
  fs : FB D 24 s
  fsx : ∀ j, j < xs.length → FB D 288 (s * (atL xs j : Rat))
  fh : FB D 576 h
  fsh : ∀ j, j < xs.length → FB D 864 (s * (atL xs j : Rat) + h)
  foff : ∀ j, j < xs.length → FB D 1152 (offP xs ys s h j)
  fdf : ∀ j, j < xs.length → FB D 1152 ((atL ys j : Rat) - (s * (atL xs j : Rat) + h))
  ffar : ∀ j, j ≤ xs.length → FB D (1152 * j) (farTo xs ys s h j)
theorem fb_int {D : Int} (h0 : 0 < D) (h1 : D ≤ 24) {n : Int} (hn : -12 ≤ n ∧ n ≤ 12) : FB D 288 (n : Rat) := (FB.int h0 n hn).mono (by omega)
theorem near_b {xs ys : List Int} (hx : allB (-12) 12 xs = true) (hy : allB (-12) 12 ys = true) (hl : xs.length = ys.length) {i k : Nat} (hi : i < xs.length) (hk : k < xs.length) (hne : atL xs i ≠ atL xs k) :
    ∃ D, NearB xs ys (slP xs ys i k) (hgP xs ys i (slP xs ys i k)) D := by
  obtain ⟨D, h0, h1, hs⟩ := slP_fb hx hy hi hk (by omega) (by omega) hne
  have hsx : ∀ j, j < xs.length → FB D 288 (slP xs ys i k * (atL xs j : Rat)) := fun j hj => by
    have f4 : FB 1 12 (atL xs j : Rat) := by rw [← qf_one]; exact FB.qf (allB_at hx hj)
    have := hs.mul f4 (by omega) (by omega)
    rw [Int.mul_one] at this
    exact this
  have hh : FB D 576 (hgP xs ys i (slP xs ys i k)) := (fb_int h0 h1 (allB_at hy (j := i) (by omega))).sub h0 (hsx i hi)
  have hsh : ∀ j, j < xs.length → FB D 864 (slP xs ys i k * (atL xs j : Rat) + hgP xs ys i (slP xs ys i k)) := fun j hj => (hsx j hj).add h0 hh
  have hdf : ∀ j, j < xs.length → FB D 1152 ((atL ys j : Rat) - (slP xs ys i k * (atL xs j : Rat) + hgP xs ys i (slP xs ys i k))) := fun j hj => (fb_int h0 h1 (allB_at hy (j := j) (by omega))).sub h0 (hsh j hj)
  refine ⟨D, ⟨h0, h1, hs, hsx, hh, hsh, fun j hj => (hdf j hj).sz, hdf, fun j hj => ?_⟩⟩
  induction j with
  | zero =>
    refine ⟨0, ?_, by omega, by omega⟩
    show (0 : Rat) = qf 0 D
    unfold qf
    simp
  | succ j ih =>
    have := (ih (by omega)).add h0 ((hdf j (by omega)).sz)
    have e : 1152 * (j : Int) + 1152 = 1152 * ((j + 1 : Nat) : Int) := by omega
    rw [e] at this
    exact this
theorem NearB.sm {xs ys : List Int} {s h : Rat} {D : Int} (b : NearB xs ys s h D) (hn : xs.length ≤ 7) : Sm s ∧ Sm h ∧ (∀ j, j < xs.length → Sm (s * (atL xs j : Rat)) ∧ Sm (s * (atL xs j : Rat) + h) ∧ Sm ((atL ys j : Rat) - (s * (atL xs j : Rat) + h)) ∧ Sm (offP xs ys s h j)) ∧ ∀ j, j ≤ xs.length → Sm (farTo xs ys s h j) :=
  ⟨b.fs.sm b.d0 (by have := b.d1; omega) (by omega), b.fh.sm b.d0 (by have := b.d1; omega) (by omega),
    fun j hj => ⟨(b.fsx j hj).sm b.d0 (by have := b.d1; omega) (by omega), (b.fsh j hj).sm b.d0 (by have := b.d1; omega) (by omega), (b.fdf j hj).sm b.d0 (by have := b.d1; omega) (by omega), (b.foff j hj).sm b.d0 (by have := b.d1; omega) (by omega)⟩,
    fun j hj => (b.ffar j hj).sm b.d0 (by have := b.d1; omega) (by omega)⟩
/-- All lines that come up are small. -/
def SmO (b : Option Ln) : Prop := ∀ l, b = some l → Sm l.f
theorem SmO.none : SmO none := fun _ h => by cases h
theorem SmO.better {b : Option Ln} {l : Ln} (hb : SmO b) (hl : Sm l.f) : SmO (betterP b l) := by
  intro m hm
  unfold betterP at hm
  split at hm
  · cases hm; exact hl
  · rename_i b'
    split at hm
    · cases hm; exact hl
    · cases hm; exact hb _ rfl
end Go.Proofs.Ytahogdcmnpidiaa
