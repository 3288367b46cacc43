
/-
  Plain laws: sums over the numbers below a bound; the number at a place of a list.
-/
import Derived.Test.YtgageljahebjnaaVal
namespace Go.Proofs.Ytgageljahebjnaa
open Go.RowKit

/-- The number at a place (0 where there is none). -/
def atL (xs : List Int) (k : Nat) : Int := xs.getD k 0
theorem atL_lt {xs : List Int} {k : Nat} (h : k < xs.length) : atL xs k = xs[k] := getD_lt h
theorem atL_mem {xs : List Int} {k : Nat} (h : k < xs.length) : atL xs k ∈ xs := by rw [atL_lt h]; exact List.getElem_mem h
theorem Rd.at {w : World} {A : Option Addr} {n c : Nat} {xs : List Int} (h : Rd w (.slice A n c) xs) : 0 < xs.length → ∃ g off, A = some ⟨g, off, none⟩ ∧ g < w.heap.size ∧ ∀ j, j < xs.length → w.cell? ⟨g, off + j, none⟩ = some (.int .i64 (atL xs j)) := by
  obtain ⟨A', c', hv, _, _, hc⟩ := h
  simp only [Value.slice.injEq] at hv
  obtain ⟨rfl, _, _⟩ := hv
  exact hc

theorem Rd.front {w : World} {A : Option Addr} {n c m : Nat} {xs : List Int} (h : Rd w (.slice A n c) xs) (hm : m ≤ n) : Rd w (.slice A m c) (xs.take m) := by
  obtain ⟨A', c', hv, h2, h3, h4⟩ := h
  simp only [Value.slice.injEq] at hv
  obtain ⟨rfl, rfl, rfl⟩ := hv
  have hl : (xs.take m).length = m := by simp; omega
  refine ⟨A, c, by rw [hl], by rw [hl]; omega, h3, fun hp => ?_⟩
  rw [hl] at hp ⊢
  obtain ⟨g, off, h5, h6, h7⟩ := h4 (by omega)
  refine ⟨g, off, h5, h6, fun j hj => ?_⟩
  rw [h7 j (by omega)]
  simp [List.getD, List.getElem?_take, hj]

/-- The sum of f over the numbers below n. -/
def sumTo (f : Nat → Int) : Nat → Int
  | 0 => 0
  | n + 1 => sumTo f n + f n
theorem sumTo_succ (f : Nat → Int) (n : Nat) : sumTo f (n + 1) = sumTo f n + f n := rfl
theorem sumTo_congr {f g : Nat → Int} {n : Nat} (h : ∀ k, k < n → f k = g k) : sumTo f n = sumTo g n := by
  induction n with
  | zero => rfl
  | succ n ih => rw [sumTo_succ, sumTo_succ, ih fun k hk => h k (by omega), h n (by omega)]
theorem sumTo_add (f g : Nat → Int) (n : Nat) : sumTo (fun k => f k + g k) n = sumTo f n + sumTo g n := by
  induction n with
  | zero => rfl
  | succ n ih => rw [sumTo_succ, sumTo_succ, sumTo_succ, ih]; omega
theorem sumTo_neg (f : Nat → Int) (n : Nat) : sumTo (fun k => -f k) n = -sumTo f n := by
  induction n with
  | zero => rfl
  | succ n ih => rw [sumTo_succ, sumTo_succ, ih]; omega
theorem sumTo_mul (c : Int) (f : Nat → Int) (n : Nat) : sumTo (fun k => c * f k) n = c * sumTo f n := by
  induction n with
  | zero => simp [sumTo]
  | succ n ih => rw [sumTo_succ, sumTo_succ, ih, Int.mul_add]
theorem sumTo_const (c : Int) (n : Nat) : sumTo (fun _ => c) n = c * n := by
  induction n with
  | zero => simp [sumTo]
  | succ n ih => rw [sumTo_succ, ih, Int.natCast_add, Int.mul_add]; simp
theorem sumTo_le {f g : Nat → Int} {n : Nat} (h : ∀ k, k < n → f k ≤ g k) : sumTo f n ≤ sumTo g n := by
  induction n with
  | zero => exact Int.le_refl _
  | succ n ih =>
    have h1 := ih fun k hk => h k (by omega)
    have h2 := h n (by omega)
    rw [sumTo_succ, sumTo_succ]
    omega
theorem sumTo_bd {f : Nat → Int} {m : Int} {n : Nat} (h : ∀ k, k < n → -m ≤ f k ∧ f k ≤ m) : -(m * n) ≤ sumTo f n ∧ sumTo f n ≤ m * n := by
  have h1 := sumTo_le (f := fun _ => -m) (g := f) (n := n) fun k hk => (h k hk).1
  have h2 := sumTo_le (f := f) (g := fun _ => m) (n := n) fun k hk => (h k hk).2
  rw [sumTo_const] at h1 h2
  have : -m * (n : Int) = -(m * n) := Int.neg_mul _ _
  omega
theorem sumTo_comm (f : Nat → Nat → Int) (m n : Nat) : sumTo (fun i => sumTo (f i) n) m = sumTo (fun k => sumTo (fun i => f i k) m) n := by
  induction m with
  | zero => simp [sumTo, sumTo_const]
  | succ m ih => rw [sumTo_succ, ih, ← sumTo_add]; rfl
theorem sumTo_zero_le {f : Nat → Int} {n : Nat} (h : ∀ k, k < n → 0 ≤ f k) : 0 ≤ sumTo f n := by
  have := sumTo_le (f := fun _ => 0) (g := f) (n := n) h
  rw [sumTo_const] at this
  omega
/-- A sum of numbers that are not below 0 is 0 just where all of them are. -/
theorem sumTo_eq_zero {f : Nat → Int} {n : Nat} (h : ∀ k, k < n → 0 ≤ f k) : sumTo f n = 0 ↔ ∀ k, k < n → f k = 0 := by
  induction n with
  | zero => simp [sumTo]
  | succ n ih =>
    have h0 := sumTo_zero_le (f := f) (n := n) fun k hk => h k (by omega)
    have h1 := h n (by omega)
    have ih := ih fun k hk => h k (by omega)
    rw [sumTo_succ]
    constructor
    · intro he k hk
      by_cases hkn : k < n
      · exact ih.1 (by omega) k hkn
      · have : k = n := by omega
        subst this
        omega
    · intro hz
      have := ih.2 fun k hk => hz k (by omega)
      have := hz n (by omega)
      omega
theorem sumL_cons (x : Int) (xs : List Int) : sumL (x :: xs) = x + sumL xs := by
  have h : ∀ (l : List Int) (a : Int), l.foldl (· + ·) a = a + l.foldl (· + ·) 0 := by
    intro l
    induction l with
    | nil => intro a; simp
    | cons y l ih =>
      intro a
      simp only [List.foldl_cons]
      rw [ih (a + y), ih (0 + y)]
      omega
  simp only [sumL, List.foldl_cons]
  rw [h xs (0 + x)]
  omega
theorem sumL_nil : sumL [] = 0 := rfl
theorem sumL_append (xs ys : List Int) : sumL (xs ++ ys) = sumL xs + sumL ys := by
  induction xs with
  | nil => simp [sumL_nil]
  | cons x xs ih => rw [List.cons_append, sumL_cons, sumL_cons, ih]; omega
theorem sumL_map_add {α : Type} (f g : α → Int) (xs : List α) : sumL (xs.map fun x => f x + g x) = sumL (xs.map f) + sumL (xs.map g) := by
  induction xs with
  | nil => rfl
  | cons x xs ih => simp only [List.map_cons, sumL_cons, ih]; omega
theorem sumL_map_const {α : Type} (c : Int) (xs : List α) : sumL (xs.map fun _ => c) = c * xs.length := by
  induction xs with
  | nil => simp [sumL_nil]
  | cons x xs ih => simp only [List.map_cons, sumL_cons, ih, List.length_cons, Int.natCast_add, Int.mul_add]; simp; omega
theorem mul_pos_bd {a b m n : Int} (ha : 0 ≤ a ∧ a ≤ m) (hb : 0 ≤ b ∧ b ≤ n) : 0 ≤ a * b ∧ a * b ≤ m * n :=
  ⟨Int.mul_nonneg ha.1 hb.1, Int.mul_le_mul ha.2 hb.2 hb.1 (by omega)⟩
end Go.Proofs.Ytgageljahebjnaa
