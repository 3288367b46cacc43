/-
  Plain laws on rooms: the least greatest spread of at most so many pieces, by all ways and step by step; the greedy way; the other way round.
-/
import Derived.Test.YtgcpglefkkpdjaaCutP
namespace Go.Proofs.Ytgcpglefkkpdjaa
open Go.RowKit

/-- The numbers can be cut into at most p pieces, none spread by more than r. -/
def Feas (ys : List Int) (p r : Int) : Prop := ∃ L : List (List Int), L.flatten = ys ∧ (L.length : Int) ≤ p ∧ ∀ l ∈ L, l ≠ [] ∧ maxL l - minL l ≤ r
def IsRT (ys : List Int) (p r : Int) : Prop := Feas ys p r ∧ ∀ r', Feas ys p r' → r ≤ r'
theorem IsRT.eq {ys : List Int} {p r r' : Int} (h : IsRT ys p r) (h' : IsRT ys p r') : r = r' := by have := h.2 _ h'.1; have := h'.2 _ h.1; omega
theorem Feas.mono {ys : List Int} {p r p' r' : Int} (h : Feas ys p r) (hp : p ≤ p') (hr : r ≤ r') : Feas ys p' r' := by
  obtain ⟨L, h1, h2, h3⟩ := h
  exact ⟨L, h1, by omega, fun l hl => ⟨(h3 l hl).1, by have := (h3 l hl).2; omega⟩⟩
theorem feas_nil (p r : Int) (hp : 0 ≤ p) : Feas [] p r := ⟨[], rfl, by simpa using hp, by simp⟩
theorem feas_mk {xs : List Int} {i k : Nat} {p r : Int} (h1 : i < k) (h2 : k ≤ xs.length) (hs : sprd xs i k ≤ r) (hf : Feas (xs.drop k) (p - 1) r) : Feas (xs.drop i) p r := by
  obtain ⟨L, h3, h4, h5⟩ := hf
  refine ⟨seg xs i k :: L, ?_, by simp; omega, ?_⟩
  · rw [List.flatten_cons, h3, seg]
    have : xs.drop k = (xs.drop i).drop (k - i) := by rw [List.drop_drop]; congr 1; omega
    rw [this, List.take_append_drop]
  · intro l hl
    rcases List.mem_cons.1 hl with rfl | hl
    · exact ⟨seg_ne h1 h2, hs⟩
    · exact h5 l hl
theorem feas_cons {xs : List Int} {i : Nat} {p r : Int} (hi : i < xs.length) (hf : Feas (xs.drop i) p r) : ∃ k, i < k ∧ k ≤ xs.length ∧ (k = xs.length ∨ 1 < p) ∧ sprd xs i k ≤ r ∧ Feas (xs.drop k) (p - 1) r := by
  obtain ⟨L, h3, h4, h5⟩ := hf
  cases L with
  | nil =>
    have := congrArg List.length h3
    simp at this
    omega
  | cons l L =>
    have hl := h5 l (List.mem_cons_self ..)
    have hlen : 1 ≤ l.length := by cases l with
      | nil => exact absurd rfl hl.1
      | cons a b => simp
    rw [List.flatten_cons] at h3
    have hL := congrArg List.length h3
    rw [List.length_append, List.length_drop] at hL
    have hseg : seg xs i (i + l.length) = l := by
      unfold seg
      rw [← h3, show i + l.length - i = l.length from by omega, List.take_append_of_le_length (Nat.le_refl _), List.take_length]
    have hdrop : xs.drop (i + l.length) = L.flatten := by
      rw [← List.drop_drop, ← h3, List.drop_append_of_le_length (Nat.le_refl _), List.drop_length, List.nil_append]
    refine ⟨i + l.length, by omega, by omega, ?_, by rw [sprd, hseg]; exact hl.2, L, hdrop.symm, by simp at h4; omega, fun x hx => h5 x (List.mem_cons_of_mem _ hx)⟩
    by_cases hn : i + l.length = xs.length
    · exact .inl hn
    · right
      cases L with
      | nil =>
        simp at hdrop
        omega
      | cons a b => simp at h4; omega
theorem IsRT.nonneg {xs : List Int} {i : Nat} {p r : Int} (hi : i < xs.length) (h : IsRT (xs.drop i) p r) : 0 ≤ r := by
  obtain ⟨k, h1, h2, _, h4, _⟩ := feas_cons hi h.1
  have := minL_le (maxL_mem (seg_ne h1 h2))
  unfold sprd at h4
  omega

/-- What the program's trial comes to. -/
def mxs (L : List (List Int)) : Int := L.foldl (fun m l => max m (maxL l - minL l)) 0
theorem mxs_snoc (L : List (List Int)) (l : List Int) : mxs (L ++ [l]) = max (mxs L) (maxL l - minL l) := by simp [mxs]
theorem mxs_le {L : List (List Int)} {r : Int} (h0 : 0 ≤ r) (h : ∀ l ∈ L, maxL l - minL l ≤ r) : mxs L ≤ r := by
  have key : ∀ (L : List (List Int)) (a : Int), a ≤ r → (∀ l ∈ L, maxL l - minL l ≤ r) → L.foldl (fun m l => max m (maxL l - minL l)) a ≤ r := by
    intro L
    induction L with
    | nil => intro a ha _; exact ha
    | cons l L ih => intro a ha h; exact ih _ (by show max a (maxL l - minL l) ≤ r; have := h l (by simp); omega) fun x hx => h x (List.mem_cons_of_mem _ hx)
  exact key L 0 h0 h
theorem le_mxs {L : List (List Int)} : 0 ≤ mxs L ∧ ∀ l ∈ L, maxL l - minL l ≤ mxs L := by
  have key : ∀ (L : List (List Int)) (a : Int), a ≤ L.foldl (fun m l => max m (maxL l - minL l)) a ∧ ∀ l ∈ L, maxL l - minL l ≤ L.foldl (fun m l => max m (maxL l - minL l)) a := by
    intro L
    induction L with
    | nil => intro a; simp
    | cons l L ih =>
      intro a
      obtain ⟨h1, h2⟩ := ih (max a (maxL l - minL l))
      simp only [List.foldl_cons, List.mem_cons, forall_eq_or_imp]
      exact ⟨by omega, by omega, h2⟩
  exact key L 0
def bst (xs : List Int) (p : Int) : Nat → Int
  | 0 => maxL xs - minL xs
  | s + 1 => if ((partsOf xs s).length : Int) ≤ p then min (bst xs p s) (mxs (partsOf xs s)) else bst xs p s
theorem parts_ne (xs : List Int) (s : Nat) : ∀ l ∈ partsOf xs s, l ≠ [] := (stp_inv xs s xs.length (Nat.le_refl _)).2.2.1
theorem bst_spec {xs : List Int} {p : Int} (h0 : 0 < xs.length) (hp : 1 ≤ p) : ∀ s, Feas xs p (bst xs p s) ∧ ∀ s', s' < s → ((partsOf xs s').length : Int) ≤ p → bst xs p s ≤ mxs (partsOf xs s') := by
  intro s
  induction s with
  | zero => exact ⟨⟨[xs], by simp, by simpa using hp, by
      intro l hl
      simp only [List.mem_singleton] at hl
      subst hl
      exact ⟨by rintro rfl; simp at h0, Int.le_refl _⟩⟩, fun s' h => absurd h (by omega)⟩
  | succ s ih =>
    obtain ⟨h1, h2⟩ := ih
    unfold bst
    split
    · next hc =>
      refine ⟨?_, fun s' hs hl => ?_⟩
      · rcases Int.le_total (bst xs p s) (mxs (partsOf xs s)) with h | h
        · rw [Int.min_eq_left h]; exact h1
        · rw [Int.min_eq_right h]
          exact ⟨partsOf xs s, partsOf_flat xs s, hc, fun l hl => ⟨parts_ne xs s l hl, le_mxs.2 l hl⟩⟩
      · by_cases e : s' = s
        · subst e; omega
        · have := h2 s' (by omega) hl; omega
    · next hc =>
      refine ⟨h1, fun s' hs hl => ?_⟩
      by_cases e : s' = s
      · subst e; exact absurd hl hc
      · exact h2 s' (by omega) hl
theorem bst_IsRT {xs : List Int} {p : Int} (h0 : 0 < xs.length) (hp : 1 ≤ p) : IsRT xs p (bst xs p (2 ^ (xs.length - 1))) := by
  obtain ⟨h1, h2⟩ := bst_spec h0 hp (2 ^ (xs.length - 1))
  refine ⟨h1, fun r' hf => ?_⟩
  have hr0 : 0 ≤ r' := by
    obtain ⟨k, k1, k2, _, k4, _⟩ := feas_cons (i := 0) h0 (by simpa using hf)
    have := minL_le (maxL_mem (seg_ne k1 k2))
    unfold sprd at k4
    omega
  obtain ⟨L, h3, h4, h5⟩ := hf
  obtain ⟨s, hs, he⟩ := parts_all h0 (fun l hl => (h5 l hl).1) h3
  have := h2 s hs (by rw [he]; exact h4)
  rw [he] at this
  have := mxs_le hr0 fun l hl => (h5 l hl).2
  omega
theorem bst_bounds {xs : List Int} {p : Int} (hall : allB (-30) 30 xs = true) (h0 : 0 < xs.length) : ∀ s, 0 ≤ bst xs p s ∧ bst xs p s ≤ 60 := by
  have hne : xs ≠ [] := by rintro rfl; simp at h0
  intro s
  induction s with
  | zero => have := minL_bounds hall hne; unfold bst; omega
  | succ s ih =>
    have := (le_mxs (L := partsOf xs s)).1
    unfold bst
    split <;> omega
end Go.Proofs.Ytgcpglefkkpdjaa
