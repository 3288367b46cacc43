
/-
  Plain laws on what pieces miss together: the least sum of at most so many pieces, by all ways and step by step.
-/
import Derived.Test.YtgageljahebjnaaMiss
import Derived.Test.YtgageljahebjnaaCutP
import Derived.Test.YtgageljahebjnaaQP
namespace Go.Proofs.Ytgageljahebjnaa
open Go.RowKit

/-- What pieces miss together. -/
def mss (L : List (List Int)) : Rat := L.foldl (fun m l => m + missR l) 0
theorem mss_nil : mss [] = 0 := rfl
theorem mss_snoc (L : List (List Int)) (l : List Int) : mss (L ++ [l]) = mss L + missR l := by simp [mss]
theorem mss_cons (l : List Int) (L : List (List Int)) : mss (l :: L) = missR l + mss L := by
  have key : ∀ (L : List (List Int)) (a : Rat), L.foldl (fun m l => m + missR l) a = a + L.foldl (fun m l => m + missR l) 0 := by
    intro L
    induction L with
    | nil => intro a; simp [Rat.add_zero]
    | cons l L ih => intro a; rw [List.foldl_cons, List.foldl_cons, ih, ih (0 + missR l), Rat.zero_add, Rat.add_assoc]
  unfold mss
  rw [List.foldl_cons, key, Rat.zero_add]
theorem mss_one (l : List Int) : mss [l] = missR l := by rw [mss_cons, mss_nil, Rat.add_zero]
theorem mss_take {xss : List (List Int)} {k : Nat} (hk : k < xss.length) : mss (xss.take (k + 1)) = mss (xss.take k) + missR xss[k] := by
  rw [List.take_succ_eq_append_getElem hk, mss_snoc]

/-- The numbers can be cut into at most p pieces that miss r together. -/
def FeasM (ys : List Int) (p : Int) (r : Rat) : Prop := ∃ L : List (List Int), L.flatten = ys ∧ (L.length : Int) ≤ p ∧ (∀ l ∈ L, l ≠ []) ∧ mss L = r
def IsPT (ys : List Int) (p : Int) (r : Rat) : Prop := FeasM ys p r ∧ ∀ r', FeasM ys p r' → r ≤ r'
theorem IsPT.eq {ys : List Int} {p : Int} {r r' : Rat} (h : IsPT ys p r) (h' : IsPT ys p r') : r = r' := Rat.le_antisymm (h.2 _ h'.1) (h'.2 _ h.1)
theorem feasM_one {ys : List Int} {p : Int} (hp : 1 ≤ p) (h : ys ≠ []) : FeasM ys p (missR ys) := ⟨[ys], by simp, by simpa using hp, by simp [h], mss_one ys⟩
theorem feasM_mk {xs : List Int} {i k : Nat} {p : Int} {r : Rat} (h1 : i < k) (h2 : k ≤ xs.length) (hf : FeasM (xs.drop k) (p - 1) r) : FeasM (xs.drop i) p (missR (seg xs i k) + r) := by
  obtain ⟨L, h3, h4, h5, h6⟩ := hf
  refine ⟨seg xs i k :: L, ?_, by simp; omega, ?_, by rw [mss_cons, h6]⟩
  · rw [List.flatten_cons, h3, seg]
    have : xs.drop k = (xs.drop i).drop (k - i) := by rw [List.drop_drop]; congr 1; omega
    rw [this, List.take_append_drop]
  · intro l hl
    rcases List.mem_cons.1 hl with rfl | hl
    · exact seg_ne h1 h2
    · exact h5 l hl
theorem feasM_cons {xs : List Int} {i : Nat} {p : Int} {r : Rat} (hi : i < xs.length) (hf : FeasM (xs.drop i) p r) :
    r = missR (seg xs i xs.length) ∨ ∃ k, i < k ∧ k < xs.length ∧ 1 < p ∧ ∃ r', FeasM (xs.drop k) (p - 1) r' ∧ r = missR (seg xs i k) + r' := by
  obtain ⟨L, h3, h4, h5, h6⟩ := hf
  cases L with
  | nil =>
    have := congrArg List.length h3
    simp at this
    omega
  | cons l L =>
    have hl := h5 l (List.mem_cons_self ..)
    have hlen : 1 ≤ l.length := by cases l with
      | nil => exact absurd rfl hl
      | cons a b => simp
    rw [List.flatten_cons] at h3
    have hL := congrArg List.length h3
    rw [List.length_append, List.length_drop] at hL
    have hseg : seg xs i (i + l.length) = l := by
      unfold seg
      rw [← h3, show i + l.length - i = l.length from by omega, List.take_append_of_le_length (Nat.le_refl _), List.take_length]
    have hdrop : xs.drop (i + l.length) = L.flatten := by
      rw [← List.drop_drop, ← h3, List.drop_append_of_le_length (Nat.le_refl _), List.drop_length, List.nil_append]
    rw [mss_cons] at h6
    cases L with
    | nil =>
      left
      simp at hdrop
      have : i + l.length = xs.length := by omega
      rw [this] at hseg
      rw [← h6, mss_nil, Rat.add_zero, hseg]
    | cons a b =>
      right
      have ha : 1 ≤ a.length := by
        have := h5 a (by simp)
        cases a with
        | nil => exact absurd rfl this
        | cons c d => simp
      have hl2 := congrArg List.length hdrop
      rw [List.length_drop, List.flatten_cons, List.length_append] at hl2
      refine ⟨i + l.length, by omega, by omega, by simp at h4; omega, mss (a :: b), ⟨a :: b, hdrop.symm, by simp at h4 ⊢; omega, fun x hx => h5 x (List.mem_cons_of_mem _ hx), rfl⟩, ?_⟩
      rw [hseg, h6]

/-- Bounds: all is over 840. -/
theorem missR_fb {l : List Int} (hb : allB (-30) 30 l = true) (h1 : 1 ≤ l.length) (h8 : l.length ≤ 8) : FB 840 (756000 * (l.length : Int)) (missR l) := by
  obtain ⟨hs, hq1, hq2⟩ := sums_bound hb
  have hsq := sq_le hs
  unfold missR
  obtain ⟨s, hS⟩ : ∃ s, sumL l * sumL l = s := ⟨_, rfl⟩
  obtain ⟨q, hQ⟩ : ∃ q, sqL l = q := ⟨_, rfl⟩
  rw [hS] at hsq ⊢
  rw [hQ] at hq1 hq2 ⊢
  have hn : l.length = 1 ∨ l.length = 2 ∨ l.length = 3 ∨ l.length = 4 ∨ l.length = 5 ∨ l.length = 6 ∨ l.length = 7 ∨ l.length = 8 := by omega
  clear hs hS hQ
  rcases hn with h | h | h | h | h | h | h | h
  all_goals
    rw [h] at hsq hq2 ⊢
    have hc := fun (c : Int) (h0 : c ≠ 0) (he : ((l.length : Nat) : Int) * c = 840) => @qf_scale (((l.length : Nat) : Int) * q - s) ((l.length : Nat) : Int) c h0
    rw [h] at hc
  · exact ⟨_, (hc 840 (by decide) (by decide)).symm, by omega⟩
  · exact ⟨_, (hc 420 (by decide) (by decide)).symm, by omega⟩
  · exact ⟨_, (hc 280 (by decide) (by decide)).symm, by omega⟩
  · exact ⟨_, (hc 210 (by decide) (by decide)).symm, by omega⟩
  · exact ⟨_, (hc 168 (by decide) (by decide)).symm, by omega⟩
  · exact ⟨_, (hc 140 (by decide) (by decide)).symm, by omega⟩
  · exact ⟨_, (hc 120 (by decide) (by decide)).symm, by omega⟩
  · exact ⟨_, (hc 105 (by decide) (by decide)).symm, by omega⟩
theorem fb_zero {D M : Int} (hM : 0 ≤ M) : FB D M 0 := ⟨0, by rw [qf, Rat.zero_divInt], by omega⟩
theorem mss_fb : ∀ {L : List (List Int)}, (∀ l ∈ L, l ≠ [] ∧ allB (-30) 30 l = true) → L.flatten.length ≤ 8 → FB 840 (756000 * (L.flatten.length : Int)) (mss L)
  | [], _, _ => fb_zero (by simp)
  | l :: L, h, hn => by
    rw [List.flatten_cons, List.length_append] at hn ⊢
    obtain ⟨h1, h2⟩ := h l (by simp)
    have hl : 1 ≤ l.length := by cases l with
      | nil => exact absurd rfl h1
      | cons a b => simp
    have := (missR_fb h2 hl (by omega)).add (by omega) (mss_fb (L := L) (fun x hx => h x (List.mem_cons_of_mem _ hx)) (by omega))
    rw [mss_cons]
    exact this.mono (by omega)
theorem FeasM.fb {ys : List Int} {p : Int} {r : Rat} (hb : allB (-30) 30 ys = true) (hn : ys.length ≤ 8) (h : FeasM ys p r) : FB 840 (756000 * (ys.length : Int)) r := by
  obtain ⟨L, rfl, _, h5, rfl⟩ := h
  exact mss_fb (fun l hl => ⟨h5 l hl, allB_sub hb fun y hy => List.mem_flatten.2 ⟨l, hl, hy⟩⟩) hn
theorem sm_840 {n : Nat} {r : Rat} (h : FB 840 (756000 * (n : Int)) r) (hn : n ≤ 16) : Sm r := h.sm (by omega) (by omega) (by omega)
theorem FeasM.sm {ys : List Int} {p : Int} {r : Rat} (hb : allB (-30) 30 ys = true) (hn : ys.length ≤ 8) (h : FeasM ys p r) : Sm r := sm_840 (h.fb hb hn) (by omega)
theorem missR_sm {l : List Int} (hb : allB (-30) 30 l = true) (h1 : 1 ≤ l.length) (h8 : l.length ≤ 8) : Sm (missR l) := sm_840 (missR_fb hb h1 h8) (by omega)

/-- What the program's trial comes to. -/
def bstM (xs : List Int) (p : Int) : Nat → Rat
  | 0 => missR xs
  | s + 1 => if ((partsOf xs s).length : Int) ≤ p ∧ mss (partsOf xs s) < bstM xs p s then mss (partsOf xs s) else bstM xs p s
theorem bstM_succ (xs : List Int) (p : Int) (s : Nat) : bstM xs p (s + 1) = if ((partsOf xs s).length : Int) ≤ p ∧ mss (partsOf xs s) < bstM xs p s then mss (partsOf xs s) else bstM xs p s := rfl
theorem partsM_ne (xs : List Int) (s : Nat) : ∀ l ∈ partsOf xs s, l ≠ [] := (stp_inv xs s xs.length (Nat.le_refl _)).2.2.1
theorem bstM_spec {xs : List Int} {p : Int} (h0 : 0 < xs.length) (hp : 1 ≤ p) : ∀ s, FeasM xs p (bstM xs p s) ∧ ∀ s', s' < s → ((partsOf xs s').length : Int) ≤ p → bstM xs p s ≤ mss (partsOf xs s') := by
  intro s
  induction s with
  | zero => exact ⟨feasM_one hp (by rintro rfl; simp at h0), fun s' h => absurd h (by omega)⟩
  | succ s ih =>
    obtain ⟨h1, h2⟩ := ih
    rw [bstM_succ]
    split
    · next hc =>
      refine ⟨⟨partsOf xs s, partsOf_flat xs s, hc.1, partsM_ne xs s, rfl⟩, fun s' hs hl => ?_⟩
      by_cases e : s' = s
      · subst e; exact Rat.le_refl
      · exact Rat.le_trans (Rat.le_of_lt hc.2) (h2 s' (by omega) hl)
    · next hc =>
      refine ⟨h1, fun s' hs hl => ?_⟩
      by_cases e : s' = s
      · subst e; exact Rat.not_lt.1 fun h => hc ⟨hl, h⟩
      · exact h2 s' (by omega) hl
theorem bstM_IsPT {xs : List Int} {p : Int} (h0 : 0 < xs.length) (hp : 1 ≤ p) : IsPT xs p (bstM xs p (2 ^ (xs.length - 1))) := by
  obtain ⟨h1, h2⟩ := bstM_spec h0 hp (2 ^ (xs.length - 1))
  refine ⟨h1, fun r' hf => ?_⟩
  obtain ⟨L, h3, h4, h5, rfl⟩ := hf
  obtain ⟨s, hs, he⟩ := parts_all h0 h5 h3
  have := h2 s hs (by rw [he]; exact h4)
  rwa [he] at this

/-- What has been found of the pieces that begin at i and end before k. -/
def FoundM (xs : List Int) (i k : Nat) (p : Int) (b : Rat) : Prop :=
  FeasM (xs.drop i) p b ∧ b ≤ missR (seg xs i xs.length) ∧ ∀ k', i < k' → k' < k → ∀ r', FeasM (xs.drop k') (p - 1) r' → b ≤ missR (seg xs i k') + r'
theorem seg_drop (xs : List Int) (i : Nat) : seg xs i xs.length = xs.drop i := by rw [seg, List.take_of_length_le (by simp)]
theorem FoundM.start {xs : List Int} {i : Nat} {p : Int} (hi : i < xs.length) (hp : 1 ≤ p) : FoundM xs i (i + 1) p (missR (seg xs i xs.length)) := by
  refine ⟨?_, Rat.le_refl, fun k' h1 h2 => by omega⟩
  rw [seg_drop]
  exact feasM_one hp (by intro h; have := congrArg List.length h; simp at this; omega)
theorem FoundM.step {xs : List Int} {i k : Nat} {p : Int} {b r : Rat} (hik : i < k) (hk : k < xs.length) (h : FoundM xs i k p b) (hr : IsPT (xs.drop k) (p - 1) r) :
    FoundM xs i (k + 1) p (if missR (seg xs i k) + r < b then missR (seg xs i k) + r else b) := by
  obtain ⟨h1, h2, h3⟩ := h
  obtain ⟨hf, hm⟩ := hr
  have hnew : ∀ r', FeasM (xs.drop k) (p - 1) r' → missR (seg xs i k) + r ≤ missR (seg xs i k) + r' := fun r' h => by have := hm r' h; grind
  split
  · next hlt =>
    refine ⟨feasM_mk hik (by omega) hf, Rat.le_trans (Rat.le_of_lt hlt) h2, fun k' q1 q2 r' q3 => ?_⟩
    by_cases e : k' = k
    · subst e; exact hnew r' q3
    · exact Rat.le_trans (Rat.le_of_lt hlt) (h3 k' q1 (by omega) r' q3)
  · next hlt =>
    refine ⟨h1, h2, fun k' q1 q2 r' q3 => ?_⟩
    by_cases e : k' = k
    · subst e; exact Rat.le_trans (Rat.not_lt.1 hlt) (hnew r' q3)
    · exact h3 k' q1 (by omega) r' q3
theorem FoundM.done {xs : List Int} {i k : Nat} {p : Int} {b : Rat} (hi : i < xs.length) (h : FoundM xs i k p b) (hd : k = xs.length ∨ ¬ 1 < p) : IsPT (xs.drop i) p b := by
  obtain ⟨h1, h2, h3⟩ := h
  refine ⟨h1, fun r' hf => ?_⟩
  rcases feasM_cons hi hf with rfl | ⟨k', q1, q2, q3, r'', q4, rfl⟩
  · exact h2
  · exact h3 k' q1 (by rcases hd with rfl | hd <;> omega) r'' q4
end Go.Proofs.Ytgageljahebjnaa
