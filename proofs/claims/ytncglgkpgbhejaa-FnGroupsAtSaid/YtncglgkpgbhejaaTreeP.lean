/-
  The search for the nearest thing, in both: plain laws.
-/
import Derived.Test.YtncglgkpgbhejaaPrim
import Derived.Test.YtncglgkpgbhejaaMat
namespace Go.Proofs.Ytncglgkpgbhejaa
open Go.RowKit

/-- The best pair (a thing of S, one that is not) of those ahead of (a, b). -/
def TB (G : Nat → Nat → Int) (n : Nat) (S : Nat → Bool) (a b : Nat) (best at_ : Int) : Prop :=
  (best = -1 ∧ at_ = -1 ∧ ∀ x y, x < n → y < n → (x < a ∨ x = a ∧ y < b) → S x = true → S y = true) ∨
  (∃ s t : Nat, (s < n ∧ t < n) ∧ (S s = true ∧ S t = false) ∧ best = G s t ∧ at_ = t ∧ (1 ≤ best ∧ best ≤ 40) ∧ ∀ x y, x < n → y < n → (x < a ∨ x = a ∧ y < b) → S x = true → S y = false → best ≤ G x y)
section
variable {G : Nat → Nat → Int} {n : Nat} {S : Nat → Bool} {a b : Nat} {best at_ : Int}
theorem TB.start : TB G n S 0 0 (-1) (-1) := .inl ⟨rfl, rfl, fun x y _ _ h => by omega⟩
theorem TB.row (h : TB G n S a n best at_) : TB G n S (a + 1) 0 best at_ := by
  rcases h with ⟨h1, h2, h3⟩ | ⟨s, t, h1, h2, h3, h4, h5, h6⟩
  · exact .inl ⟨h1, h2, fun x y hx hy hs => h3 x y hx hy (by omega)⟩
  · exact .inr ⟨s, t, h1, h2, h3, h4, h5, fun x y hx hy hs => h6 x y hx hy (by omega)⟩
theorem TB.skip (h : TB G n S a b best at_) (hc : S a = false ∨ S b = true) : TB G n S a (b + 1) best at_ := by
  rcases h with ⟨h1, h2, h3⟩ | ⟨s, t, h1, h2, h3, h4, h5, h6⟩
  · refine .inl ⟨h1, h2, fun x y hx hy hs hSx => ?_⟩
    by_cases e : x = a ∧ y = b
    · obtain ⟨rfl, rfl⟩ := e
      rcases hc with hc | hc
      · rw [hSx] at hc; cases hc
      · exact hc
    · exact h3 x y hx hy (by omega) hSx
  · refine .inr ⟨s, t, h1, h2, h3, h4, h5, fun x y hx hy hs hSx hSy => ?_⟩
    by_cases e : x = a ∧ y = b
    · obtain ⟨rfl, rfl⟩ := e
      rcases hc with hc | hc
      · rw [hSx] at hc; cases hc
      · rw [hSy] at hc; cases hc
    · exact h6 x y hx hy (by omega) hSx hSy
theorem TB.keep (h : TB G n S a b best at_) (h0 : ¬ best < 0) (hg : ¬ G a b < best) : TB G n S a (b + 1) best at_ := by
  rcases h with ⟨h1, h2, h3⟩ | ⟨s, t, h1, h2, h3, h4, h5, h6⟩
  · omega
  · refine .inr ⟨s, t, h1, h2, h3, h4, h5, fun x y hx hy hs hSx hSy => ?_⟩
    by_cases e : x = a ∧ y = b
    · obtain ⟨rfl, rfl⟩ := e; omega
    · exact h6 x y hx hy (by omega) hSx hSy
theorem TB.new (h : TB G n S a b best at_) (ha : a < n) (hb : b < n) (hSa : S a = true) (hSb : S b = false) (hg : best < 0 ∨ G a b < best) (hg2 : 1 ≤ G a b ∧ G a b ≤ 40) : TB G n S a (b + 1) (G a b) b := by
  refine .inr ⟨a, b, ⟨ha, hb⟩, ⟨hSa, hSb⟩, rfl, rfl, hg2, fun x y hx hy hs hSx hSy => ?_⟩
  by_cases e : x = a ∧ y = b
  · obtain ⟨rfl, rfl⟩ := e; omega
  · rcases h with ⟨h1, h2, h3⟩ | ⟨s, t, h1, h2, h3, h4, h5, h6⟩
    · have := h3 x y hx hy (by omega) hSx
      rw [hSy] at this
      cases this
    · have := h6 x y hx hy (by omega) hSx hSy
      omega
theorem TB.bd (h : TB G n S a b best at_) : (-1 ≤ best ∧ best ≤ 40) ∧ (-1 ≤ at_ ∧ at_ < n) ∧ (best < 0 ↔ at_ < 0) := by
  rcases h with ⟨h1, h2, h3⟩ | ⟨s, t, h1, h2, h3, h4, h5, h6⟩ <;> refine ⟨?_, ?_, ?_⟩ <;> omega
theorem TB.none (h : TB G n S n 0 best at_) (h0 : at_ < 0) (hS : S 0 = true) (hn : 0 < n) : WB G n S = 0 := by
  rcases h with ⟨h1, h2, h3⟩ | ⟨s, t, h1, h2, h3, h4, h5, h6⟩
  · exact WB_all fun v hv => h3 0 v hn hv (by omega) hS
  · omega
theorem cnt_put {t : Nat} (ht : t < n) (hS : S t = false) : cntB (putS S t) n = cntB S n + 1 :=
  cntB_one t ht (by simp [putS]) hS fun b _ hb => by simp [putS, hb]
theorem TB.some (h : TB G n S n 0 best at_) (h0 : ¬ at_ < 0) (hsym : ∀ a b, a < n → b < n → G a b = G b a) : ∃ t : Nat, at_ = t ∧ t < n ∧ S t = false ∧ (1 ≤ best ∧ best ≤ 40) ∧ (WB G n S : Int) = WB G n (putS S t) + best ∧ cntB (putS S t) n = cntB S n + 1 := by
  rcases h with ⟨h1, h2, h3⟩ | ⟨s, t, h1, h2, h3, h4, h5, h6⟩
  · omega
  · refine ⟨t, h4, h1.2, h2.2, h5, ?_, cnt_put h1.2 h2.2⟩
    rw [h3]
    exact WB_step hsym h1.1 h1.2 h2.1 h2.2 (fun a c ha hc hSa hSc => by rw [← h3]; exact h6 a c ha hc (by omega) hSa hSc) (by omega) (by omega)
/-- The distance of each thing from those of S. -/
def FarP (G : Nat → Nat → Int) (n : Nat) (S : Nat → Bool) (fs : List Int) : Prop := fs.length = n ∧ ∀ i, i < n → (∃ s, s < n ∧ S s = true ∧ atL fs i = G s i) ∧ ∀ s, s < n → S s = true → atL fs i ≤ G s i
/-- The nearest thing among the first m. -/
def NX (fs : List Int) (S : Nat → Bool) (m : Nat) (nx : Int) : Prop := (nx = -1 ∧ ∀ i, i < m → S i = true) ∨ ∃ t : Nat, nx = t ∧ t < m ∧ S t = false ∧ ∀ i, i < m → S i = false → atL fs t ≤ atL fs i
theorem NX.start (fs : List Int) (S : Nat → Bool) : NX fs S 0 (-1) := .inl ⟨rfl, fun i hi => by omega⟩
theorem NX.bd {fs : List Int} {m : Nat} {nx : Int} (h : NX fs S m nx) : -1 ≤ nx ∧ nx < m := by
  rcases h with ⟨h1, _⟩ | ⟨t, h1, h2, _⟩ <;> omega
theorem NX.skip {fs : List Int} {m : Nat} {nx : Int} (h : NX fs S m nx) (hS : S m = true) : NX fs S (m + 1) nx := by
  rcases h with ⟨h1, h2⟩ | ⟨t, h1, h2, h3, h4⟩
  · refine .inl ⟨h1, fun i hi => ?_⟩
    by_cases e : i = m
    · subst e; exact hS
    · exact h2 i (by omega)
  · refine .inr ⟨t, h1, by omega, h3, fun i hi hi2 => ?_⟩
    by_cases e : i = m
    · subst e; rw [hS] at hi2; cases hi2
    · exact h4 i (by omega) hi2
theorem NX.keep {fs : List Int} {m : Nat} {nx : Int} (h : NX fs S m nx) (h0 : ¬ nx < 0) (hf : ¬ atL fs m < atL fs nx.toNat) : NX fs S (m + 1) nx := by
  rcases h with ⟨h1, h2⟩ | ⟨t, h1, h2, h3, h4⟩
  · omega
  · refine .inr ⟨t, h1, by omega, h3, fun i hi hi2 => ?_⟩
    subst h1
    by_cases e : i = m
    · subst e; simp at hf; omega
    · exact h4 i (by omega) hi2
theorem NX.new {fs : List Int} {m : Nat} {nx : Int} (h : NX fs S m nx) (hS : S m = false) (hf : nx < 0 ∨ atL fs m < atL fs nx.toNat) : NX fs S (m + 1) m := by
  refine .inr ⟨m, rfl, by omega, hS, fun i hi hi2 => ?_⟩
  by_cases e : i = m
  · subst e; exact Int.le_refl _
  · rcases h with ⟨h1, h2⟩ | ⟨t, h1, h2, h3, h4⟩
    · have := h2 i (by omega); rw [hi2] at this; cases this
    · have := h4 i (by omega) hi2
      subst h1
      simp at hf
      omega
theorem NX.end {fs : List Int} {nx : Int} (h : NX fs S n nx) (hf : FarP G n S fs) (hsym : ∀ a b, a < n → b < n → G a b = G b a) (hb : ∀ a b, a < n → b < n → 0 ≤ G a b ∧ G a b ≤ 40) (hc : cntB S n < n) :
    ∃ t : Nat, nx = t ∧ t < n ∧ S t = false ∧ (WB G n S : Int) = WB G n (putS S t) + atL fs t ∧ cntB (putS S t) n = cntB S n + 1 ∧ (0 ≤ atL fs t ∧ atL fs t ≤ 40) := by
  rcases h with ⟨h1, h2⟩ | ⟨t, h1, h2, h3, h4⟩
  · have := cntB_all h2; omega
  · obtain ⟨s, hs, hS, he⟩ := (hf.2 t h2).1
    have := hb s t hs h2
    refine ⟨t, h1, h2, h3, ?_, cnt_put h2 h3, by omega⟩
    rw [he]
    refine WB_step hsym hs h2 hS h3 (fun a c ha hc hSa hSc => ?_) (by omega) (by omega)
    have a1 := h4 c hc hSc
    have a2 := (hf.2 c hc).2 a ha hSa
    omega
/-- The distances when t has come, the first m of them turned. -/
def FarT (G : Nat → Nat → Int) (n : Nat) (t : Nat) (fs gs : List Int) (m : Nat) : Prop := gs.length = n ∧ ∀ i, i < n → atL gs i = if i < m then min (atL fs i) (G t i) else atL fs i
theorem FarT.start {t : Nat} {fs : List Int} (h : fs.length = n) : FarT G n t fs fs 0 := ⟨h, fun i _ => by simp⟩
theorem FarT.step {t m : Nat} {fs gs : List Int} (h : FarT G n t fs gs m) (hm : m < n) : FarT G n t fs (gs.set m (min (atL gs m) (G t m))) (m + 1) := by
  obtain ⟨h1, h2⟩ := h
  refine ⟨by simpa using h1, fun i hi => ?_⟩
  by_cases e : i = m
  · subst e
    have := h2 i hi
    simp only [Nat.lt_irrefl, if_false] at this
    simp [atL, List.getD, h1, hi]
    unfold atL at this
    simp [List.getD, h1, hi] at this
    rw [this]
  · have hh := h2 i hi
    have : atL (gs.set m (min (atL gs m) (G t m))) i = atL gs i := by simp [atL, List.getD, List.getElem?_set_ne (Ne.symm e)]
    rw [this, hh]
    by_cases h3 : i < m
    · rw [if_pos h3, if_pos (by omega)]
    · rw [if_neg h3, if_neg (by omega)]
theorem FarT.end {t : Nat} {fs gs : List Int} (h : FarT G n t fs gs n) (hf : FarP G n S fs) (ht : t < n) : FarP G n (putS S t) gs := by
  refine ⟨h.1, fun i hi => ?_⟩
  have e := h.2 i hi
  rw [if_pos hi] at e
  obtain ⟨⟨s, hs, hS, h1⟩, h2⟩ := hf.2 i hi
  refine ⟨?_, fun s' hs' hS' => ?_⟩
  · by_cases hle : atL fs i ≤ G t i
    · exact ⟨s, hs, by simp [putS, hS], by omega⟩
    · exact ⟨t, ht, by simp [putS], by omega⟩
  · simp only [putS, Bool.or_eq_true, beq_iff_eq] at hS'
    rcases hS' with hS' | rfl
    · have := h2 s' hs' hS'; omega
    · omega
theorem FarP.start {fs : List Int} (hl : fs.length = n) (h0 : 0 < n) (h : ∀ i, i < n → atL fs i = G 0 i) : FarP G n (oneS 0) fs := by
  refine ⟨hl, fun i hi => ⟨⟨0, h0, by simp [oneS], h i hi⟩, fun s hs hS => ?_⟩⟩
  simp only [oneS, beq_iff_eq] at hS
  subst hS
  exact Int.le_of_eq (h i hi)
end
/-- Truth values in order. -/
def BoolsV (n : Nat) (S : Nat → Bool) (vs : List Value) : Prop := vs.length = n ∧ ∀ j, j < n → vs[j]? = some (.bool (S j))
theorem BoolsV.start (n : Nat) : BoolsV n (fun _ => false) (List.replicate n (.bool false)) := ⟨by simp, fun j hj => by simp [hj]⟩
theorem BoolsV.set {n : Nat} {S : Nat → Bool} {vs : List Value} (h : BoolsV n S vs) (t : Nat) : BoolsV n (putS S t) (vs.set t (.bool true)) := by
  obtain ⟨h1, h2⟩ := h
  refine ⟨by simpa using h1, fun j hj => ?_⟩
  by_cases e : j = t
  · subst e; rw [List.getElem?_set_self (by omega)]; simp [putS]
  · rw [List.getElem?_set_ne (Ne.symm e), h2 j hj]; simp [putS, e]
end Go.Proofs.Ytncglgkpgbhejaa
