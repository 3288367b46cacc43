/-
  Groups, in both: plain laws of the rounds.
-/
import Derived.Test.YtncglgkpgbhejaaReach
import Derived.Test.YtncglgkpgbhejaaSum
namespace Go.Proofs.Ytncglgkpgbhejaa
open Go.RowKit

def idL (k : Nat) : List Int := (List.range k).map fun (i : Nat) => (i : Int)
theorem idL_len (k : Nat) : (idL k).length = k := by simp [idL]
theorem idL_succ (k : Nat) : idL (k + 1) = idL k ++ [(k : Int)] := by simp [idL, List.range_succ]
theorem idL_get {k v : Nat} (hv : v < k) : (idL k).getD v 0 = v := by simp [idL, List.getD, hv]
def sumN (ys : List Int) : Nat := (ys.map Int.toNat).sum
theorem sumN_set : ∀ {ys : List Int} {b : Nat} {x : Int}, b < ys.length → 0 ≤ x → x < ys.getD b 0 → sumN (ys.set b x) < sumN ys
  | [], b, _, hb, _, _ => by simp at hb
  | y :: ys, 0, x, _, h0, h1 => by simp [sumN] at *; omega
  | y :: ys, b + 1, x, hb, h0, h1 => by
    have := sumN_set (ys := ys) (b := b) (x := x) (by simpa using hb) h0 (by simpa using h1)
    simp [sumN] at *
    omega
theorem set_same {ys : List Int} {a : Nat} (ha : a < ys.length) : ys.set a (ys.getD a 0) = ys := by
  refine List.ext_getElem (by simp) fun j h1 h2 => ?_
  by_cases e : j = a
  · subst e; simp [List.getD, ha]
  · rw [List.getElem_set_ne (Ne.symm e)]
section
variable {G : Nat → Nat → Int} {n : Nat} {h : Int} {ys zs : List Int}
theorem Grp0.at (h1 : Grp0 G n h ys) {v : Nat} (hv : v < n) : 0 ≤ ys.getD v 0 ∧ ys.getD v 0 < n := by
  obtain ⟨u, e1, e2, _, _⟩ := h1.2 v hv
  omega
/-- One round of the reference: ys at its start, zs now; c: has anything changed? -/
def GS (G : Nat → Nat → Int) (n : Nat) (h : Int) (ys : List Int) (a b : Nat) (zs : List Int) (c : Bool) : Prop :=
  (c = false ∧ zs = ys ∧ ∀ x y, x < n → y < n → (x < a ∨ x = a ∧ y < b) → G x y ≤ h → ys.getD y 0 ≤ ys.getD x 0) ∨ (c = true ∧ sumN zs < sumN ys)
theorem GS.start : GS G n h ys 0 0 ys false := .inl ⟨rfl, rfl, fun x y _ _ hs => by omega⟩
theorem GS.row {a : Nat} {c : Bool} (hg : GS G n h ys a n zs c) : GS G n h ys (a + 1) 0 zs c := by
  rcases hg with ⟨h1, h2, h3⟩ | hg
  · exact .inl ⟨h1, h2, fun x y hx hy hs => h3 x y hx hy (by omega)⟩
  · exact .inr hg
theorem GS.skip {a b : Nat} {c : Bool} (hg : GS G n h ys a b zs c) (hn : G a b ≤ h → zs.getD b 0 ≤ zs.getD a 0) : GS G n h ys a (b + 1) zs c := by
  rcases hg with ⟨h1, h2, h3⟩ | hg
  · refine .inl ⟨h1, h2, fun x y hx hy hs hxy => ?_⟩
    by_cases e : x = a ∧ y = b
    · obtain ⟨rfl, rfl⟩ := e; rw [← h2]; exact hn hxy
    · exact h3 x y hx hy (by omega) hxy
  · exact .inr hg
theorem GS.put {a b : Nat} {c : Bool} (hg : GS G n h ys a b zs c) (hz : Grp0 G n h zs) (ha : a < n) (hb : b < n) (hlt : zs.getD a 0 < zs.getD b 0) : GS G n h ys a (b + 1) (zs.set b (zs.getD a 0)) true := by
  have := sumN_set (ys := zs) (b := b) (x := zs.getD a 0) (by rw [hz.1]; exact hb) (hz.at ha).1 hlt
  refine .inr ⟨rfl, ?_⟩
  rcases hg with ⟨_, rfl, _⟩ | ⟨_, h2⟩ <;> omega
theorem GS.end (hg : GS G n h ys n 0 zs false) : zs = ys ∧ ∀ a b, a < n → b < n → G a b ≤ h → zs.getD b 0 ≤ zs.getD a 0 := by
  rcases hg with ⟨_, rfl, h3⟩ | ⟨h1, _⟩
  · exact ⟨rfl, fun a b ha hb => h3 a b ha hb (by omega)⟩
  · cases h1
theorem GS.again (hg : GS G n h ys n 0 zs true) : sumN zs < sumN ys := by
  rcases hg with ⟨h1, _, _⟩ | ⟨_, h2⟩
  · cases h1
  · exact h2
/-- Within row a of a round: what is reached over the first k. -/
def LowP (G : Nat → Nat → Int) (n : Nat) (h : Int) (r : Nat) (ys : List Int) (a k : Nat) : Prop := ∀ u, u < n → (rnB G n h r a u = true ∨ ∃ c, c < k ∧ G a c ≤ h ∧ rnB G n h r c u = true) → ys.getD a 0 ≤ u
/-- The rounds of the program: all over r steps, those ahead of a over r + 1, a over the first k. -/
def LR (G : Nat → Nat → Int) (n : Nat) (h : Int) (r a k : Nat) (ys : List Int) : Prop := Grp0 G n h ys ∧ (∀ v, v < n → Low G n h r ys v) ∧ (∀ v, v < a → v < n → Low G n h (r + 1) ys v) ∧ (a < n → LowP G n h r ys a k)
theorem LR.start (hl : ys.length = n) (hy : ∀ v, v < n → ys.getD v 0 = v) : LR G n h 0 0 0 ys := by
  refine ⟨Grp0.start hl hy, fun v hv u hu hr => ?_, fun v hv => by omega, fun h0 u hu hr => ?_⟩
  · have := rnB_zero.1 hr
    subst this
    rw [hy v hv]
    exact Int.le_refl _
  · rcases hr with hr | ⟨c, hc, _⟩
    · have := rnB_zero.1 hr
      subst this
      rw [hy 0 hu]
      exact Int.le_refl _
    · omega
theorem LR.skip {r a k : Nat} (hl : LR G n h r a k ys) (hg : ¬ G a k ≤ h) : LR G n h r a (k + 1) ys := by
  obtain ⟨h1, h2, h3, h4⟩ := hl
  refine ⟨h1, h2, h3, fun ha u hu hr => h4 ha u hu ?_⟩
  rcases hr with hr | ⟨c, hc, hgc, hr⟩
  · exact .inl hr
  · by_cases e : c = k
    · subst e; exact absurd hgc hg
    · exact .inr ⟨c, by omega, hgc, hr⟩
theorem LR.keep {r a k : Nat} (hl : LR G n h r a k ys) (hk : k < n) (hle : ¬ ys.getD k 0 < ys.getD a 0) : LR G n h r a (k + 1) ys := by
  obtain ⟨h1, h2, h3, h4⟩ := hl
  refine ⟨h1, h2, h3, fun ha u hu hr => ?_⟩
  rcases hr with hr | ⟨c, hc, hgc, hr⟩
  · exact h4 ha u hu (.inl hr)
  · by_cases e : c = k
    · subst e
      have := h2 c hk u hu hr
      omega
    · exact h4 ha u hu (.inr ⟨c, by omega, hgc, hr⟩)
theorem get_set_le {a v : Nat} {x : Int} (hx : x ≤ ys.getD a 0) : (ys.set a x).getD v 0 ≤ ys.getD v 0 := by
  by_cases e : v = a
  · subst e
    by_cases hv : v < ys.length
    · simp [List.getD, hv] at hx ⊢
      exact hx
    · simp [List.getD, List.getElem?_eq_none (Nat.le_of_not_lt hv), List.set_eq_of_length_le (Nat.le_of_not_lt hv)]
  · simp [List.getD, List.getElem?_set_ne (Ne.symm e)]
theorem LR.put {r a k : Nat} (hl : LR G n h r a k ys) (ha : a < n) (hk : k < n) (hg : G a k ≤ h) (hlt : ys.getD k 0 < ys.getD a 0) : LR G n h r a (k + 1) (ys.set a (ys.getD k 0)) := by
  obtain ⟨h1, h2, h3, h4⟩ := hl
  have hm := fun v => get_set_le (ys := ys) (a := a) (v := v) (x := ys.getD k 0) (by omega)
  refine ⟨h1.put ha hk (rcB_edge ha hk hg) (by omega), fun v hv u hu hr => ?_, fun v hv hvn u hu hr => ?_, fun _ u hu hr => ?_⟩
  · have := hm v; have := h2 v hv u hu hr; omega
  · have := hm v; have := h3 v hv hvn u hu hr; omega
  · rcases hr with hr | ⟨c, hc, hgc, hr⟩
    · have := hm a; have := h4 ha u hu (.inl hr); omega
    · by_cases e : c = k
      · subst e
        have := h2 c hk u hu hr
        have e2 : (ys.set a (ys.getD c 0)).getD a 0 = ys.getD c 0 := by simp [List.getD, h1.1, ha]
        omega
      · have := hm a; have := h4 ha u hu (.inr ⟨c, by omega, hgc, hr⟩); omega
theorem LR.row {r a : Nat} (hl : LR G n h r a n ys) : LR G n h r (a + 1) 0 ys := by
  obtain ⟨h1, h2, h3, h4⟩ := hl
  refine ⟨h1, h2, fun v hv hvn u hu hr => ?_, fun ha u hu hr => ?_⟩
  · by_cases e : v = a
    · subst e
      exact h4 hvn u hu (rnB_succ.1 hr)
    · exact h3 v (by omega) hvn u hu hr
  · rcases hr with hr | ⟨c, hc, _⟩
    · exact h2 _ ha u hu hr
    · omega
theorem LR.round {r : Nat} (hl : LR G n h r n 0 ys) : LR G n h (r + 1) 0 0 ys := by
  obtain ⟨h1, h2, h3, h4⟩ := hl
  refine ⟨h1, fun v hv => h3 v hv hv, fun v hv => by omega, fun h0 u hu hr => ?_⟩
  rcases hr with hr | ⟨c, hc, _⟩
  · exact h3 0 h0 h0 u hu hr
  · omega
theorem LR.end (hl : LR G n h n 0 0 ys) : GrpL G n h ys := hl.1.full hl.2.1
end
end Go.Proofs.Ytncglgkpgbhejaa
