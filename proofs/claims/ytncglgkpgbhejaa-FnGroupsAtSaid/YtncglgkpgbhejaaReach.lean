/-
  What is reached over steps of at most h: plain laws (counts, classes, the least thing of each class).
-/
import Derived.Test.YtncglgkpgbhejaaBase
namespace Go.Proofs.Ytncglgkpgbhejaa
open Go.RowKit

/-- How many of the first m numbers have a property. -/
def cntB (p : Nat → Bool) : Nat → Nat
  | 0 => 0
  | m + 1 => cntB p m + if p m then 1 else 0
theorem cntB_le (p : Nat → Bool) : ∀ m, cntB p m ≤ m
  | 0 => Nat.le_refl _
  | m + 1 => by have := cntB_le p m; simp only [cntB]; split <;> omega
theorem cntB_mono {p q : Nat → Bool} : ∀ {m : Nat}, (∀ a, a < m → p a = true → q a = true) → cntB p m ≤ cntB q m
  | 0, _ => Nat.le_refl _
  | m + 1, h => by
    have := cntB_mono (m := m) fun a ha => h a (by omega)
    have hm := h m (by omega)
    simp only [cntB]
    cases hp : p m <;> cases hq : q m <;> simp_all <;> omega
theorem cntB_lt {p q : Nat → Bool} : ∀ {m : Nat}, (∀ a, a < m → p a = true → q a = true) → ∀ a, a < m → p a = false → q a = true → cntB p m < cntB q m
  | 0, _, a, ha, _, _ => by omega
  | m + 1, h, a, ha, hp, hq => by
    have hmono := cntB_mono (m := m) fun a ha => h a (by omega)
    by_cases e : a = m
    · subst e
      simp only [cntB, hp, hq]
      simp
      omega
    · have := cntB_lt (m := m) (fun a ha => h a (by omega)) a (by omega) hp hq
      have hm := h m (by omega)
      simp only [cntB]
      cases hp : p m <;> cases hq : q m <;> simp_all <;> omega
theorem cntB_congr {p q : Nat → Bool} {m : Nat} (h : ∀ a, a < m → p a = q a) : cntB p m = cntB q m :=
  Nat.le_antisymm (cntB_mono fun a ha hp => by rw [← h a ha]; exact hp) (cntB_mono fun a ha hp => by rw [h a ha]; exact hp)
/-- One more. -/
theorem cntB_one {p q : Nat → Bool} : ∀ {m : Nat} (a : Nat), a < m → p a = true → q a = false → (∀ b, b < m → b ≠ a → p b = q b) → cntB p m = cntB q m + 1
  | 0, a, ha, _, _, _ => by omega
  | m + 1, a, ha, hp, hq, h => by
    by_cases e : a = m
    · subst e
      have := cntB_congr (m := a) fun b hb => h b (by omega) (by omega)
      simp [cntB, hp, hq, this]
    · have := cntB_one (m := m) a (by omega) hp hq fun b hb => h b (by omega)
      have hm := h m (by omega) (by omega)
      simp only [cntB, this, hm]
      omega
theorem cntB_none {p : Nat → Bool} : ∀ {m : Nat}, (∀ a, a < m → p a = false) → cntB p m = 0
  | 0, _ => rfl
  | m + 1, h => by simp [cntB, cntB_none (m := m) fun a ha => h a (by omega), h m (by omega)]
theorem cntB_all {p : Nat → Bool} : ∀ {m : Nat}, (∀ a, a < m → p a = true) → cntB p m = m
  | 0, _ => rfl
  | m + 1, h => by simp [cntB, cntB_all (m := m) fun a ha => h a (by omega), h m (by omega)]

/-- a reaches b over at most r steps of at most h. -/
def rnB (G : Nat → Nat → Int) (n : Nat) (h : Int) : Nat → Nat → Nat → Bool
  | 0, a, b => a == b
  | r + 1, a, b => rnB G n h r a b || (List.range n).any fun c => decide (G a c ≤ h) && rnB G n h r c b
section
variable {G : Nat → Nat → Int} {n : Nat} {h : Int}
theorem rnB_succ {r a b : Nat} : rnB G n h (r + 1) a b = true ↔ rnB G n h r a b = true ∨ ∃ c, c < n ∧ G a c ≤ h ∧ rnB G n h r c b = true := by
  simp only [rnB, Bool.or_eq_true, List.any_eq_true, List.mem_range, Bool.and_eq_true, decide_eq_true_eq]
theorem rnB_zero {a b : Nat} : rnB G n h 0 a b = true ↔ a = b := by simp [rnB]
theorem rnB_mono {r s a b : Nat} (hrs : r ≤ s) (hr : rnB G n h r a b = true) : rnB G n h s a b = true := by
  induction hrs with
  | refl => exact hr
  | step _ ih => exact rnB_succ.2 (.inl ih)
theorem rnB_stable {r b : Nat} (hs : ∀ a, a < n → rnB G n h (r + 1) a b = true → rnB G n h r a b = true) : ∀ s a, a < n → rnB G n h (r + s) a b = true → rnB G n h r a b = true
  | 0, a, _, ha => ha
  | s + 1, a, hl, ha => by
    rcases rnB_succ.1 (show rnB G n h (r + s + 1) a b = true from ha) with h1 | ⟨c, hc, h1, h2⟩
    · exact rnB_stable hs s a hl h1
    · exact hs a hl (rnB_succ.2 (.inr ⟨c, hc, h1, rnB_stable hs s c hc h2⟩))
theorem rnB_grow {b : Nat} (hb : b < n) : ∀ r, (∃ q, q < r ∧ ∀ a, a < n → rnB G n h (q + 1) a b = true → rnB G n h q a b = true) ∨ r + 1 ≤ cntB (fun a => rnB G n h r a b) n
  | 0 => .inr (by
      have := cntB_lt (p := fun _ => false) (q := fun a => rnB G n h 0 a b) (m := n) (fun _ _ hx => by cases hx) b hb rfl (by simp [rnB])
      omega)
  | r + 1 => by
    rcases rnB_grow hb r with ⟨q, hq, hs⟩ | hc
    · exact .inl ⟨q, by omega, hs⟩
    · by_cases hs : ∀ a, a < n → rnB G n h (r + 1) a b = true → rnB G n h r a b = true
      · exact .inl ⟨r, by omega, hs⟩
      · refine .inr ?_
        have : ∃ a, a < n ∧ rnB G n h (r + 1) a b = true ∧ ¬ rnB G n h r a b = true := by
          apply Classical.byContradiction
          intro hne
          refine hs fun a ha h1 => Classical.byContradiction fun h2 => hne ⟨a, ha, h1, h2⟩
        obtain ⟨a, ha, h1, h2⟩ := this
        have := cntB_lt (p := fun a => rnB G n h r a b) (q := fun a => rnB G n h (r + 1) a b) (m := n) (fun x _ hx => rnB_mono (Nat.le_succ r) hx) a ha (by simpa using h2) h1
        omega
/-- n steps are enough. -/
theorem rnB_full {s a b : Nat} (ha : a < n) (hb : b < n) (hs : rnB G n h s a b = true) : rnB G n h n a b = true := by
  rcases rnB_grow (G := G) (h := h) hb n with ⟨q, hq, hst⟩ | hc
  · refine rnB_mono (Nat.le_of_lt hq) (rnB_stable hst s a ha (rnB_mono (Nat.le_add_left s q) hs))
  · have := cntB_le (fun a => rnB G n h n a b) n
    omega
theorem rnB_trans {s b c : Nat} : ∀ {r a : Nat}, rnB G n h r a b = true → rnB G n h s b c = true → rnB G n h (r + s) a c = true
  | 0, a, h1, h2 => by
    have := rnB_zero.1 h1
    subst this
    rw [Nat.zero_add]
    exact h2
  | r + 1, a, h1, h2 => by
    rw [Nat.succ_add]
    rcases rnB_succ.1 h1 with h3 | ⟨d, hd, h3, h4⟩
    · exact rnB_succ.2 (.inl (rnB_trans h3 h2))
    · exact rnB_succ.2 (.inr ⟨d, hd, h3, rnB_trans h4 h2⟩)
/-- a reaches b. -/
def rcB (G : Nat → Nat → Int) (n : Nat) (h : Int) (a b : Nat) : Bool := rnB G n h n a b
theorem rcB_of {r a b : Nat} (ha : a < n) (hb : b < n) (hr : rnB G n h r a b = true) : rcB G n h a b = true := rnB_full ha hb hr
theorem rcB_refl {a : Nat} (ha : a < n) : rcB G n h a a = true := rcB_of ha ha (rnB_zero.2 rfl)
theorem rcB_edge {a b : Nat} (ha : a < n) (hb : b < n) (hg : G a b ≤ h) : rcB G n h a b = true := rcB_of (r := 1) ha hb (rnB_succ.2 (.inr ⟨b, hb, hg, rnB_zero.2 rfl⟩))
theorem rcB_trans {a b c : Nat} (ha : a < n) (hc : c < n) (h1 : rcB G n h a b = true) (h2 : rcB G n h b c = true) : rcB G n h a c = true := rcB_of ha hc (rnB_trans h1 h2)
theorem rcB_symm (hsym : ∀ a b, a < n → b < n → G a b = G b a) {a b : Nat} (ha : a < n) (hb : b < n) (h1 : rcB G n h a b = true) : rcB G n h b a = true := by
  have : ∀ r a, a < n → rnB G n h r a b = true → rcB G n h b a = true := by
    intro r
    induction r with
    | zero => intro a ha h1; have := rnB_zero.1 h1; subst this; exact rcB_refl ha
    | succ r ih =>
      intro a ha h1
      rcases rnB_succ.1 h1 with h2 | ⟨c, hc, h2, h3⟩
      · exact ih a ha h2
      · exact rcB_trans hb ha (ih c hc h3) (rcB_edge hc ha (by rw [hsym c a hc ha]; exact h2))
  exact this n a ha h1
/-- What no step leaves, nothing leaves. -/
theorem rnB_closed {S : Nat → Bool} (hS : ∀ a c, a < n → c < n → S a = true → G a c ≤ h → S c = true) : ∀ {r a b : Nat}, a < n → S a = true → rnB G n h r a b = true → S b = true
  | 0, a, b, _, ha, h1 => by have := rnB_zero.1 h1; subst this; exact ha
  | r + 1, a, b, hl, ha, h1 => by
    rcases rnB_succ.1 h1 with h2 | ⟨c, hc, h2, h3⟩
    · exact rnB_closed hS hl ha h2
    · exact rnB_closed hS hc (hS a c hl hc ha h2) h3
end

/-- For each thing one that it reaches, none behind it. -/
def Grp0 (G : Nat → Nat → Int) (n : Nat) (h : Int) (ys : List Int) : Prop := ys.length = n ∧ ∀ v, v < n → ∃ u : Nat, ys.getD v 0 = u ∧ u < n ∧ rcB G n h v u = true ∧ u ≤ v
/-- For each thing the least one that it reaches. -/
def GrpL (G : Nat → Nat → Int) (n : Nat) (h : Int) (ys : List Int) : Prop := ys.length = n ∧ ∀ v, v < n → ∃ u : Nat, ys.getD v 0 = u ∧ u < n ∧ rcB G n h v u = true ∧ ∀ x, x < n → rcB G n h v x = true → u ≤ x
section
variable {G : Nat → Nat → Int} {n : Nat} {h : Int} {ys zs : List Int}
theorem GrpL.unique (h1 : GrpL G n h ys) (h2 : GrpL G n h zs) : ys = zs := by
  obtain ⟨l1, h1⟩ := h1
  obtain ⟨l2, h2⟩ := h2
  refine List.ext_getElem (by omega) fun j a b => ?_
  obtain ⟨u, e1, e2, e3, e4⟩ := h1 j (by omega)
  obtain ⟨v, f1, f2, f3, f4⟩ := h2 j (by omega)
  have := e4 v f2 f3
  have := f4 u e2 e3
  have x1 : ys.getD j 0 = ys[j] := by simp [List.getD, a]
  have x2 : zs.getD j 0 = zs[j] := by simp [List.getD, b]
  omega
theorem Grp0.put (h1 : Grp0 G n h ys) {i k : Nat} (hi : i < n) (hk : k < n) (hg : rcB G n h i k = true) (hle : ys.getD k 0 ≤ ys.getD i 0) : Grp0 G n h (ys.set i (ys.getD k 0)) := by
  obtain ⟨l1, h1⟩ := h1
  refine ⟨by simpa using l1, fun v hv => ?_⟩
  by_cases e : v = i
  · subst e
    obtain ⟨u, e1, e2, e3, e4⟩ := h1 k hk
    obtain ⟨u', f1, f2, f3, f4⟩ := h1 v hv
    refine ⟨u, by rw [← e1]; simp [List.getD, l1, hv], e2, rcB_trans hv e2 hg e3, by omega⟩
  · have : (ys.set i (ys.getD k 0)).getD v 0 = ys.getD v 0 := by simp [List.getD, List.getElem?_set_ne (Ne.symm e)]
    rw [this]
    exact h1 v hv
theorem Grp0.start (hl : ys.length = n) (hy : ∀ v, v < n → ys.getD v 0 = v) : Grp0 G n h ys := ⟨hl, fun v hv => ⟨v, hy v hv, hv, rcB_refl hv, Nat.le_refl _⟩⟩
/-- Nothing changes any more: the least ones. -/
theorem Grp0.fix (h1 : Grp0 G n h ys) (hsym : ∀ a b, a < n → b < n → G a b = G b a) (hf : ∀ a b, a < n → b < n → G a b ≤ h → ys.getD b 0 ≤ ys.getD a 0) : GrpL G n h ys := by
  refine ⟨h1.1, fun v hv => ?_⟩
  obtain ⟨u, e1, e2, e3, e4⟩ := h1.2 v hv
  refine ⟨u, e1, e2, e3, fun x hx hr => ?_⟩
  have key : ∀ r v, v < n → rnB G n h r v x = true → ys.getD v 0 ≤ ys.getD x 0 := by
    intro r
    induction r with
    | zero => intro v _ h2; have := rnB_zero.1 h2; subst this; exact Int.le_refl _
    | succ r ih =>
      intro v hv h2
      rcases rnB_succ.1 h2 with h3 | ⟨c, hc, h3, h4⟩
      · exact ih v hv h3
      · have a1 := ih c hc h4
        have a2 := hf c v hc hv (by rw [hsym c v hc hv]; exact h3)
        omega
  have a1 := key n v hv hr
  obtain ⟨u', f1, f2, f3, f4⟩ := h1.2 x hx
  omega
/-- After r rounds each thing has one not behind those that it reaches over r steps. -/
def Low (G : Nat → Nat → Int) (n : Nat) (h : Int) (r : Nat) (ys : List Int) (v : Nat) : Prop := ∀ u, u < n → rnB G n h r v u = true → ys.getD v 0 ≤ u
theorem Grp0.full (h1 : Grp0 G n h ys) (hl : ∀ v, v < n → Low G n h n ys v) : GrpL G n h ys := by
  refine ⟨h1.1, fun v hv => ?_⟩
  obtain ⟨u, e1, e2, e3, e4⟩ := h1.2 v hv
  refine ⟨u, e1, e2, e3, fun x hx hr => ?_⟩
  have := hl v hv x hx hr
  omega
end
end Go.Proofs.Ytncglgkpgbhejaa
