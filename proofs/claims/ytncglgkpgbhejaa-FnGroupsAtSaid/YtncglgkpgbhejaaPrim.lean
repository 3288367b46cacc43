/-
  The least tree: whatever nearest thing comes next, the sum is the same (counted by the classes of each height). Plain laws.
-/
import Derived.Test.YtncglgkpgbhejaaReach
namespace Go.Proofs.Ytncglgkpgbhejaa
open Go.RowKit

/-- v is the least thing of its class. -/
def repB (G : Nat → Nat → Int) (n : Nat) (h : Int) (v : Nat) : Bool := (List.range v).all fun u => !rcB G n h v u
/-- v is the least thing of a class that no thing of S reaches. -/
def outB (G : Nat → Nat → Int) (n : Nat) (h : Int) (S : Nat → Bool) (v : Nat) : Bool := repB G n h v && (List.range n).all fun s => !(S s && rcB G n h s v)
def FB (G : Nat → Nat → Int) (n : Nat) (h : Int) (S : Nat → Bool) : Nat := cntB (outB G n h S) n
def sumF (f : Nat → Nat) : Nat → Nat
  | 0 => 0
  | m + 1 => sumF f m + f m
def WB (G : Nat → Nat → Int) (n : Nat) (S : Nat → Bool) : Nat := sumF (fun h => FB G n h S) 41
def putS (S : Nat → Bool) (v : Nat) : Nat → Bool := fun x => S x || x == v
section
variable {G : Nat → Nat → Int} {n : Nat} {h : Int} {S : Nat → Bool}
theorem repB_iff {v : Nat} : repB G n h v = true ↔ ∀ u, u < v → rcB G n h v u = false := by simp [repB, List.all_eq_true]
theorem outB_iff {v : Nat} : outB G n h S v = true ↔ repB G n h v = true ∧ ∀ s, s < n → S s = true → rcB G n h s v = false := by
  simp only [outB, Bool.and_eq_true, List.all_eq_true, List.mem_range, Bool.not_eq_true', Bool.and_eq_false_iff]
  constructor
  · rintro ⟨h1, h2⟩
    refine ⟨h1, fun s hs hS => ?_⟩
    rcases h2 s hs with h3 | h3
    · rw [hS] at h3; cases h3
    · exact h3
  · rintro ⟨h1, h2⟩
    refine ⟨h1, fun s hs => ?_⟩
    cases hS : S s
    · exact .inl rfl
    · exact .inr (h2 s hs hS)
theorem least_nat {p : Nat → Bool} : ∀ {k : Nat}, p k = true → ∃ m, m ≤ k ∧ p m = true ∧ ∀ u, u < m → p u = false := by
  intro k
  induction k using Nat.strongRecOn with
  | ind k ih =>
    intro hk
    by_cases h : ∃ u, u < k ∧ p u = true
    · obtain ⟨u, hu, hp⟩ := h
      obtain ⟨m, h1, h2, h3⟩ := ih u hu hp
      exact ⟨m, by omega, h2, h3⟩
    · refine ⟨k, Nat.le_refl _, hk, fun u hu => ?_⟩
      cases hp : p u
      · rfl
      · exact absurd ⟨u, hu, hp⟩ h
/-- Each thing's class has one least thing. -/
theorem rep_of (hsym : ∀ a b, a < n → b < n → G a b = G b a) {v : Nat} (hv : v < n) : ∃ m, m < n ∧ rcB G n h v m = true ∧ repB G n h m = true ∧ ∀ m', m' < n → rcB G n h v m' = true → repB G n h m' = true → m' = m := by
  obtain ⟨m, h1, h2, h3⟩ := least_nat (p := fun u => rcB G n h v u) (k := v) (rcB_refl hv)
  have hm : m < n := by omega
  have hr : repB G n h m = true := by
    rw [repB_iff]
    intro u hu
    cases hx : rcB G n h m u
    · rfl
    · have := h3 u hu
      rw [rcB_trans hv (by omega) h2 hx] at this
      cases this
  refine ⟨m, hm, h2, hr, fun m' hm' h4 h5 => ?_⟩
  have a1 : rcB G n h m m' = true := rcB_trans hm hm' (rcB_symm hsym hv hm h2) h4
  have a2 : rcB G n h m' m = true := rcB_symm hsym hm hm' a1
  rcases Nat.lt_trichotomy m m' with hlt | rfl | hlt
  · have := repB_iff.1 h5 m hlt; rw [a2] at this; cases this
  · rfl
  · have := repB_iff.1 hr m' hlt; rw [a1] at this; cases this
theorem FB_same {s v : Nat} (hs : s < n) (hv : v < n) (hS : S s = true) (hr : rcB G n h s v = true) : FB G n h (putS S v) = FB G n h S := by
  refine cntB_congr fun x hx => ?_
  rw [Bool.eq_iff_iff, outB_iff, outB_iff]
  constructor
  · rintro ⟨h1, h2⟩
    exact ⟨h1, fun y hy hy2 => h2 y hy (by simp [putS, hy2])⟩
  · rintro ⟨h1, h2⟩
    refine ⟨h1, fun y hy hy2 => ?_⟩
    simp only [putS, Bool.or_eq_true, beq_iff_eq] at hy2
    rcases hy2 with hy2 | rfl
    · exact h2 y hy hy2
    · cases hx2 : rcB G n h y x
      · rfl
      · have := h2 s hs hS
        rw [rcB_trans hs hx hr hx2] at this
        cases this
theorem FB_less (hsym : ∀ a b, a < n → b < n → G a b = G b a) {v : Nat} (hv : v < n) (hS : S v = false) (hcl : ∀ a c, a < n → c < n → S a = true → G a c ≤ h → S c = true) : FB G n h S = FB G n h (putS S v) + 1 := by
  obtain ⟨m, hm, h1, h2, h3⟩ := rep_of (h := h) hsym hv
  have hvm := rcB_symm hsym hv hm h1
  refine cntB_one m hm ?_ ?_ fun b hb hbm => ?_
  · rw [outB_iff]
    refine ⟨h2, fun s hs hs2 => ?_⟩
    cases hx : rcB G n h s m
    · rfl
    · have := rnB_closed hcl hs hs2 (rcB_trans hs hv hx hvm)
      rw [hS] at this
      cases this
  · cases hx : outB G n h (putS S v) m
    · rfl
    · have := (outB_iff.1 hx).2 v hv (by simp [putS])
      rw [h1] at this
      cases this
  · rw [Bool.eq_iff_iff, outB_iff, outB_iff]
    constructor
    · rintro ⟨h4, h5⟩
      refine ⟨h4, fun y hy hy2 => ?_⟩
      simp only [putS, Bool.or_eq_true, beq_iff_eq] at hy2
      rcases hy2 with hy2 | rfl
      · exact h5 y hy hy2
      · cases hx : rcB G n h y b
        · rfl
        · exact absurd (h3 b hb hx h4) hbm
    · rintro ⟨h4, h5⟩
      exact ⟨h4, fun y hy hy2 => h5 y hy (by simp [putS, hy2])⟩
theorem sumF_step {f g : Nat → Nat} {d : Nat} : ∀ {m : Nat}, (∀ h, h < m → f h = g h + if h < d then 1 else 0) → sumF f m = sumF g m + min d m
  | 0, _ => by simp [sumF]
  | m + 1, h => by
    have h1 := sumF_step (m := m) fun x hx => h x (by omega)
    have h2 := h m (by omega)
    simp only [sumF, h1, h2]
    split <;> omega
/-- A nearest thing is added: the sum of what is left falls by its distance. -/
theorem WB_step (hsym : ∀ a b, a < n → b < n → G a b = G b a) {s v : Nat} (hs : s < n) (hv : v < n) (hS : S s = true) (hS2 : S v = false) (hmin : ∀ a c, a < n → c < n → S a = true → S c = false → G s v ≤ G a c) (h0 : 0 ≤ G s v) (h1 : G s v ≤ 41) :
    (WB G n S : Int) = WB G n (putS S v) + G s v := by
  obtain ⟨d, hd⟩ : ∃ d : Nat, G s v = d := ⟨(G s v).toNat, by omega⟩
  have := sumF_step (f := fun h => FB G n h S) (g := fun h => FB G n h (putS S v)) (d := d) (m := 41) fun h _ => by
    by_cases hd2 : h < d
    · rw [if_pos hd2]
      refine FB_less hsym hv hS2 fun a c ha hc hSa hg => ?_
      cases hSc : S c
      · have := hmin a c ha hc hSa hSc
        omega
      · rfl
    · rw [if_neg hd2, Nat.add_zero]
      exact (FB_same hs hv hS (rcB_edge hs hv (by omega))).symm
  unfold WB
  omega
theorem sumF_zero {f : Nat → Nat} : ∀ {m : Nat}, (∀ h, h < m → f h = 0) → sumF f m = 0
  | 0, _ => rfl
  | m + 1, h => by simp [sumF, sumF_zero (m := m) fun x hx => h x (by omega), h m (by omega)]
/-- All are there: nothing is left. -/
theorem WB_all (hS : ∀ v, v < n → S v = true) : WB G n S = 0 := by
  refine sumF_zero fun h _ => cntB_none fun v hv => ?_
  cases hx : outB G n h S v
  · rfl
  · have := (outB_iff.1 hx).2 v hv (hS v hv)
    rw [rcB_refl hv] at this
    cases this
theorem sumF_le {f g : Nat → Nat} : ∀ {m : Nat}, (∀ h, h < m → f h ≤ g h) → sumF f m ≤ sumF g m
  | 0, _ => Nat.le_refl _
  | m + 1, h => by
    have h1 := sumF_le (m := m) fun x hx => h x (by omega)
    have h2 := h m (by omega)
    simp only [sumF]
    omega
def oneS (a : Nat) : Nat → Bool := fun x => x == a
theorem FB_one (hsym : ∀ a b, a < n → b < n → G a b = G b a) {a : Nat} (ha : a < n) : cntB (repB G n h) n = FB G n h (oneS a) + 1 := by
  obtain ⟨m, hm, h1, h2, h3⟩ := rep_of (h := h) hsym ha
  refine cntB_one m hm h2 ?_ fun b hb hbm => ?_
  · cases hx : outB G n h (oneS a) m
    · rfl
    · have := (outB_iff.1 hx).2 a ha (by simp [oneS])
      rw [h1] at this
      cases this
  · rw [Bool.eq_iff_iff, outB_iff]
    constructor
    · intro h4
      refine ⟨h4, fun y hy hy2 => ?_⟩
      simp only [oneS, beq_iff_eq] at hy2
      subst hy2
      cases hx : rcB G n h y b
      · rfl
      · exact absurd (h3 b hb hx h4) hbm
    · rintro ⟨h4, _⟩
      exact h4
theorem WB_one (hsym : ∀ a b, a < n → b < n → G a b = G b a) {a b : Nat} (ha : a < n) (hb : b < n) : WB G n (oneS a) = WB G n (oneS b) := by
  refine Nat.le_antisymm (sumF_le fun h _ => ?_) (sumF_le fun h _ => ?_)
  all_goals
    have h1 := FB_one (h := h) hsym ha
    have h2 := FB_one (h := h) hsym hb
    show FB G n h _ ≤ FB G n h _
    omega
/-- The sum of the distances from a. -/
def starZ (G : Nat → Nat → Int) (a : Nat) : Nat → Int
  | 0 => 0
  | b + 1 => starZ G a b + G a b
theorem star_cnt {a : Nat} : ∀ {m : Nat}, (∀ b, b < m → 0 ≤ G a b ∧ G a b ≤ 41) → (sumF (fun h => cntB (fun b => decide ((h : Int) < G a b)) m) 41 : Int) = starZ G a m
  | 0, _ => by
    have : sumF (fun h => cntB (fun b => decide ((h : Int) < G a b)) 0) 41 = 0 := sumF_zero fun _ _ => rfl
    rw [this]
    rfl
  | m + 1, hb => by
    have h1 := star_cnt (a := a) (m := m) fun b hb2 => hb b (by omega)
    obtain ⟨d, hd⟩ : ∃ d : Nat, G a m = d := ⟨(G a m).toNat, by have := hb m (by omega); omega⟩
    have := sumF_step (f := fun h => cntB (fun b => decide ((h : Int) < G a b)) (m + 1)) (g := fun h => cntB (fun b => decide ((h : Int) < G a b)) m) (d := d) (m := 41) fun h _ => by
      simp only [cntB, hd]
      by_cases hh : h < d
      · rw [if_pos hh, if_pos (by simpa using hh)]
      · rw [if_neg hh, if_neg (by simpa using hh)]
    have hm := hb m (by omega)
    simp only [starZ]
    omega
/-- A tree is no longer than a star. -/
theorem WB_star (hsym : ∀ a b, a < n → b < n → G a b = G b a) {a : Nat} (ha : a < n) (h0 : 0 < n) (hb : ∀ b, b < n → 0 ≤ G a b ∧ G a b ≤ 41) : (WB G n (oneS 0) : Int) ≤ starZ G a n := by
  rw [WB_one hsym h0 ha, ← star_cnt hb]
  refine Int.ofNat_le.2 (sumF_le fun h _ => cntB_mono fun b hb2 hx => ?_)
  have := (outB_iff.1 hx).2 a ha (by simp [oneS])
  simp only [decide_eq_true_eq]
  apply Classical.byContradiction
  intro hge
  rw [rcB_edge ha hb2 (by omega)] at this
  cases this
theorem sumF_first (f : Nat → Nat) : ∀ m, f 0 ≤ sumF f (m + 1)
  | 0 => by simp [sumF]
  | m + 1 => by have := sumF_first f m; simp only [sumF] at this ⊢; omega
/-- A tree of n things has n - 1 steps of at least 1. -/
theorem WB_ge (hsym : ∀ a b, a < n → b < n → G a b = G b a) (h0 : 0 < n) (hd : ∀ a b, a < n → b < n → a ≠ b → 1 ≤ G a b) : n ≤ WB G n (oneS 0) + 1 := by
  have h1 := sumF_first (fun h => FB G n h (oneS 0)) 40
  have h2 := FB_one (h := ((0 : Nat) : Int)) hsym h0
  have h3 : cntB (repB G n ((0 : Nat) : Int)) n = n := cntB_all fun v hv => by
    rw [repB_iff]
    intro u hu
    cases hx : rcB G n ((0 : Nat) : Int) v u
    · rfl
    · have := rnB_closed (S := fun x => x == v) (fun a c ha hc hSa hg => by
        simp only [beq_iff_eq] at hSa ⊢
        subst hSa
        apply Classical.byContradiction
        intro hne
        have := hd a c ha hc (Ne.symm hne)
        simp at hg
        omega) hv (by simp) hx
      simp at this
      omega
  have h1 : FB G n ((0 : Nat) : Int) (oneS 0) ≤ WB G n (oneS 0) := h1
  omega
end
end Go.Proofs.Ytncglgkpgbhejaa
