/-
  Plain laws on rooms: the greedy way needs the fewest pieces; the other way round; more pieces need no more room.
-/
import Derived.Test.YtgcpglefkkpdjaaCutQ
namespace Go.Proofs.Ytgcpglefkkpdjaa
open Go.RowKit

theorem seg_mem {xs : List Int} {s l k m : Nat} (h1 : s ≤ l) (h2 : k ≤ m) {x : Int} (h : x ∈ seg xs l k) : x ∈ seg xs s m := by
  by_cases hlk : l ≤ k
  · rw [← seg_join (xs := xs) (i := s) (k := l) (m := m) h1 (by omega), ← seg_join (xs := xs) (i := l) (k := k) (m := m) hlk h2]
    exact List.mem_append_right _ (List.mem_append_left _ h)
  · have : seg xs l k = [] := by simp [seg, show k - l = 0 by omega]
    rw [this] at h; simp at h
theorem sprd_mono {xs : List Int} {s l k m : Nat} (h1 : s ≤ l) (h2 : l < k) (h3 : k ≤ m) (hm : m ≤ xs.length) : sprd xs l k ≤ sprd xs s m := by
  have ha := le_maxL (seg_mem (xs := xs) h1 h3 (maxL_mem (seg_ne h2 (by omega))))
  have hb := minL_le (seg_mem (xs := xs) h1 h3 (minL_mem (seg_ne h2 (by omega))))
  unfold sprd
  omega
/-- The first k numbers can be cut into just c pieces with room. -/
def Pc (xs : List Int) (r : Int) : Nat → Nat → Prop
  | 0, k => k = 0
  | c + 1, k => ∃ s, s < k ∧ Pc xs r c s ∧ sprd xs s k ≤ r
theorem pc_iff {xs : List Int} {r : Int} : ∀ (c k : Nat), k ≤ xs.length → (Pc xs r c k ↔ ∃ L : List (List Int), L.length = c ∧ L.flatten = xs.take k ∧ ∀ l ∈ L, l ≠ [] ∧ maxL l - minL l ≤ r) := by
  intro c
  induction c with
  | zero =>
    intro k hk
    constructor
    · intro h; simp only [Pc] at h; subst h; exact ⟨[], rfl, by simp, by simp⟩
    · rintro ⟨L, h1, h2, _⟩
      obtain rfl := List.eq_nil_of_length_eq_zero h1
      have := congrArg List.length h2
      rw [List.flatten_nil, List.length_nil, List.length_take] at this
      simp only [Pc]; omega
  | succ c ih =>
    intro k hk
    constructor
    · rintro ⟨s, hs, hp, hr⟩
      obtain ⟨L, h1, h2, h3⟩ := (ih s (by omega)).1 hp
      refine ⟨L ++ [seg xs s k], by simp [h1], ?_, ?_⟩
      · rw [List.flatten_append, h2, List.flatten_singleton, ← seg_zero, ← seg_zero]
        exact seg_join (by omega) (by omega)
      · intro l hl
        rcases List.mem_append.1 hl with hl | hl
        · exact h3 l hl
        · simp only [List.mem_singleton] at hl
          subst hl
          exact ⟨seg_ne hs hk, hr⟩
    · rintro ⟨L, h1, h2, h3⟩
      have hL : L ≠ [] := by rintro rfl; simp at h1
      have he := List.dropLast_concat_getLast hL
      obtain ⟨l, hl'⟩ : ∃ l, l = L.getLast hL := ⟨_, rfl⟩
      have hl3 := h3 _ (List.getLast_mem hL)
      rw [← hl'] at he hl3
      have hlen : 1 ≤ l.length := by cases l with
        | nil => exact absurd rfl hl3.1
        | cons a b => simp
      have hff : L.dropLast.flatten ++ l = xs.take k := by rw [← h2]; conv => rhs; rw [← he]
                                                           simp
      obtain ⟨s, hs⟩ : ∃ s, s = L.dropLast.flatten.length := ⟨_, rfl⟩
      have hsk : s + l.length = k := by
        have := congrArg List.length hff
        rw [List.length_append, List.length_take] at this
        omega
      have hpre : L.dropLast.flatten = xs.take s := by
        have := congrArg (List.take s) hff
        rw [List.take_append_of_le_length (by omega), List.take_of_length_le (by omega), List.take_take, Nat.min_eq_left (by omega)] at this
        exact this
      have hseg : seg xs s k = l := by
        have := congrArg (List.drop s) hff
        rw [List.drop_append_of_le_length (by omega), hs, List.drop_length, List.nil_append, ← hs] at this
        rw [this, seg, List.drop_take]
      exact ⟨s, by omega, (ih s (by omega)).2 ⟨L.dropLast, by simp [h1], hpre, fun x hx => h3 x (List.dropLast_subset L hx)⟩, by rw [sprd, hseg]; exact hl3.2⟩
theorem feas_pc {xs : List Int} {p r : Int} : Feas xs p r ↔ ∃ c : Nat, (c : Int) ≤ p ∧ Pc xs r c xs.length := by
  constructor
  · rintro ⟨L, h1, h2, h3⟩
    exact ⟨L.length, h2, (pc_iff _ _ (Nat.le_refl _)).2 ⟨L, rfl, by rw [List.take_length]; exact h1, h3⟩⟩
  · rintro ⟨c, hc, hp⟩
    obtain ⟨L, h1, h2, h3⟩ := (pc_iff _ _ (Nat.le_refl _)).1 hp
    rw [List.take_length] at h2
    exact ⟨L, h2, by omega, h3⟩
/-- What the greedy way comes to. -/
theorem greedy {xs : List Int} {r : Int} (h0 : 0 ≤ r) : ∀ k, 1 ≤ k → k ≤ xs.length →
    ((fw r xs k).getLastD 0 < k ∧ sprd xs ((fw r xs k).getLastD 0) k ≤ r ∧ Pc xs r ((fw r xs k).length - 1) ((fw r xs k).getLastD 0)) ∧
    ∀ c s, s < k → Pc xs r c s → sprd xs s k ≤ r → (fw r xs k).length ≤ c + 1 ∧ (c + 1 = (fw r xs k).length → s ≤ (fw r xs k).getLastD 0) := by
  intro k
  induction k with
  | zero => intro h; omega
  | succ k ih =>
    intro _ hk
    by_cases hk0 : k = 0
    · subst hk0
      have hs := sprd_single (xs := xs) (k := 0) (by omega)
      have e : fw r xs (0 + 1) = [0] := by
        rw [fw, show (fw r xs 0).getLastD 0 = 0 from rfl, if_neg (by rw [hs]; omega)]; rfl
      rw [e]
      refine ⟨⟨by simp, by show sprd xs 0 (0 + 1) ≤ r; rw [hs]; exact h0, by simp [Pc]⟩, fun c s hs _ _ => ⟨by simp, fun _ => by omega⟩⟩
    · obtain ⟨⟨g1, g2, g3⟩, g4⟩ := ih (by omega) (by omega)
      have hlen := fw_len r xs k
      have ho : ∀ c s, s < k + 1 → Pc xs r c s → sprd xs s (k + 1) ≤ r → (s = k ∧ (fw r xs k).length ≤ c) ∨ (s < k ∧ (fw r xs k).length ≤ c + 1 ∧ (c + 1 = (fw r xs k).length → s ≤ (fw r xs k).getLastD 0)) := by
        intro c s hs hp hr
        by_cases e : s = k
        · left
          subst e
          cases c with
          | zero => simp only [Pc] at hp; omega
          | succ c =>
            obtain ⟨s', h1, h2, h3⟩ := hp
            exact ⟨rfl, (g4 c s' h1 h2 h3).1⟩
        · right
          have := g4 c s (by omega) hp (Int.le_trans (sprd_mono (Nat.le_refl _) (by omega) (by omega) hk) hr)
          exact ⟨by omega, this⟩
      by_cases hcut : r < sprd xs ((fw r xs k).getLastD 0) (k + 1)
      · have e : fw r xs (k + 1) = fw r xs k ++ [k] := by rw [fw, if_pos hcut]
        rw [e, getLastD_snoc, List.length_append, List.length_singleton]
        refine ⟨⟨by omega, by rw [sprd_single (by omega)]; exact h0, ?_⟩, fun c s hs hp hr => ?_⟩
        · rw [Nat.add_sub_cancel]
          obtain ⟨n, hn⟩ : ∃ n, (fw r xs k).length = n + 1 := ⟨(fw r xs k).length - 1, by omega⟩
          rw [hn] at g3 ⊢
          exact ⟨_, g1, g3, g2⟩
        · rcases ho c s hs hp hr with ⟨h1, h2⟩ | ⟨h1, h2, h3⟩
          · exact ⟨by omega, fun _ => by omega⟩
          · refine ⟨?_, fun _ => by omega⟩
            by_cases e2 : c + 1 = (fw r xs k).length
            · have h4 := h3 e2
              have := sprd_mono (xs := xs) h4 (show (fw r xs k).getLastD 0 < k + 1 by omega) (Nat.le_refl _) hk
              omega
            · omega
      · have e : fw r xs (k + 1) = fw r xs k := by rw [fw, if_neg hcut]
        rw [e]
        refine ⟨⟨by omega, by omega, g3⟩, fun c s hs hp hr => ?_⟩
        rcases ho c s hs hp hr with ⟨h1, h2⟩ | ⟨h1, h2, h3⟩
        · exact ⟨by omega, fun h => by omega⟩
        · exact ⟨h2, h3⟩
theorem greedy_feas {xs : List Int} {p r : Int} (h0 : 0 ≤ r) (hn : 0 < xs.length) : ((fw r xs xs.length).length : Int) ≤ p ↔ Feas xs p r := by
  obtain ⟨⟨g1, g2, g3⟩, g4⟩ := greedy (xs := xs) h0 xs.length (by omega) (Nat.le_refl _)
  have hlen := fw_len r xs xs.length
  rw [feas_pc]
  constructor
  · intro h
    refine ⟨(fw r xs xs.length).length, h, ?_⟩
    obtain ⟨n, hn⟩ : ∃ n, (fw r xs xs.length).length = n + 1 := ⟨(fw r xs xs.length).length - 1, by omega⟩
    rw [hn] at g3 ⊢
    exact ⟨_, g1, g3, g2⟩
  · rintro ⟨c, hc, hp⟩
    cases c with
    | zero => simp only [Pc] at hp; omega
    | succ c =>
      obtain ⟨s, h1, h2, h3⟩ := hp
      have := (g4 c s h1 h2 h3).1
      omega
theorem lr_rt {xs : List Int} {p : Int} {n : Nat} (hn : 0 < xs.length) (h : IsLR xs p n) : IsRT xs p n := by
  refine ⟨(greedy_feas (by omega) hn).1 h.1, fun r' hf => ?_⟩
  by_cases hr : 0 ≤ r'
  · obtain ⟨m, rfl⟩ := Int.eq_ofNat_of_zero_le hr
    have h2 := (greedy_feas (xs := xs) (p := p) (r := (m : Nat)) (by omega) hn).2 hf
    by_cases hlt : m < n
    · have := h.2 m hlt; omega
    · omega
  · exfalso
    obtain ⟨k, k1, k2, _, k4, _⟩ := feas_cons (i := 0) hn (by simpa using hf)
    have := minL_le (maxL_mem (seg_ne k1 k2))
    unfold sprd at k4
    omega
theorem maxL_eq {xs ys : List Int} (h : ∀ x, x ∈ xs ↔ x ∈ ys) (hn : xs ≠ []) : maxL xs = maxL ys ∧ minL xs = minL ys := by
  have hm : ys ≠ [] := by rintro rfl; exact absurd ((h _).1 (maxL_mem hn)) (by simp)
  have a := le_maxL ((h _).1 (maxL_mem hn))
  have b := le_maxL ((h _).2 (maxL_mem hm))
  have c := minL_le ((h _).1 (minL_mem hn))
  have d := minL_le ((h _).2 (minL_mem hm))
  omega
theorem feas_rev {xs : List Int} {p r : Int} (h : Feas xs p r) : Feas xs.reverse p r := by
  obtain ⟨L, h1, h2, h3⟩ := h
  refine ⟨(L.map List.reverse).reverse, ?_, by simpa using h2, ?_⟩
  · rw [← h1, List.reverse_flatten]
  · intro l hl
    simp only [List.mem_reverse, List.mem_map] at hl
    obtain ⟨l', hl', rfl⟩ := hl
    obtain ⟨h4, h5⟩ := h3 l' hl'
    have := maxL_eq (xs := l') (ys := l'.reverse) (by simp) h4
    exact ⟨by simpa using h4, by omega⟩
theorem isRT_rev {xs : List Int} {p r : Int} (h : IsRT xs p r) : IsRT xs.reverse p r :=
  ⟨feas_rev h.1, fun r' hf => h.2 r' (by have := feas_rev hf; rwa [List.reverse_reverse] at this)⟩
theorem okSteps_rev' {xs : List Int} {lo hi : Int} : allB lo hi xs.reverse = allB lo hi xs := by simp [allB]
end Go.Proofs.Ytgcpglefkkpdjaa
