
/-
  Contract: leastMisses of the reference.
-/
import Derived.Test.YtgageljahebjnaaCutE
import Derived.Test.YtgageljahebjnaaEqF
namespace Go.Proofs.Ytgageljahebjnaa
open Go.RowKit

/-- A row of the reference: at most q + 1 pieces of the first k numbers, k up to n. -/
def aRow (m : Nat → Nat → Rat) (n q : Nat) : List (Int × Int) := (List.range (n + 1)).map fun k => frp (aR m q k)
theorem aRow_len (m : Nat → Nat → Rat) (n q : Nat) : (aRow m n q).length = n + 1 := by simp [aRow]
theorem aRow_at (m : Nat → Nat → Rat) {n q k : Nat} (h : k ≤ n) : pAt (aRow m n q) k = frp (aR m q k) := by
  simp [pAt, aRow, List.getD, List.getElem?_range (show k < n + 1 by omega)]
theorem aRow_take (m : Nat → Nat → Rat) {n q k : Nat} (h : k ≤ n) : (aRow m n q).take (k + 1) = (aRow m n q).take k ++ [frp (aR m q k)] := by
  rw [List.take_succ_eq_append_getElem (by rw [aRow_len]; omega)]
  simp [aRow]
theorem aRow_full (m : Nat → Nat → Rat) (n q : Nat) : (aRow m n q).take (n + 1) = aRow m n q := List.take_of_length_le (by rw [aRow_len]; omega)
theorem aRow_one (m : Nat → Nat → Rat) (n q : Nat) {z : Rat} (hz : z = 0) : (aRow m n q).take 1 = [(z.num, (z.den : Int))] := by
  have h := aRow_take m (n := n) (q := q) (k := 0) (Nat.zero_le _)
  rw [h, List.take_zero, List.nil_append]
  have : aR m q 0 = z := by cases q <;> rw [aR, if_pos rfl, hz]
  rw [this]
  rfl

theorem rowsF : ValsOf Try.prog 58 39 (.slice none 0 0) 24 := ⟨Try.underlying58, by kernel_rfl, rfl⟩
/-- The values us are rows 0 to p - 1, each in a block of its own. -/
def RowsP (w : World) (B : Nat) (us : List Value) (m : Nat → Nat → Rat) (n p : Nat) : Prop :=
  us.length = p ∧ ∀ j, j < p → ∃ g c, us[j]? = some (.slice (some ⟨g, 0, none⟩) (n + 1) c) ∧ OwnP w B (.slice (some ⟨g, 0, none⟩) (n + 1) c) (aRow m n j)
section
variable {w w' : World} {B B' : Nat} {v : Value} {us vs : List Value} {m : Nat → Nat → Rat} {n p : Nat}
theorem RowsP.below (h : RowsP w B us m n p) (hb : Below w.heap.size w w') : RowsP w' B us m n p :=
  ⟨h.1, fun j hj => by obtain ⟨g, c, h1, h2⟩ := h.2 j hj; exact ⟨g, c, h1, h2.below hb⟩⟩
theorem own_apart {u : Value} {ps : List (Int × Int)} (hu : OwnP w B u ps) (hv : OwnV w B' 39 v vs) : u.ownBlock = none ∨ u.ownBlock ≠ v.ownBlock := by
  rcases hu.2 with ⟨rfl, _⟩ | ⟨g, cap, cur, rfl, _, hg, _⟩
  · left; rfl
  · right
    rcases hv.2 with ⟨rfl, _⟩ | ⟨g', cap', cur', rfl, _, hg', _⟩
    · simp [Value.ownBlock]
    · intro h
      simp only [Value.ownBlock, if_true, Option.some.injEq, ite_true] at h
      have h : g = g' := by simpa using h
      subst h
      rw [hg] at hg'
      simp at hg'
theorem own_apart2 {u : Value} {ps : List (Int × Int)} (hu : OwnP w B u ps) (hv : OwnV w B' 39 v vs) : v.ownBlock = none ∨ v.ownBlock ≠ u.ownBlock := by
  rcases own_apart hu hv with h | h
  · cases hb : v.ownBlock with
    | none => exact .inl rfl
    | some b => rw [h]; exact .inr (by simp)
  · exact .inr fun e => h e.symm
theorem OwnV.keep {e : TypeId} (h : OwnV w B e v vs) {row : Option Nat} (hg : w.grownBy w' row) (hne : v.ownBlock = none ∨ v.ownBlock ≠ row) : OwnV w' B e v vs := World.ownsRow.kept h hg hne
theorem RowsP.keep (h : RowsP w B us m n p) (hv : OwnV w B' 39 v vs) (hg : w.grownBy w' v.ownBlock) : RowsP w' B us m n p :=
  ⟨h.1, fun j hj => by obtain ⟨g, c, h1, h2⟩ := h.2 j hj; exact ⟨g, c, h1, h2.keep hg (own_apart h2 hv)⟩⟩
theorem RowsP.snoc (h : RowsP w B us m n p) {g c : Nat} (hu : OwnP w B (.slice (some ⟨g, 0, none⟩) (n + 1) c) (aRow m n p)) : RowsP w B (us ++ [.slice (some ⟨g, 0, none⟩) (n + 1) c]) m n (p + 1) := by
  refine ⟨by simp [h.1], fun j hj => ?_⟩
  by_cases e : j = p
  · subst e
    refine ⟨g, c, ?_, hu⟩
    rw [List.getElem?_append_right (by rw [h.1]; omega), h.1, Nat.sub_self]
    rfl
  · obtain ⟨g', c', h1, h2⟩ := h.2 j (by omega)
    exact ⟨g', c', by rw [List.getElem?_append_left (by rw [h.1]; omega)]; exact h1, h2⟩
theorem OwnV.head (h : OwnV w B 39 v vs) (hl : 0 < vs.length) : ∃ g c, v = .slice (some ⟨g, 0, none⟩) vs.length c ∧ vs.length ≤ c ∧ c ≤ 9223372036854775807 ∧ g < w.heap.size ∧ ∀ (j : Nat) u, vs[j]? = some u → w.cell? ⟨g, j, none⟩ = some u := by
  obtain ⟨A, c, h1, h2, h3, h4⟩ := h.shape
  obtain ⟨g, rfl, _, h5, h6⟩ := h4 hl
  exact ⟨g, c, h1, h2, h3, h5, h6⟩
theorem OwnP.head {ps : List (Int × Int)} (h : OwnP w B v ps) (hl : 0 < ps.length) : ∃ g c, v = .slice (some ⟨g, 0, none⟩) ps.length c ∧ ps.length ≤ c ∧ c ≤ 9223372036854775807 := by
  obtain ⟨A, c, h1, h2, h3, h4⟩ := h.sl
  rcases h.2 with ⟨hv, h0⟩ | ⟨g, cap, cur, hv, hr⟩
  · omega
  · have : ∃ c, v = .slice (some ⟨g, 0, none⟩) ps.length c := ⟨cap, hv⟩
    obtain ⟨c', hc'⟩ := this
    rw [h1] at hc'
    simp only [Value.slice.injEq] at hc'
    obtain ⟨rfl, _, rfl⟩ := hc'
    exact ⟨g, c, h1, h2, h3⟩
end
end Go.Proofs.Ytgageljahebjnaa
