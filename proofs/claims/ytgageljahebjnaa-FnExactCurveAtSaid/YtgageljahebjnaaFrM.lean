
/-
  Rows of fractions that are made and stored into.
-/
import Derived.Test.YtgageljahebjnaaFrR
import Derived.Test.YtgageljahebjnaaPr
namespace Go.Proofs.Ytgageljahebjnaa
open Go.RowKit

theorem cellsP_set : ∀ {ps : List (Int × Int)} {j : Nat} {x y : Int}, j < ps.length → ((cellsP ps).set (j * 2) (.int .i64 x)).set (j * 2 + 1) (.int .i64 y) = cellsP (ps.set j (x, y))
  | [], j, _, _, h => by simp at h
  | p :: ps, 0, x, y, _ => rfl
  | p :: ps, j + 1, x, y, h => by
    have := cellsP_set (ps := ps) (j := j) (x := x) (y := y) (by simpa using h)
    have e : ∀ (p : Int × Int) ps, cellsP (p :: ps) = .int .i64 p.1 :: .int .i64 p.2 :: cellsP ps := fun _ _ => rfl
    rw [List.set_cons_succ, e, e, show (j + 1) * 2 = j * 2 + 1 + 1 by omega, List.set_cons_succ, List.set_cons_succ, List.set_cons_succ, List.set_cons_succ, this]
theorem cellsP_rep (n : Nat) : (madeCells #[Value.int .i64 0, Value.int .i64 0] (n * 2)).toList = cellsP (List.replicate n (0, 0)) := by
  apply List.ext_getElem?
  intro j
  have hl : (cellsP (List.replicate n (0, 0))).length = n * 2 := by rw [cellsP_len, List.length_replicate]
  by_cases hj : j < n * 2
  · have hp : pAt (List.replicate n ((0 : Int), (0 : Int))) (j / 2) = (0, 0) := by
      simp [pAt, List.getD, List.getElem?_replicate]
      split <;> rfl
    have h1 := cellsP_get (ps := List.replicate n (0, 0)) (j := j / 2) (by rw [List.length_replicate]; omega)
    rw [hp] at h1
    have h2 : (madeCells #[Value.int .i64 0, Value.int .i64 0] (n * 2)).toList[j]? = some (.int .i64 0) := by
      rcases Nat.mod_two_eq_zero_or_one j with h | h <;> simp [madeCells, hj, h]
    rw [h2]
    rcases Nat.mod_two_eq_zero_or_one j with h | h
    · rw [show j = j / 2 * 2 by omega]; exact h1.1.symm
    · rw [show j = j / 2 * 2 + 1 by omega]; exact h1.2.symm
  · rw [List.getElem?_eq_none (l := (madeCells _ _).toList) (by simp [madeCells]; omega), List.getElem?_eq_none (l := cellsP _) (by rw [hl]; omega)]

/-- make([]Frac, n) -/
theorem wpList_make_fracs (w : World) {ops : Array Oper} {rest : List Oper} {o : Oper} {a : Act} {Q : Exit → Act → World → Prop}
    (hg : o.guard = none) (l c : Operand) (hop : o.op = Op.makeSlice 39 l c) (n : Nat)
    (hl : a.eval l = .int .i64 n) (hc : a.eval c = .int .i64 n) (hn : n ≤ 1000000)
    (hK : ∀ w', OwnP w' w.heap.size (.slice (some ⟨w.heap.size, 0, none⟩) n n) (List.replicate n (0, 0)) → Below w.heap.size w w' → w.heap.size < w'.heap.size →
      wpList Try.prog ops Q rest (a.put o.dst (.slice (some ⟨w.heap.size, 0, none⟩) n n)) w') : wpList Try.prog ops Q (o :: rest) a w := by
  obtain ⟨i0, hi, hz0, hz1, hz2⟩ := info_parts fracs_info.2
  refine wpList_make_full w hg l c 39 hop w.heap.size 24 i0 (.agg #[.int .i64 0, .int .i64 0]) 2 fracs_info.1 hi hz0 hz1 .i64 .i64 n n n hl hc rfl rfl (by rw [hz2]; omega) (by unfold maxLen; omega) (Nat.le_refl _) ?_
  intro w' h1 h2
  refine hK w' ?_ ⟨h2.os, h2.tape, h2.output, h2.size, fun k hk => h2.block k hk (by simp)⟩ (World.ownsRow.lt h1 _ rfl).2
  unfold OwnP
  rw [List.length_replicate, ← cellsP_rep]
  exact h1
section
variable {w w' : World} {B B' : Nat} {v : Value} {ps : List (Int × Int)} {g n c : Nat}
theorem OwnP.len (h : OwnP w B (.slice (some ⟨g, 0, none⟩) n c) ps) : n = ps.length ∧ B ≤ g ∧ g < w.heap.size := by
  refine ⟨?_, World.ownsRow.lt h g rfl⟩
  obtain ⟨hl, h0 | ⟨g', cap', cur, hv, hr⟩⟩ := id h
  · simp at h0
  · simp only [Value.slice.injEq, Option.some.injEq, Addr.mk.injEq, and_true] at hv
    exact hv.2.1
theorem OwnP.pr (h : OwnP w B (.slice (some ⟨g, 0, none⟩) n c) ps) {j : Nat} (hj : j < ps.length) : (w.cell? ⟨g, j * 2, none⟩ = some (.int .i64 (pAt ps j).1) ∧ w.cell? ⟨g, j * 2 + 1, none⟩ = some (.int .i64 (pAt ps j).2)) ∧
    w.frozen? ⟨g, j * 2, none⟩ = false ∧ w.frozen? ⟨g, j * 2 + 1, none⟩ = false := by
  obtain ⟨rfl, _, _⟩ := h.len
  have h1 := World.ownsRow.cellAt (by unfold OwnP at h; exact h) (j * 2) (by omega)
  have h2 := World.ownsRow.cellAt (by unfold OwnP at h; exact h) (j * 2 + 1) (by omega)
  obtain ⟨e1, e2⟩ := cellsP_get hj
  exact ⟨⟨h1.trans e1, h2.trans e2⟩, World.ownsRow.frozenAt (by unfold OwnP at h; exact h) _, World.ownsRow.frozenAt (by unfold OwnP at h; exact h) _⟩
theorem OwnP.put (h : OwnP w B (.slice (some ⟨g, 0, none⟩) n c) ps) {j : Nat} (hj : j < ps.length) (x y : Int) :
    ∃ Z, (w.setCell ⟨g, j * 2, none⟩ (.int .i64 x)).setCell ⟨g, j * 2 + 1, none⟩ (.int .i64 y) = Z ∧ OwnP Z B (.slice (some ⟨g, 0, none⟩) n c) (ps.set j (x, y)) ∧ Below B w Z ∧ Z.heap.size = w.heap.size := by
  obtain ⟨rfl, hB, _⟩ := h.len
  refine ⟨_, rfl, ?_, ((Below.refl _ _).setCell hB _).setCell hB _, by simp [World.setCell]⟩
  have h1 := (World.ownsRow.stored h (j * 2) (.int .i64 x)).1
  have h2 := (World.ownsRow.stored h1 (j * 2 + 1) (.int .i64 y)).1
  rw [cellsP_set hj] at h2
  unfold OwnP
  rw [List.length_set]
  exact h2
theorem OwnP.low (h : OwnP w B v ps) (hb : B' ≤ B) : OwnP w B' v ps := by
  obtain ⟨hl, h0 | ⟨g, cap, cur, hv, hB, hr⟩⟩ := h
  · exact ⟨hl, .inl h0⟩
  · exact ⟨hl, .inr ⟨g, cap, cur, hv, by omega, hr⟩⟩
/-- One fraction written out in the text. -/
theorem OwnP.one (w : World) (x y : Int) : OwnP (w.alloc (.cells #[.int .i64 x, .int .i64 y] 24)) w.heap.size (.slice (some ⟨w.heap.size, 0, none⟩) 1 1) [(x, y)] := by
  have h := World.ownsRow_lit (base := w.heap.size) (e := 24) (size := 2) w #[.int .i64 x, .int .i64 y] 1 (Nat.le_refl _) (by unfold maxLen; omega) (by simp)
  simpa [OwnP, cellsP] using h
end
end Go.Proofs.Ytgageljahebjnaa
