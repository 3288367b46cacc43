
/-
  Pairs of cells that the call itself made.
-/
import Derived.Test.YtgageljahebjnaaFree
namespace Go.Proofs.Ytgageljahebjnaa
open Go.RowKit

/-- A store into a pair of cells that is there. -/
theorem set_pair {w : World} {B b : Nat} {x y u v : Value} (hB : B ≤ b) (q1 : w.cell? ⟨b, 0, none⟩ = some u) (q2 : w.cell? ⟨b, 1, none⟩ = some v) (f1 : w.frozen? ⟨b, 0, none⟩ = false) (f2 : w.frozen? ⟨b, 1, none⟩ = false) :
    ∃ Z, (w.setCell ⟨b, 0, none⟩ x).setCell ⟨b, 1, none⟩ y = Z ∧ Below B w Z ∧ (Z.cell? ⟨b, 0, none⟩ = some x ∧ Z.cell? ⟨b, 1, none⟩ = some y ∧ Z.frozen? ⟨b, 0, none⟩ = false ∧ Z.frozen? ⟨b, 1, none⟩ = false) ∧ Z.heap.size = w.heap.size ∧
      ∀ c o, c ≠ b → Z.cell? ⟨c, o, none⟩ = w.cell? ⟨c, o, none⟩ ∧ Z.frozen? ⟨c, o, none⟩ = w.frozen? ⟨c, o, none⟩ := by
  refine ⟨_, rfl, ((Below.refl _ _).setCell hB _).setCell hB _, ⟨?_, ?_, ?_, ?_⟩, by simp [World.setCell], fun c o hc => ⟨?_, ?_⟩⟩
  · rw [World.cell?_setCell_other _ _ _ _ (by simp)]
    exact World.cell?_setCell_same _ _ _ q1
  · exact World.cell?_setCell_same _ _ _ (by rw [World.cell?_setCell_other _ _ _ _ (by simp)]; exact q2)
  · rw [World.frozen?_setCell, World.frozen?_setCell]; exact f1
  · rw [World.frozen?_setCell, World.frozen?_setCell]; exact f2
  · rw [World.cell?_setCell_other _ _ _ _ (by simp [Ne.symm hc]), World.cell?_setCell_other _ _ _ _ (by simp [Ne.symm hc])]
  · rw [World.frozen?_setCell, World.frozen?_setCell]
/-- A pair of cells that holds two numbers, not frozen. -/
def Pr (w : World) (b : Nat) (x y : Int) : Prop := (w.cell? ⟨b, 0, none⟩ = some (.int .i64 x) ∧ w.cell? ⟨b, 1, none⟩ = some (.int .i64 y)) ∧ w.frozen? ⟨b, 0, none⟩ = false ∧ w.frozen? ⟨b, 1, none⟩ = false
theorem Pr.keep {w w' : World} {B b : Nat} {x y : Int} (h : Pr w b x y) (hb : Below B w w') (hB : b < B) : Pr w' b x y :=
  ⟨⟨(hb.cell (p := ⟨b, 0, none⟩) hB).trans h.1.1, (hb.cell (p := ⟨b, 1, none⟩) hB).trans h.1.2⟩, (hb.frozen (p := ⟨b, 0, none⟩) hB).trans h.2.1, (hb.frozen (p := ⟨b, 1, none⟩) hB).trans h.2.2⟩
theorem Pr.other {w Z : World} {b c : Nat} {x y : Int} (h : Pr w c x y) (hz : ∀ c o, c ≠ b → Z.cell? ⟨c, o, none⟩ = w.cell? ⟨c, o, none⟩ ∧ Z.frozen? ⟨c, o, none⟩ = w.frozen? ⟨c, o, none⟩) (hc : c ≠ b) : Pr Z c x y :=
  ⟨⟨(hz c 0 hc).1.trans h.1.1, (hz c 1 hc).1.trans h.1.2⟩, (hz c 0 hc).2.trans h.2.1, (hz c 1 hc).2.trans h.2.2⟩
/-- A new pair. -/
theorem new1 (w : World) (T : TypeId) (x y : Int) : ∃ W, w.alloc (.cells #[.int .i64 x, .int .i64 y] T) = W ∧ Below w.heap.size w W ∧ W.heap.size = w.heap.size + 1 ∧ Pr W w.heap.size x y := by
  refine ⟨_, rfl, by (repeat (first | exact Below.refl _ _ | assumption | refine Below.setCell ?_ (by first | (simp; done) | omega | (simp; omega) | (simp at *; omega)) _ | refine Below.drew ?_ | refine below_drewN ?_ _ | refine below_alloc' ?_ _ | refine below_to' ?_ (by assumption))), by simp, ⟨?_, ?_⟩, ?_, ?_⟩ <;> simp [go_sem]
theorem Pr.below {w w' : World} {b : Nat} {x y : Int} (h : Pr w b x y) (hb : Below w.heap.size w w') (hB : b < w.heap.size) : Pr w' b x y := h.keep hb hB
/-- A store into a pair. -/
theorem Pr.put {w : World} {b : Nat} {x y : Int} (h : Pr w b x y) (u v : Int) : ∃ Z, (w.setCell ⟨b, 0, none⟩ (.int .i64 u)).setCell ⟨b, 1, none⟩ (.int .i64 v) = Z ∧ Below b w Z ∧ Pr Z b u v ∧ Z.heap.size = w.heap.size ∧
    ∀ c o, c ≠ b → Z.cell? ⟨c, o, none⟩ = w.cell? ⟨c, o, none⟩ ∧ Z.frozen? ⟨c, o, none⟩ = w.frozen? ⟨c, o, none⟩ := by
  obtain ⟨⟨a1, a2⟩, a3, a4⟩ := h
  obtain ⟨Z, h1, h2, ⟨h3, h4, h5, h6⟩, h7, h8⟩ := set_pair (x := .int .i64 u) (y := .int .i64 v) (Nat.le_refl b) a1 a2 a3 a4
  exact ⟨Z, h1, h2, ⟨⟨h3, h4⟩, h5, h6⟩, h7, h8⟩
/-- The store into a new pair. -/
theorem Pr.new {w w3 : World} {nb : Nat} {T : TypeId} (hb3 : Below w.heap.size w w3) (hnb : w.heap.size ≤ nb) (hob : w3.heap[nb]? = some (.cells #[.int .i64 0, .int .i64 0] T)) (x y : Int) :
    Pr w3 nb 0 0 ∧ ∃ Z, (w3.setCell ⟨nb, 0, none⟩ (.int .i64 x)).setCell ⟨nb, 1, none⟩ (.int .i64 y) = Z ∧ Below w.heap.size w Z ∧ Pr Z nb x y ∧ nb < Z.heap.size := by
  have q1 : w3.cell? ⟨nb, 0, none⟩ = some (.int .i64 0) := by simp [World.cell?, hob]
  have q2 : w3.cell? ⟨nb, 1, none⟩ = some (.int .i64 0) := by simp [World.cell?, hob]
  have hp : Pr w3 nb 0 0 := ⟨⟨q1, q2⟩, by simp [World.frozen?, hob], by simp [World.frozen?, hob]⟩
  obtain ⟨Z, h1, h2, h3, h4, _⟩ := hp.put x y
  have h5 := (Array.getElem?_eq_some_iff.1 hob).1
  exact ⟨hp, Z, h1, hb3.trans (h2.mono hnb), h3, by omega⟩
end Go.Proofs.Ytgageljahebjnaa
