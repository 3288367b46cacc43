
/-
  Slices of fractions (two cells each): read, of the call's own, appended to.
-/
import Derived.Test.YtgageljahebjnaaQI
namespace Go.Proofs.Ytgageljahebjnaa
open Go.RowKit

def pAt (ps : List (Int × Int)) (j : Nat) : Int × Int := ps.getD j (0, 0)
/-- The value v is a slice of pairs of numbers. -/
def RdP (w : World) (v : Value) (ps : List (Int × Int)) : Prop :=
  ∃ A c, v = .slice A ps.length c ∧ ps.length ≤ c ∧ c ≤ 9223372036854775807 ∧ (0 < ps.length → ∃ g off, A = some ⟨g, off, none⟩ ∧ g < w.heap.size ∧
    ∀ j, j < ps.length → w.cell? ⟨g, off + j * 2, none⟩ = some (.int .i64 (pAt ps j).1) ∧ w.cell? ⟨g, off + j * 2 + 1, none⟩ = some (.int .i64 (pAt ps j).2))
/-- The same, made from block B on, not frozen. -/
def SlP (w : World) (B : Nat) (v : Value) (ps : List (Int × Int)) : Prop :=
  ∃ A c, v = .slice A ps.length c ∧ ps.length ≤ c ∧ c ≤ 9223372036854775807 ∧ (0 < ps.length → ∃ g off, A = some ⟨g, off, none⟩ ∧ B ≤ g ∧ g < w.heap.size ∧
    (∀ j, j < ps.length → w.cell? ⟨g, off + j * 2, none⟩ = some (.int .i64 (pAt ps j).1) ∧ w.cell? ⟨g, off + j * 2 + 1, none⟩ = some (.int .i64 (pAt ps j).2)) ∧
    ∀ j, j < ps.length → w.frozen? ⟨g, off + j * 2, none⟩ = false ∧ w.frozen? ⟨g, off + j * 2 + 1, none⟩ = false)
section
variable {w w' : World} {B B' : Nat} {v : Value} {ps : List (Int × Int)}
theorem SlP.rd (h : SlP w B v ps) : RdP w v ps := by
  obtain ⟨A, c, h1, h2, h3, h4⟩ := h
  refine ⟨A, c, h1, h2, h3, fun hn => ?_⟩
  obtain ⟨g, off, h5, _, h6, h7, _⟩ := h4 hn
  exact ⟨g, off, h5, h6, h7⟩
theorem SlP.low (h : SlP w B v ps) (hb : B' ≤ B) : SlP w B' v ps := by
  obtain ⟨A, c, h1, h2, h3, h4⟩ := h
  refine ⟨A, c, h1, h2, h3, fun hn => ?_⟩
  obtain ⟨g, off, h5, h6, h7⟩ := h4 hn
  exact ⟨g, off, h5, by omega, h7⟩
theorem SlP.lt (h : SlP w B v ps) (hn : 0 < ps.length) : ∀ g, v.ownBlock = some g → g < w.heap.size := by
  obtain ⟨A, c, rfl, h2, h3, h4⟩ := h
  obtain ⟨g, off, rfl, h6, h7, _⟩ := h4 hn
  intro g' hg'
  simp [Value.ownBlock] at hg'
  omega
theorem RdP.below (h : RdP w v ps) (hb : Below w.heap.size w w') : RdP w' v ps := by
  obtain ⟨A, c, h1, h2, h3, h4⟩ := h
  refine ⟨A, c, h1, h2, h3, fun hn => ?_⟩
  obtain ⟨g, off, h5, h6, h7⟩ := h4 hn
  exact ⟨g, off, h5, Nat.lt_of_lt_of_le h6 hb.size, fun j hj => ⟨(hb.cell (p := ⟨g, _, none⟩) h6).trans (h7 j hj).1, (hb.cell (p := ⟨g, _, none⟩) h6).trans (h7 j hj).2⟩⟩
theorem SlP.keep (h : SlP w B v ps) (hz : w.heap.size ≤ w'.heap.size) (hk : ∀ g, B ≤ g → g < w.heap.size → w'.heap[g]? = w.heap[g]?) : SlP w' B v ps := by
  obtain ⟨A, c, h1, h2, h3, h4⟩ := h
  refine ⟨A, c, h1, h2, h3, fun hn => ?_⟩
  obtain ⟨g, off, h5, h6, h7, h8, h9⟩ := h4 hn
  exact ⟨g, off, h5, h6, by omega, fun j hj => ⟨(World.cell?_of_block (hk g h6 h7)).trans (h8 j hj).1, (World.cell?_of_block (hk g h6 h7)).trans (h8 j hj).2⟩, fun j hj => ⟨(World.frozen?_of_block (hk g h6 h7)).trans (h9 j hj).1, (World.frozen?_of_block (hk g h6 h7)).trans (h9 j hj).2⟩⟩
theorem SlP.below (h : SlP w B v ps) (hb : Below w.heap.size w w') : SlP w' B v ps := h.keep hb.size fun g _ hg => hb.block g hg
theorem SlP.nil (w : World) (B : Nat) : SlP w B (.slice none 0 0) [] := ⟨none, 0, rfl, Nat.le_refl _, by omega, fun h => absurd h (by simp)⟩
end
def cellsP (ps : List (Int × Int)) : List Value := ps.flatMap fun p => [.int .i64 p.1, .int .i64 p.2]
theorem cellsP_nil : cellsP [] = [] := rfl
theorem cellsP_app (ps qs : List (Int × Int)) : cellsP (ps ++ qs) = cellsP ps ++ cellsP qs := by simp [cellsP]
theorem cellsP_len : ∀ ps : List (Int × Int), (cellsP ps).length = ps.length * 2
  | [] => rfl
  | p :: ps => by
    have := cellsP_len ps
    have e : cellsP (p :: ps) = [.int .i64 p.1, .int .i64 p.2] ++ cellsP ps := rfl
    rw [e, List.length_append, this]
    simp
    omega
theorem cellsP_get : ∀ {ps : List (Int × Int)} {j : Nat}, j < ps.length → (cellsP ps)[j * 2]? = some (.int .i64 (pAt ps j).1) ∧ (cellsP ps)[j * 2 + 1]? = some (.int .i64 (pAt ps j).2)
  | [], j, h => by simp at h
  | p :: ps, 0, _ => ⟨rfl, rfl⟩
  | p :: ps, j + 1, h => by
    have := cellsP_get (ps := ps) (j := j) (by simpa using h)
    have e : cellsP (p :: ps) = [.int .i64 p.1, .int .i64 p.2] ++ cellsP ps := rfl
    have e2 : pAt (p :: ps) (j + 1) = pAt ps j := rfl
    rw [e, e2, List.getElem?_append_right (by simp; omega), List.getElem?_append_right (by simp; omega)]
    have h1 : (j + 1) * 2 - [Value.int .i64 p.1, Value.int .i64 p.2].length = j * 2 := by simp; omega
    have h2 : (j + 1) * 2 + 1 - [Value.int .i64 p.1, Value.int .i64 p.2].length = j * 2 + 1 := by simp; omega
    rw [h1, h2]
    exact this
/-- A row of fractions of the call's own that is appended to. -/
def OwnP (w : World) (B : Nat) (v : Value) (ps : List (Int × Int)) : Prop := w.ownsRow B 24 2 v ps.length (cellsP ps)
section
variable {w w' : World} {B B' : Nat} {v : Value} {ps : List (Int × Int)}
theorem OwnP.sl (h : OwnP w B v ps) : SlP w B v ps := by
  obtain ⟨hl, h0 | ⟨g, cap, cur, hv, hb, hg, hn, hc, hs, ht⟩⟩ := id h
  · obtain ⟨rfl, hn⟩ := h0
    have : ps = [] := List.eq_nil_of_length_eq_zero hn
    subst this
    exact SlP.nil w B
  · refine ⟨some ⟨g, 0, none⟩, cap, hv, hn, by simpa [maxLen] using hc, fun hp => ⟨g, 0, rfl, hb, (Array.getElem?_eq_some_iff.1 hg).1, fun j hj => ?_, fun j hj => ?_⟩⟩
    · subst hv
      have h1 := World.ownsRow.cellAt (by unfold OwnP at h; exact h) (j * 2) (by omega)
      have h2 := World.ownsRow.cellAt (by unfold OwnP at h; exact h) (j * 2 + 1) (by omega)
      obtain ⟨e1, e2⟩ := cellsP_get hj
      rw [Nat.zero_add]
      exact ⟨h1.trans e1, h2.trans e2⟩
    · subst hv
      exact ⟨World.ownsRow.frozenAt (by unfold OwnP at h; exact h) _, World.ownsRow.frozenAt (by unfold OwnP at h; exact h) _⟩
theorem OwnP.nil (w : World) (B : Nat) : OwnP w B (.slice none 0 0) [] := World.ownsRow_nil _ _ _ _
theorem OwnP.below (h : OwnP w B v ps) (hb : Below w.heap.size w w') : OwnP w' B v ps :=
  World.ownsRow.kept h (row := none) ⟨hb.os, hb.tape, hb.output, hb.size, fun k hk _ => hb.block k hk⟩ (by cases hv : v.ownBlock <;> simp)
theorem OwnP.alloc (h : OwnP w B v ps) (o : Obj) : OwnP (w.alloc o) B v ps := World.ownsRow.alloc h o
theorem OwnP.keep (h : OwnP w B v ps) {row : Option Nat} (hg : w.grownBy w' row) (hne : v.ownBlock = none ∨ v.ownBlock ≠ row) : OwnP w' B v ps := World.ownsRow.kept h hg hne
theorem lit_ownP {G : Nat} (hG : G = w.heap.size) (hR : B ≤ G) : OwnP (w.alloc (.cells #[] 24)) B (.slice (some ⟨G, 0, none⟩) 0 0) [] := by
  subst hG
  have h := World.ownsRow_lit (base := w.heap.size) (e := 24) (size := 2) w (#[] : Array Value) 0 (Nat.le_refl _) (by unfold maxLen; omega) (by simp)
  obtain ⟨hl, h0 | ⟨g, cap, cur, hv, hB, hr⟩⟩ := id h
  · exact ⟨hl, .inl h0⟩
  · exact ⟨hl, .inr ⟨g, cap, cur, hv, by omega, hr⟩⟩
end
theorem fracs_info : Try.prog.underlying 39 = some (.slice 24) ∧ (Try.prog.info? 24).map (fun i => (i.zero, i.size, i.bytes)) = some (some (.agg #[.int .i64 0, .int .i64 0]), 2, 16) := ⟨Try.underlying39, by kernel_rfl⟩

/-- append(out, x) of a fraction that has just been laid in a block of its own. -/
theorem wpList_push_frac (w : World) {ops : Array Oper} {rest : List Oper} {o : Oper} {a : Act} {Q : Exit → Act → World → Prop} (hg : o.guard = none) (s x : Operand)
    (ho : o.op = .call { callee := .builtin .append, args := #[s, x], argTypes := #[39, 39] }) (B : Nat) (v : Value) (ps : List (Int × Int)) (p q : Int) (e' : TypeId) (c : Nat)
    (hs : a.eval s = v) (hx : a.eval x = .slice (some ⟨w.heap.size, 0, none⟩) 1 c) (hown : OwnP w B v ps) (hB : B ≤ w.heap.size) (hn : ps.length ≤ 1000000000)
    (hK : ∀ v' w', OwnP w' B v' (ps ++ [(p, q)]) → Below B w w' → w.grownBy w' v.ownBlock → (v'.ownBlock = v.ownBlock ∨ v'.ownBlock = some (w.heap.size + 1)) → w.heap.size < w'.heap.size →
      wpList Try.prog ops Q rest (a.put o.dst v') w') : wpList Try.prog ops Q (o :: rest) a (w.alloc (.cells #[.int .i64 p, .int .i64 q] e')) := by
  obtain ⟨i0, hi, hz0, hz1, hz2⟩ := info_parts fracs_info.2
  obtain ⟨v', w', hrun, h1, h2, h3, h4⟩ := run_append_own_at (P := Try.prog) (w.alloc (.cells #[.int .i64 p, .int .i64 q] e')) B 39 o.type 24 i0 (.agg #[.int .i64 0, .int .i64 0]) 2 16 fracs_info.1 hi hz0 hz1 hz2 rfl (by decide) v ps.length (cellsP ps) (World.ownsRow.alloc hown _)
    ⟨w.heap.size, 0, none⟩ 1 c [.int .i64 p, .int .i64 q] rfl (by
      intro j y hj
      have hadd : (⟨w.heap.size, 0, none⟩ : Addr).add j = ⟨w.heap.size, j, none⟩ := by
        unfold Addr.add; split
        · next h0 => subst h0; rfl
        · simp
      rw [hadd, cell_of_row _ w.heap.size j #[.int .i64 p, .int .i64 q] e' (0, 0) (heap_alloc_new w _)]
      simpa using hj) (by intro y hy; simp at hy; rcases hy with rfl | rfl <;> rfl)
    (by unfold maxLen; omega) (by omega) (Nat.le_trans hB (by rw [size_alloc']; exact Nat.le_succ _))
  have hg' : w.grownBy w' v.ownBlock := ⟨h2.os, h2.tape, h2.output, Nat.le_trans (by simp) h2.size, fun k hk hne => (h2.block k (Nat.lt_of_lt_of_le hk (by rw [size_alloc']; exact Nat.le_succ _)) hne).trans (Below.heap_alloc w _ k hk)⟩
  refine wpList_plain hg fun K hK' => ?_
  unfold Oper.wp execOp
  simp only [ho, resolve, invoke, builtin, Sem.run_bind, Sem.run_pure, Result.andThen_ok, List.map_toArray, List.map_cons, List.map_nil, hs, hx, hrun]
  refine hK' _ _ (hK v' w' ?_ ⟨hg'.os, hg'.tape, hg'.output, hg'.size, fun k hk => hg'.block k (by omega) (fun e => by have := World.ownsRow.lt hown k e.symm; omega)⟩ hg' (by simpa using h4) ?_)
  · unfold OwnP
    rw [List.length_append, List.length_singleton, cellsP_app]
    exact h1
  · have := h2.size
    simp at this
    omega

set_option maxHeartbeats 400000 in
theorem clipF_c (v : Value) (ps : List (Int × Int)) (w : World) (B : Nat) (h : SlP w B v ps) :
    Calls Try.prog 58 #[v] w fun e w' => w = w' ∧ ∃ v', e = .returned v' ∧ SlP w B v' ps := by
  obtain ⟨A, c, rfl, hc, hm, h4⟩ := h
  go_enter Try.func58, Try.ntmps58
  go_wp2
  go_ret
  exact ⟨rfl, _, rfl, A, ps.length, rfl, Nat.le_refl _, by omega, h4⟩
end Go.Proofs.Ytgageljahebjnaa
