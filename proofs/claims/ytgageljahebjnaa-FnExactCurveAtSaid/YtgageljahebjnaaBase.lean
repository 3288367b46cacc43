
/-
  Words for memory, whatever the program: a slice of whole numbers that can be read ('Rd'), one that the call itself made ('Own', 'Sl'), and the small laws by which they are carried from world to world.
-/
import Derived.WalkKit
import Derived.WalkSpells
import Derived.WalkLawsBesides
import Derived.Laws.OwnMore
import Derived.Deep.AppendLies
import Derived.Deep.Draws
import Derived.Maps.AppendAt
import Derived.Deep.QuietTactic
import Derived.BigQuiet
namespace Go.Proofs.Ytgageljahebjnaa
open Go.RowKit

theorem ret_bool {a b : Bool} (h : a = b) : Ending.returned (.bool a) = .returned (.bool b) := by rw [h]
theorem ret_int {k : IntKind} {a b : Int} (h : a = b) : Ending.returned (.int k a) = .returned (.int k b) := by rw [h]
theorem hide {p : Prop} (h : p) : Hid p := h

/-- The value v is a slice that reads as the numbers xs. -/
def Rd (w : World) (v : Value) (xs : List Int) : Prop :=
  ∃ A c, v = .slice A xs.length c ∧ xs.length ≤ c ∧ c ≤ 9223372036854775807 ∧ (0 < xs.length → ∃ g off, A = some ⟨g, off, none⟩ ∧ g < w.heap.size ∧
    ∀ j, j < xs.length → w.cell? ⟨g, off + j, none⟩ = some (.int .i64 (xs.getD j 0)))

/-- A slice that reads as the numbers xs, whose cells lie in a block from B on and are not frozen. -/
def Sl (w : World) (B : Nat) (v : Value) (xs : List Int) : Prop :=
  ∃ A c, v = .slice A xs.length c ∧ xs.length ≤ c ∧ c ≤ 9223372036854775807 ∧ (0 < xs.length → ∃ g off, A = some ⟨g, off, none⟩ ∧ B ≤ g ∧ g < w.heap.size ∧
    (∀ j, j < xs.length → w.cell? ⟨g, off + j, none⟩ = some (.int .i64 (xs.getD j 0))) ∧ ∀ j, j < xs.length → w.frozen? ⟨g, off + j, none⟩ = false)

/-- A row of the call's own that is appended to. -/
def Own (w : World) (B : Nat) (e : TypeId) (v : Value) (xs : List Int) : Prop := w.ownsRow B e 1 v xs.length (xs.map (Value.int .i64))

section
variable {w w' : World} {B B' : Nat} {v : Value} {xs : List Int}

theorem Sl.rd (h : Sl w B v xs) : Rd w v xs := by
  obtain ⟨A, c, h1, h2, h3, h4⟩ := h
  refine ⟨A, c, h1, h2, h3, fun hn => ?_⟩
  obtain ⟨g, off, h5, _, h6, h7, _⟩ := h4 hn
  exact ⟨g, off, h5, h6, h7⟩
theorem Sl.lt (h : Sl w B v xs) (hn : 0 < xs.length) : ∀ g, v.ownBlock = some g → g < w.heap.size := by
  obtain ⟨A, c, rfl, h2, h3, h4⟩ := h
  obtain ⟨g, off, rfl, h6, h7, _⟩ := h4 hn
  intro g' hg'
  simp [Value.ownBlock] at hg'
  omega
theorem Sl.low (h : Sl w B v xs) (hb : B' ≤ B) : Sl w B' v xs := by
  obtain ⟨A, c, h1, h2, h3, h4⟩ := h
  refine ⟨A, c, h1, h2, h3, fun hn => ?_⟩
  obtain ⟨g, off, h5, h6, h7⟩ := h4 hn
  exact ⟨g, off, h5, by omega, h7⟩
theorem Rd.keep (h : Rd w v xs) (hz : w.heap.size ≤ w'.heap.size) (hk : ∀ p : Addr, p.block < w.heap.size → w'.cell? p = w.cell? p) : Rd w' v xs := by
  obtain ⟨A, c, h1, h2, h3, h4⟩ := h
  refine ⟨A, c, h1, h2, h3, fun hn => ?_⟩
  obtain ⟨g, off, h5, h6, h7⟩ := h4 hn
  exact ⟨g, off, h5, by omega, fun j hj => (hk _ h6).trans (h7 j hj)⟩
theorem Rd.below (h : Rd w v xs) (hb : Below w.heap.size w w') : Rd w' v xs := h.keep hb.size fun _ hp => hb.cell hp
theorem Rd.alloc (h : Rd w v xs) (o : Obj) : Rd (w.alloc o) v xs := h.below ((Below.refl _ _).alloc (Nat.le_refl _) o)
theorem Rd.drew (h : Rd w v xs) : Rd w.drew v xs := h
theorem Rd.drewN (h : Rd w v xs) (n : Nat) : Rd (w.drewN n) v xs := h
theorem Sl.keep (h : Sl w B v xs) (hz : w.heap.size ≤ w'.heap.size) (hk : ∀ g, B ≤ g → g < w.heap.size → w'.heap[g]? = w.heap[g]?) : Sl w' B v xs := by
  obtain ⟨A, c, h1, h2, h3, h4⟩ := h
  refine ⟨A, c, h1, h2, h3, fun hn => ?_⟩
  obtain ⟨g, off, h5, h6, h7, h8, h9⟩ := h4 hn
  exact ⟨g, off, h5, h6, by omega, fun j hj => (World.cell?_of_block (hk g h6 h7)).trans (h8 j hj), fun j hj => (World.frozen?_of_block (hk g h6 h7)).trans (h9 j hj)⟩
theorem Sl.below (h : Sl w B v xs) (hb : Below w.heap.size w w') : Sl w' B v xs := h.keep hb.size fun g _ hg => hb.block g hg
theorem Sl.alloc (h : Sl w B v xs) (o : Obj) : Sl (w.alloc o) B v xs := h.below ((Below.refl _ _).alloc (Nat.le_refl _) o)
theorem Sl.drew (h : Sl w B v xs) : Sl w.drew B v xs := h
theorem Sl.drewN (h : Sl w B v xs) (n : Nat) : Sl (w.drewN n) B v xs := h
theorem below_drewN {a : World} (h : Below B a w) (n : Nat) : Below B a (w.drewN n) := ⟨h.os, h.tape, h.output, h.size, h.block⟩
theorem bcell {W w1 : World} (hb : Below W.heap.size W w1) : (∀ b o, b < W.heap.size → w1.cell? ⟨b, o, none⟩ = W.cell? ⟨b, o, none⟩) ∧ (∀ b o, b < W.heap.size → w1.frozen? ⟨b, o, none⟩ = W.frozen? ⟨b, o, none⟩) :=
  ⟨fun b o h => hb.cell (p := ⟨b, o, none⟩) h, fun b o h => hb.frozen (p := ⟨b, o, none⟩) h⟩
theorem below_to {a : World} (h : Below B a w) (hb : Below w.heap.size w w') (hB : B ≤ w.heap.size) : Below B a w' := h.trans (hb.mono hB)
theorem below_alloc' {a : World} (h : Below a.heap.size a w) (o : Obj) : Below a.heap.size a (w.alloc o) := h.alloc h.size o
theorem below_to' {a : World} (h : Below a.heap.size a w) (hb : Below w.heap.size w w') : Below a.heap.size a w' := h.trans (hb.mono h.size)
theorem Sl.nil (w : World) (B : Nat) : Sl w B (.slice none 0 0) [] := ⟨none, 0, rfl, Nat.le_refl _, by omega, fun h => absurd h (by simp)⟩
theorem Rd.nil (w : World) : Rd w (.slice none 0 0) [] := (Sl.nil w 0).rd
theorem Own.sl {e : TypeId} (h : Own w B e v xs) : Sl w B v xs := by
  obtain ⟨hl, h0 | ⟨g, cap, cur, hv, hb, hg, hn, hc, hs, ht⟩⟩ := id h
  · obtain ⟨rfl, hn⟩ := h0
    have : xs = [] := List.eq_nil_of_length_eq_zero hn
    subst this
    exact Sl.nil w B
  · refine ⟨some ⟨g, 0, none⟩, cap, hv, hn, by simpa [maxLen] using hc, fun hp => ⟨g, 0, rfl, hb, ?_, ?_, ?_⟩⟩
    · exact (Array.getElem?_eq_some_iff.1 hg).1
    · intro j hj
      subst hv
      have hca := World.ownsRow.cellAt (by unfold Own at h; exact h) j (by omega)
      rw [Nat.zero_add, hca, List.getElem?_map, List.getElem?_eq_getElem hj]
      simp [List.getD, hj]
    · intro j _
      subst hv
      exact World.ownsRow.frozenAt (by unfold Own at h; exact h) (0 + j)
theorem Own.nil (w : World) (B : Nat) (e : TypeId) : Own w B e (.slice none 0 0) [] := World.ownsRow_nil _ _ _ _
end

/-- t is the type of slices of int, e that of int. -/
structure IntsOf (P : Program) (t e : TypeId) : Prop where
  slice : P.underlying t = some (.slice e)
  info : (P.info? e).map (fun i => (i.zero, i.size, i.bytes)) = some (some (.int .i64 0), 1, 8)

section
variable {P : Program} {w w' : World} {B B' : Nat} {e t : TypeId} {v : Value} {xs : List Int} {g n cap : Nat}

theorem Own.low (h : Own w B e v xs) (hb : B' ≤ B) : Own w B' e v xs := by
  obtain ⟨hl, h0 | ⟨g, cap, cur, hv, hB, hr⟩⟩ := h
  · exact ⟨hl, .inl h0⟩
  · exact ⟨hl, .inr ⟨g, cap, cur, hv, by omega, hr⟩⟩
theorem Own.cell (h : Own w B e (.slice (some ⟨g, 0, none⟩) n cap) xs) {j : Nat} (hj : j < xs.length) : w.cell? ⟨g, j, none⟩ = some (.int .i64 (xs.getD j 0)) := by
  obtain ⟨hl, h0 | ⟨g', cap', cur, hv, hr⟩⟩ := id h
  · simp at h0
  · have hv' := hv
    simp only [Value.slice.injEq, Option.some.injEq, Addr.mk.injEq, and_true] at hv'
    obtain ⟨_, hn, _⟩ := hv'
    subst hn
    rw [World.ownsRow.cellAt h j (by omega), List.getElem?_map, List.getElem?_eq_getElem hj]
    simp [List.getD, hj]
theorem Own.frozen (h : Own w B e (.slice (some ⟨g, 0, none⟩) n cap) xs) (j : Nat) : w.frozen? ⟨g, j, none⟩ = false := by
  obtain ⟨hl, h0 | ⟨g', cap', cur, hv, hr⟩⟩ := id h
  · simp at h0
  · have hv' := hv
    simp only [Value.slice.injEq, Option.some.injEq, Addr.mk.injEq, and_true] at hv'
    obtain ⟨_, hn, _⟩ := hv'
    subst hn
    exact World.ownsRow.frozenAt h j
theorem Own.set (h : Own w B e (.slice (some ⟨g, 0, none⟩) n cap) xs) (j : Nat) (u : Int) :
    Own (w.setCell ⟨g, j, none⟩ (.int .i64 u)) B e (.slice (some ⟨g, 0, none⟩) n cap) (xs.set j u) := by
  obtain ⟨hl, h0 | ⟨g', cap', cur, hv, hr⟩⟩ := id h
  · simp at h0
  · have hv' := hv
    simp only [Value.slice.injEq, Option.some.injEq, Addr.mk.injEq, and_true] at hv'
    obtain ⟨_, hn, _⟩ := hv'
    subst hn
    unfold Own
    rw [List.length_set, List.map_set]
    exact (World.ownsRow.stored h j _).1
theorem Own.lt (h : Own w B e (.slice (some ⟨g, 0, none⟩) n cap) xs) : B ≤ g ∧ g < w.heap.size := World.ownsRow.lt h g rfl
theorem Own.keep (h : Own w B e v xs) {row : Option Nat} (hg : w.grownBy w' row) (hne : v.ownBlock = none ∨ v.ownBlock ≠ row) : Own w' B e v xs := World.ownsRow.kept h hg hne
theorem Own.below (h : Own w B e v xs) (hb : Below w.heap.size w w') : Own w' B e v xs :=
  World.ownsRow.kept h (row := none) ⟨hb.os, hb.tape, hb.output, hb.size, fun k hk _ => hb.block k hk⟩ (by cases hv : v.ownBlock <;> simp)
theorem Own.alloc (h : Own w B e v xs) (o : Obj) : Own (w.alloc o) B e v xs := World.ownsRow.alloc h o
theorem Own.drew (h : Own w B e v xs) : Own w.drew B e v xs := h
theorem Own.drewN (h : Own w B e v xs) (n : Nat) : Own (w.drewN n) B e v xs := h
theorem Own.setOther (h : Own w B e v xs) {p : Addr} (hp : v.ownBlock ≠ some p.block) (u : Value) : Own (w.setCell p u) B e v xs :=
  World.ownsRow.kept h (row := some p.block) ⟨rfl, rfl, rfl, by simp [World.setCell], fun k _ hk => Below.heap_setCell _ _ _ _ (fun e => hk (by rw [e]))⟩ (.inr hp)

/-- make([]int, n) -/
theorem wpList_make_ints (w : World) {ops : Array Oper} {rest : List Oper} {o : Oper} {a : Act} {Q : Exit → Act → World → Prop}
    (hg : o.guard = none) (l c : Operand) (hop : o.op = Op.makeSlice t l c) (E : IntsOf P t e) (n : Nat)
    (hl : a.eval l = .int .i64 n) (hc : a.eval c = .int .i64 n) (hn : n ≤ 35184372088832)
    (hK : ∀ w', Own w' w.heap.size e (.slice (some ⟨w.heap.size, 0, none⟩) n n) (List.replicate n 0) → Below w.heap.size w w' → w.heap.size < w'.heap.size →
      wpList P ops Q rest (a.put o.dst (.slice (some ⟨w.heap.size, 0, none⟩) n n)) w') : wpList P ops Q (o :: rest) a w := by
  obtain ⟨i0, hi, hz0, hz1, hz2⟩ := info_parts E.info
  refine wpList_make_full w hg l c t hop w.heap.size e i0 (.int .i64 0) 1 E.slice hi hz0 hz1 .i64 .i64 n n n hl hc rfl rfl (by rw [hz2]; omega) (by unfold maxLen; omega) (Nat.le_refl _) ?_
  intro w' h1 h2
  refine hK w' ?_ ⟨h2.os, h2.tape, h2.output, h2.size, fun k hk => h2.block k hk (by simp)⟩ (World.ownsRow.lt h1 _ rfl).2
  unfold Own
  have hm : (madeCells (Value.int .i64 0).cells (n * 1)).toList = (List.replicate n (0 : Int)).map (Value.int .i64) := by
    rw [Nat.mul_one, List.map_replicate]
    exact toList_madeCells_one _ n
  rw [hm] at h1
  rw [List.length_replicate]
  exact h1

theorem size_alloc' (w : World) (o : Obj) : (w.alloc o).heap.size = w.heap.size + 1 := by simp

/-- append(out, xs...): the new numbers have just been laid in a block of their own. -/
theorem wpList_push_ints (w : World) {ops : Array Oper} {rest : List Oper} {o : Oper} {a : Act} {Q : Exit → Act → World → Prop} (hg : o.guard = none) (s x : Operand)
    (ho : o.op = .call { callee := .builtin .append, args := #[s, x], argTypes := #[t, t] }) (E : IntsOf P t e) (B : Nat) (v : Value) (xs us : List Int) (cs : Array Value) (e' : TypeId) (m c : Nat)
    (hs : a.eval s = v) (hx : a.eval x = .slice (some ⟨w.heap.size, 0, none⟩) m c) (hown : Own w B e v xs) (hB : B ≤ w.heap.size) (hn : xs.length ≤ 1000000000) (hcs : cs = (us.map (Value.int .i64)).toArray) (hm : m = us.length) (hm1 : us.length ≤ 1000000000) (hm0 : 0 < us.length)
    (hK : ∀ v' w', Own w' B e v' (xs ++ us) → Below B w w' → w.grownBy w' v.ownBlock → (v'.ownBlock = v.ownBlock ∨ v'.ownBlock = some (w.heap.size + 1)) → (∃ k, v'.ownBlock = some k) → w.heap.size < w'.heap.size →
      wpList P ops Q rest (a.put o.dst v') w') : wpList P ops Q (o :: rest) a (w.alloc (.cells cs e')) := by
  subst hm
  obtain ⟨i0, hi, hz0, hz1, hz2⟩ := info_parts E.info
  obtain ⟨v', w', hrun, h1, h2, h3, h4⟩ := run_append_own_at (P := P) (w.alloc (.cells cs e')) B t o.type e i0 (.int .i64 0) 1 8 E.slice hi hz0 hz1 hz2 rfl (by decide) v xs.length (xs.map (Value.int .i64)) (hown.alloc _)
    ⟨w.heap.size, 0, none⟩ us.length c (us.map (Value.int .i64)) (by simp) (by
      intro j y hj
      have hadd : (⟨w.heap.size, 0, none⟩ : Addr).add j = ⟨w.heap.size, j, none⟩ := by
        unfold Addr.add; split
        · next h0 => subst h0; rfl
        · simp
      rw [hadd, cell_of_row _ w.heap.size j cs e' (0, 0) (heap_alloc_new w _), hcs]
      simpa using hj) (by intro y hy; obtain ⟨z, _, rfl⟩ := List.mem_map.1 hy; rfl)
    (by unfold maxLen; omega) (by omega) (Nat.le_trans hB (by rw [size_alloc']; exact Nat.le_succ _))
  have hg' : w.grownBy w' v.ownBlock := ⟨h2.os, h2.tape, h2.output, Nat.le_trans (by simp) h2.size, fun k hk hne => (h2.block k (Nat.lt_of_lt_of_le hk (by rw [size_alloc']; exact Nat.le_succ _)) hne).trans (Below.heap_alloc w _ k hk)⟩
  refine wpList_plain hg fun K hK' => ?_
  unfold Oper.wp execOp
  simp only [ho, resolve, invoke, builtin, Sem.run_bind, Sem.run_pure, Result.andThen_ok, List.map_toArray, List.map_cons, List.map_nil, hs, hx, hrun]
  refine hK' _ _ (hK v' w' ?_ ⟨hg'.os, hg'.tape, hg'.output, hg'.size, fun k hk => hg'.block k (by omega) (fun e => by have := World.ownsRow.lt hown k e.symm; omega)⟩ hg' (by simpa using h4) ?_ ?_)
  · unfold Own
    rw [List.length_append, List.map_append]
    exact h1
  · rcases h1.2 with ⟨_, h0⟩ | ⟨g, cap, cur, hv, _⟩
    · omega
    · exact ⟨g, by rw [hv]; rfl⟩
  · have := h2.size
    simp at this
    omega
theorem wpList_push_int (w : World) {ops : Array Oper} {rest : List Oper} {o : Oper} {a : Act} {Q : Exit → Act → World → Prop} (hg : o.guard = none) (s x : Operand)
    (ho : o.op = .call { callee := .builtin .append, args := #[s, x], argTypes := #[t, t] }) (E : IntsOf P t e) (B : Nat) (v : Value) (xs : List Int) (u : Int) (e' : TypeId) (c : Nat)
    (hs : a.eval s = v) (hx : a.eval x = .slice (some ⟨w.heap.size, 0, none⟩) 1 c) (hown : Own w B e v xs) (hB : B ≤ w.heap.size) (hn : xs.length ≤ 1000000000)
    (hK : ∀ v' w', Own w' B e v' (xs ++ [u]) → Below B w w' → w.grownBy w' v.ownBlock → (v'.ownBlock = v.ownBlock ∨ v'.ownBlock = some (w.heap.size + 1)) → (∃ k, v'.ownBlock = some k) → w.heap.size < w'.heap.size →
      wpList P ops Q rest (a.put o.dst v') w') : wpList P ops Q (o :: rest) a (w.alloc (.cells #[.int .i64 u] e')) :=
  wpList_push_ints w hg s x ho E B v xs [u] _ e' 1 c hs hx hown hB hn rfl rfl (by simp) (by simp) hK

/-- A slice of numbers written out in the text. -/
theorem Own.lit (w : World) (e : TypeId) (xs : List Int) (hn : xs.length ≤ 9223372036854775807) :
    Own (w.alloc (.cells (xs.map (Value.int .i64)).toArray e)) w.heap.size e (.slice (some ⟨w.heap.size, 0, none⟩) xs.length xs.length) xs := by
  have h := World.ownsRow_lit (base := w.heap.size) (e := e) (size := 1) w (xs.map (Value.int .i64)).toArray xs.length (Nat.le_refl _) (by unfold maxLen; omega) (by simp)
  simpa [Own] using h
end

theorem getD_lt {xs : List Int} {k : Nat} (hk : k < xs.length) : xs.getD k 0 = xs[k] := by simp [List.getD, hk]

/-- From block number T on nothing has turned. -/
def Above (T : Nat) (w w' : World) : Prop := w'.heap.size = w.heap.size ∧ ∀ g, T ≤ g → w'.heap[g]? = w.heap[g]?
theorem Above.refl (T : Nat) (w : World) : Above T w w := ⟨rfl, fun _ _ => rfl⟩
theorem Above.set {T : Nat} {a w : World} (h : Above T a w) {p : Addr} (hp : p.block < T) (u : Value) : Above T a (w.setCell p u) :=
  ⟨by rw [← h.1]; simp [World.setCell], fun g hg => (Below.heap_setCell w p u g (by omega)).trans (h.2 g hg)⟩
theorem Sl.above {T : Nat} {w w' : World} {B : Nat} {v : Value} {xs : List Int} (h : Sl w B v xs) (ha : Above T w w') (hT : T ≤ B) : Sl w' B v xs :=
  h.keep (by rw [ha.1]; exact Nat.le_refl _) fun g hg _ => ha.2 g (by omega)
/-- What is written over a slice by the marks k, k + 1, .. -/
def marks (k : Int) (n : Nat) : List Int := (List.range n).map fun (i : Nat) => k + (i : Int)
theorem marks_len (k : Int) (n : Nat) : (marks k n).length = n := by simp [marks]
theorem marks_get (k : Int) (n j : Nat) (h : j < n) : (marks k n)[j]'(by rw [marks_len]; exact h) = k + j := by simp [marks]

/-- The numbers from index i up to k. -/
def seg (xs : List Int) (i k : Nat) : List Int := (xs.drop i).take (k - i)
theorem seg_len {xs : List Int} {i k : Nat} (h : k ≤ xs.length) : (seg xs i k).length = k - i := by simp [seg]; omega
theorem seg_succ {xs : List Int} {i k : Nat} (hi : i ≤ k) (h : k < xs.length) : seg xs i (k + 1) = seg xs i k ++ [xs[k]] := by
  unfold seg
  rw [show k + 1 - i = (k - i) + 1 from by omega, List.take_succ_eq_append_getElem (by simp; omega)]
  congr 2
  simp [show i + (k - i) = k from by omega]
theorem seg_self (xs : List Int) (i : Nat) : seg xs i i = [] := by simp [seg]
theorem seg_all (xs : List Int) : seg xs 0 xs.length = xs := by simp [seg]
/-- A cut of a slice that can be read, in the model's own spelling. -/
theorem Rd.cut {w : World} {A : Option Addr} {n c i k : Nat} {xs : List Int} (h : Rd w (.slice A n c) xs) (hi : i ≤ k) (hk : k ≤ n) :
    Rd w (.slice (if c = i then A else A.map (·.add i)) (k - i) (c - i)) (seg xs i k) := by
  obtain ⟨A', c', hv, hc, hm, hcell⟩ := h
  simp only [Value.slice.injEq] at hv
  obtain ⟨rfl, rfl, rfl⟩ := hv
  have hl : (seg xs i k).length = k - i := seg_len hk
  refine ⟨_, c - i, by rw [hl], by rw [hl]; omega, by omega, fun hp => ?_⟩
  rw [hl] at hp ⊢
  obtain ⟨g, off, rfl, hg, hcl⟩ := hcell (by omega)
  rw [if_neg (by omega)]
  refine ⟨g, off + i, ?_, hg, fun j hj => ?_⟩
  · simp only [Option.map_some, Addr.add]
    split
    · next h0 => subst h0; rfl
    · rfl
  · rw [Nat.add_assoc, hcl (i + j) (by omega)]
    simp [seg, List.getD, List.getElem?_take, hj]
theorem Rd.seg {w : World} {A : Option Addr} {n c i k : Nat} {xs : List Int} (h : Rd w (.slice A n c) xs) (hi : i < k) (hk : k ≤ n) :
    Rd w (.slice (Option.map (fun x => x.add i) A) (k - i) (c - i)) (seg xs i k) := by
  have h1 := h.cut (Nat.le_of_lt hi) hk
  obtain ⟨A', c', hv, hc, _⟩ := h
  simp only [Value.slice.injEq] at hv
  obtain ⟨rfl, rfl, rfl⟩ := hv
  rwa [if_neg (by omega)] at h1

/-- What the row's reader tells of a slice that came in, as 'Rd'. -/
theorem rd_of_row {w : World} {a : Option Addr} {len cap : Nat} {zs : List Int} (h : (a = none ∧ len = 0 ∧ cap = 0 ∧ zs = []) ∨
    ∃ x, a = some x ∧ len ≤ cap ∧ cap ≤ maxLen ∧ zs.length = cap ∧ (∀ i, i < zs.length → w.cell? (x.add i) = some (.int .i64 (zs.getD i 0))) ∧ ∀ n ∈ zs, (Lit.int .i64 n).wf = true) :
    Rd w (.slice a len cap) (zs.take len) := by
  rcases h with ⟨rfl, rfl, rfl, rfl⟩ | ⟨x, rfl, hl, hm, hz, hcell, _⟩
  · exact Rd.nil w
  · have hlen : (zs.take len).length = len := by simp; omega
    refine ⟨some x, cap, by rw [hlen], by rw [hlen]; exact hl, by simpa [maxLen] using hm, fun hp => ?_⟩
    rw [hlen] at hp ⊢
    obtain ⟨b, off, spot⟩ := x
    have hc := hcell 0 (by omega)
    have hspot : spot = none := by simpa [Addr.add] using World.cell?_spot hc
    subst hspot
    have hb : b < w.heap.size := by
      have := World.block_lt_of_cell? w _ hc
      simpa [Addr.add] using this
    refine ⟨b, off, rfl, hb, fun j hj => ?_⟩
    have h1 := hcell j (by omega)
    have hadd : (⟨b, off, none⟩ : Addr).add j = ⟨b, off + j, none⟩ := by
      unfold Addr.add; split
      · next h0 => subst h0; rfl
      · rfl
    rw [hadd] at h1
    rw [h1]
    simp [List.getD, List.getElem?_take, hj]
/-- A list written out in the text, in the walk's own spelling. -/
theorem lit_sl {w : World} {R G n : Nat} {cs : Array Value} {e : TypeId} (xs : List Int) (hcs : cs = (xs.map (Value.int .i64)).toArray) (hG : G = w.heap.size) (hn : n = xs.length) (hl : xs.length ≤ 1000) (hR : R ≤ G) :
    Sl (w.alloc (.cells cs e)) R (.slice (some ⟨G, 0, none⟩) n n) xs := by
  subst hcs hG hn
  exact ((Own.lit w e xs (by omega)).sl).low hR
theorem lit_own {w : World} {R G n : Nat} {cs : Array Value} {e : TypeId} (xs : List Int) (hcs : cs = (xs.map (Value.int .i64)).toArray) (hG : G = w.heap.size) (hn : n = xs.length) (hl : xs.length ≤ 1000) (hR : R ≤ G) :
    Own (w.alloc (.cells cs e)) R e (.slice (some ⟨G, 0, none⟩) n n) xs := by
  subst hcs hG hn
  exact (Own.lit w e xs (by omega)).low hR

/-- A row of one-cell values of the call's own that is appended to. -/
def OwnV (w : World) (B : Nat) (e : TypeId) (v : Value) (vs : List Value) : Prop := w.ownsRow B e 1 v vs.length vs
/-- t is the type of slices of the one-cell type e. -/
structure ValsOf (P : Program) (t e : TypeId) (z : Value) (b : Nat) : Prop where
  slice : P.underlying t = some (.slice e)
  info : (P.info? e).map (fun i => (i.zero, i.size, i.bytes)) = some (some z, 1, b)
  one : z.cells.size = 1
section
variable {w w' : World} {B B' e : Nat} {v : Value} {vs : List Value}
theorem OwnV.nil (w : World) (B : Nat) (e : TypeId) : OwnV w B e (.slice none 0 0) [] := World.ownsRow_nil _ _ _ _
theorem OwnV.below (h : OwnV w B e v vs) (hb : Below w.heap.size w w') : OwnV w' B e v vs :=
  World.ownsRow.kept h (row := none) ⟨hb.os, hb.tape, hb.output, hb.size, fun k hk _ => hb.block k hk⟩ (by cases hv : v.ownBlock <;> simp)
theorem OwnV.alloc (h : OwnV w B e v vs) (o : Obj) : OwnV (w.alloc o) B e v vs := World.ownsRow.alloc h o
theorem OwnV.shape (h : OwnV w B e v vs) : ∃ A c, v = .slice A vs.length c ∧ vs.length ≤ c ∧ c ≤ 9223372036854775807 ∧ (0 < vs.length → ∃ g, A = some ⟨g, 0, none⟩ ∧ B ≤ g ∧ g < w.heap.size ∧ ∀ j u, vs[j]? = some u → w.cell? ⟨g, j, none⟩ = some u) := by
  obtain ⟨hl, h0 | ⟨g, cap, cur, hv, hb, hg, hn, hc, hs, ht⟩⟩ := id h
  · exact ⟨none, 0, by rw [h0.2]; exact h0.1, by omega, by omega, fun hp => absurd hp (by omega)⟩
  · refine ⟨some ⟨g, 0, none⟩, cap, hv, hn, by simpa [maxLen] using hc, fun hp => ⟨g, rfl, hb, (Array.getElem?_eq_some_iff.1 hg).1, fun j u hu => ?_⟩⟩
    subst hv
    have hj : j < vs.length := (List.getElem?_eq_some_iff.1 hu).1
    exact (World.ownsRow.cellAt (by unfold OwnV at h; exact h) j (by omega)).trans hu
end

/-- append(out, x) of a one-cell value that has just been laid in a block of its own. -/
theorem wpList_push_val {P : Program} {e t : TypeId} (w : World) {ops : Array Oper} {rest : List Oper} {o : Oper} {a : Act} {Q : Exit → Act → World → Prop} (hg : o.guard = none) (s x : Operand)
    (ho : o.op = .call { callee := .builtin .append, args := #[s, x], argTypes := #[t, t] }) {z : Value} {b : Nat} (E : ValsOf P t e z b) (hb : b ≤ 100) (B : Nat) (v : Value) (vs : List Value) (u : Value) (hu : u.oneCell' = true) (e' : TypeId) (c : Nat)
    (hs : a.eval s = v) (hx : a.eval x = .slice (some ⟨w.heap.size, 0, none⟩) 1 c) (hown : OwnV w B e v vs) (hB : B ≤ w.heap.size) (hn : vs.length ≤ 1000000000)
    (hK : ∀ v' w', OwnV w' B e v' (vs ++ [u]) → Below B w w' → w.grownBy w' v.ownBlock → (v'.ownBlock = v.ownBlock ∨ v'.ownBlock = some (w.heap.size + 1)) → w.heap.size < w'.heap.size →
      wpList P ops Q rest (a.put o.dst v') w') : wpList P ops Q (o :: rest) a (w.alloc (.cells #[u] e')) := by
  obtain ⟨i0, hi, hz0, hz1, hz2⟩ := info_parts E.info
  obtain ⟨v', w', hrun, h1, h2, h3, h4⟩ := run_append_own_at (P := P) (w.alloc (.cells #[u] e')) B t o.type e i0 z 1 b E.slice hi hz0 hz1 hz2 E.one (by decide) v vs.length vs (World.ownsRow.alloc hown _)
    ⟨w.heap.size, 0, none⟩ 1 c [u] rfl (by
      intro j y hj
      match j, hj with
      | 0, hj => simp at hj; subst hj; rw [show (⟨w.heap.size, 0, none⟩ : Addr).add 0 = ⟨w.heap.size, 0, none⟩ from rfl]; exact cell_of_row _ w.heap.size 0 #[u] e' (0, 0) (heap_alloc_new w _)) (by intro y hy; simp at hy; subst hy; exact hu)
    (by unfold maxLen; omega) (by have : (vs.length + 1) * b ≤ 1000000001 * 100 := Nat.mul_le_mul (by omega) hb
                                  omega) (Nat.le_trans hB (by rw [size_alloc']; exact Nat.le_succ _))
  have hg' : w.grownBy w' v.ownBlock := ⟨h2.os, h2.tape, h2.output, Nat.le_trans (by simp) h2.size, fun k hk hne => (h2.block k (Nat.lt_of_lt_of_le hk (by rw [size_alloc']; exact Nat.le_succ _)) hne).trans (Below.heap_alloc w _ k hk)⟩
  refine wpList_plain hg fun K hK' => ?_
  unfold Oper.wp execOp
  simp only [ho, resolve, invoke, builtin, Sem.run_bind, Sem.run_pure, Result.andThen_ok, List.map_toArray, List.map_cons, List.map_nil, hs, hx, hrun]
  refine hK' _ _ (hK v' w' ?_ ⟨hg'.os, hg'.tape, hg'.output, hg'.size, fun k hk => hg'.block k (by omega) (fun e => by have := World.ownsRow.lt hown k e.symm; omega)⟩ hg' (by simpa using h4) ?_)
  · unfold OwnV
    rw [List.length_append, List.length_singleton]
    exact h1
  · have := h2.size
    simp at this
    omega

/-- The value v is a slice of slices that read as xss. -/
def RdSS (w : World) (v : Value) (xss : List (List Int)) : Prop :=
  ∃ A c, v = .slice A xss.length c ∧ xss.length ≤ c ∧ c ≤ 9223372036854775807 ∧ (0 < xss.length → ∃ g off, A = some ⟨g, off, none⟩ ∧ g < w.heap.size ∧
    ∀ j, j < xss.length → ∃ u, w.cell? ⟨g, off + j, none⟩ = some u ∧ Rd w u (xss.getD j []))
theorem RdSS.below {w w' : World} {v : Value} {xss : List (List Int)} (h : RdSS w v xss) (hb : Below w.heap.size w w') : RdSS w' v xss := by
  obtain ⟨A, c, h1, h2, h3, h4⟩ := h
  refine ⟨A, c, h1, h2, h3, fun hn => ?_⟩
  obtain ⟨g, off, h5, h6, h7⟩ := h4 hn
  refine ⟨g, off, h5, Nat.lt_of_lt_of_le h6 hb.size, fun j hj => ?_⟩
  obtain ⟨u, h8, h9⟩ := h7 j hj
  exact ⟨u, (hb.cell h6).trans h8, h9.below hb⟩
/-- The values vs read, one by one, as xss. -/
def RdAll (w : World) (vs : List Value) (xss : List (List Int)) : Prop := vs.length = xss.length ∧ ∀ (j : Nat) (u : Value), vs[j]? = some u → Rd w u (xss.getD j [])
theorem RdAll.below {w w' : World} {vs : List Value} {xss : List (List Int)} (h : RdAll w vs xss) (hb : Below w.heap.size w w') : RdAll w' vs xss := ⟨h.1, fun j u hu => (h.2 j u hu).below hb⟩
theorem RdAll.snoc {w : World} {vs : List Value} {xss : List (List Int)} {u : Value} {ys : List Int} (h : RdAll w vs xss) (hu : Rd w u ys) : RdAll w (vs ++ [u]) (xss ++ [ys]) := by
  refine ⟨by simp [h.1], fun j x hx => ?_⟩
  by_cases hj : j < vs.length
  · rw [List.getElem?_append_left hj] at hx
    have := h.2 j x hx
    have e : (xss ++ [ys]).getD j [] = xss.getD j [] := by simp [List.getD, List.getElem?_append_left (show j < xss.length by rw [← h.1]; exact hj)]
    rwa [e]
  · have hj2 : j = vs.length := by
      have := (List.getElem?_eq_some_iff.1 hx).1
      simp at this
      omega
    subst hj2
    simp at hx
    subst hx
    have : (xss ++ [ys]).getD vs.length [] = ys := by rw [h.1]; simp [List.getD]
    rw [this]
    exact hu
theorem OwnV.rdSS {w : World} {B e : Nat} {v : Value} {vs : List Value} {xss : List (List Int)} (h : OwnV w B e v vs) (hr : RdAll w vs xss) : RdSS w v xss := by
  obtain ⟨A, c, h1, h2, h3, h4⟩ := h.shape
  rw [hr.1] at h1 h2 h4
  refine ⟨A, c, h1, h2, h3, fun hn => ?_⟩
  obtain ⟨g, h5, _, h6, h7⟩ := h4 hn
  refine ⟨g, 0, h5, h6, fun j hj => ?_⟩
  have hu : vs[j]? = some (vs[j]'(by rw [hr.1]; exact hj)) := List.getElem?_eq_getElem _
  exact ⟨_, by rw [Nat.zero_add]; exact h7 j _ hu, hr.2 j _ hu⟩

/-- 's >> k & 1 == 1', as the walk writes it, is the k-th bit. -/
theorem bit_int (s k : Nat) (hs : s < 4611686018427387904) : (bits .and .i64 ((s : Int) / 2 ^ k) 1 == 1) = s.testBit k := by
  have e0 : (s : Int) / 2 ^ k = ((s >>> k : Nat) : Int) := by rw [Nat.shiftRight_eq_div_pow, Int.natCast_ediv, Int.natCast_pow]; rfl
  have hle : s >>> k ≤ s := by rw [Nat.shiftRight_eq_div_pow]; exact Nat.div_le_self _ _
  have h1 : (BitVec.ofInt 64 ((s >>> k : Nat) : Int)).toNat = s >>> k := by rw [BitVec.ofInt_natCast, BitVec.toNat_ofNat]; exact Nat.mod_eq_of_lt (by omega)
  have h2 : (BitVec.ofInt 64 ((1 : Nat) : Int)).toNat = 1 := by decide
  have hx : (s >>> k) &&& 1 ≤ 1 := Nat.and_le_right
  have e : bits .and .i64 ((s >>> k : Nat) : Int) ((1 : Nat) : Int) = (((s >>> k) &&& 1 : Nat) : Int) := by
    show IntKind.i64.wrap ((BitVec.ofInt 64 ((s >>> k : Nat) : Int) &&& BitVec.ofInt 64 ((1 : Nat) : Int)).toNat : Int) = _
    rw [BitVec.toNat_and, h1, h2, IntKind.wrap_i64]
    omega
  have e' : bits .and .i64 ((s : Int) / 2 ^ k) 1 = (((s >>> k) &&& 1 : Nat) : Int) := by rw [e0]; exact e
  rw [e', Nat.testBit, Nat.and_comm 1]
  generalize (s >>> k) &&& 1 = x at hx
  rcases (show x = 0 ∨ x = 1 by omega) with rfl | rfl <;> rfl

/-- append(out, xs...), xs a slice that can be read and is not empty. -/
theorem wpList_append_rd {P : Program} {e t : TypeId} (w : World) {ops : Array Oper} {rest : List Oper} {o : Oper} {a : Act} {Q : Exit → Act → World → Prop} (hg : o.guard = none) (s x : Operand)
    (ho : o.op = .call { callee := .builtin .append, args := #[s, x], argTypes := #[t, t] }) (E : IntsOf P t e) (B : Nat) (v u : Value) (xs us : List Int)
    (hs : a.eval s = v) (hx : a.eval x = u) (hown : Own w B e v xs) (hr : Rd w u us) (hB : B ≤ w.heap.size) (hn : xs.length ≤ 1000000000) (hm1 : us.length ≤ 1000000000) (hm0 : 0 < us.length)
    (hK : ∀ v' w', Own w' B e v' (xs ++ us) → Below B w w' → w.grownBy w' v.ownBlock → (v'.ownBlock = v.ownBlock ∨ v'.ownBlock = some w.heap.size) → (∃ k, v'.ownBlock = some k) → w.heap.size ≤ w'.heap.size →
      wpList P ops Q rest (a.put o.dst v') w') : wpList P ops Q (o :: rest) a w := by
  obtain ⟨i0, hi, hz0, hz1, hz2⟩ := info_parts E.info
  obtain ⟨A, c, rfl, _, _, hcell⟩ := hr
  obtain ⟨g, off, rfl, hgl, hcl⟩ := hcell hm0
  obtain ⟨v', w', hrun, h1, h2, h3, h4⟩ := run_append_own_at (P := P) w B t o.type e i0 (.int .i64 0) 1 8 E.slice hi hz0 hz1 hz2 rfl (by decide) v xs.length (xs.map (Value.int .i64)) hown
    ⟨g, off, none⟩ us.length c (us.map (Value.int .i64)) (by simp) (by
      intro j y hj
      have hadd : (⟨g, off, none⟩ : Addr).add j = ⟨g, off + j, none⟩ := by
        unfold Addr.add; split
        · next h0 => subst h0; rfl
        · rfl
      have hjl : j < us.length := by
        have := (List.getElem?_eq_some_iff.1 hj).1
        simpa using this
      rw [hadd, hcl j hjl, getD_lt hjl, ← hj, List.getElem?_map, List.getElem?_eq_getElem hjl]
      rfl) (by intro y hy; obtain ⟨z, _, rfl⟩ := List.mem_map.1 hy; rfl)
    (by unfold maxLen; omega) (by omega) hB
  refine wpList_plain hg fun K hK' => ?_
  unfold Oper.wp execOp
  simp only [ho, resolve, invoke, builtin, Sem.run_bind, Sem.run_pure, Result.andThen_ok, List.map_toArray, List.map_cons, List.map_nil, hs, hx, hrun]
  refine hK' _ _ (hK v' w' ?_ ⟨h2.os, h2.tape, h2.output, h2.size, fun k hk => h2.block k (by omega) (fun e => by have := World.ownsRow.lt hown k e.symm; omega)⟩ h2 h4 ?_ h2.size)
  · unfold Own
    rw [List.length_append, List.map_append]
    exact h1
  · rcases h1.2 with ⟨_, h0⟩ | ⟨g, cap, cur, hv, _⟩
    · omega
    · exact ⟨g, by rw [hv]; rfl⟩

theorem take_set_snoc {xs ys : List Int} {k : Nat} (hk : k < xs.length) (hl : ys.length = xs.length) (h : ys.take k = xs.take k) : (ys.set k (xs.getD k 0)).take (k + 1) = xs.take (k + 1) := by
  apply List.ext_getElem?
  intro j
  have hj : ys.take k = xs.take k := h
  by_cases h1 : j < k
  · have := congrArg (fun l : List Int => l[j]?) hj
    simp only [List.getElem?_take, h1, if_true] at this
    rw [List.getElem?_take, List.getElem?_take, if_pos (by omega), if_pos (by omega), List.getElem?_set_ne (by omega), this]
  · by_cases h2 : j = k
    · subst h2
      rw [List.getElem?_take, List.getElem?_take, if_pos (by omega), if_pos (by omega), List.getElem?_set_self (by omega)]
      simp [List.getD, hk]
    · rw [List.getElem?_take, List.getElem?_take, if_neg (by omega), if_neg (by omega)]
theorem take_all {xs ys : List Int} (hl : ys.length = xs.length) (h : ys.take xs.length = xs.take xs.length) : ys = xs := by
  rwa [List.take_of_length_le (by omega), List.take_of_length_le (Nat.le_refl _)] at h
end Go.Proofs.Ytgageljahebjnaa
