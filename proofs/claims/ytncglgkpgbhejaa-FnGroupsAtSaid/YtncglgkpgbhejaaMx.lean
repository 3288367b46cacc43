/-
  A square of numbers in memory of the call's own: read, written, handed on.
-/
import Derived.Test.YtncglgkpgbhejaaMat
import Derived.Test.YtncglgkpgbhejaaTreeI
import Derived.Test.YtncglgkpgbhejaaMark
import Derived.Laws.CopyOwn
namespace Go.Proofs.Ytncglgkpgbhejaa
open Go.RowKit

structure MxW (w : World) (R n g : Nat) (bl cp : Nat → Nat) (M : List (List Int)) : Prop where
  sq : Sq n M
  hg : R ≤ g ∧ g < w.heap.size
  outer : ∀ i, i < n → w.cell? ⟨g, i, none⟩ = some (.slice (some ⟨bl i, 0, none⟩) n (cp i))
  cap : ∀ i, i < n → n ≤ cp i ∧ cp i ≤ 9223372036854775807
  blk : ∀ i, i < n → R ≤ bl i ∧ bl i < w.heap.size ∧ bl i ≠ g
  inj : ∀ i j, i < n → j < n → i ≠ j → bl i ≠ bl j
  cells : ∀ i k, i < n → k < n → w.cell? ⟨bl i, k, none⟩ = some (.int .i64 (gp M i k))
  free : ∀ i k, i < n → k < n → w.frozen? ⟨bl i, k, none⟩ = false
section
variable {w w' : World} {R n g : Nat} {bl cp : Nat → Nat} {M : List (List Int)}
theorem MxW.below (h : MxW w R n g bl cp M) (hb : Below w.heap.size w w') : MxW w' R n g bl cp M :=
  ⟨h.sq, ⟨h.hg.1, Nat.lt_of_lt_of_le h.hg.2 hb.size⟩, fun i hi => (hb.cell (p := ⟨g, i, none⟩) h.hg.2).trans (h.outer i hi), h.cap,
    fun i hi => ⟨(h.blk i hi).1, Nat.lt_of_lt_of_le (h.blk i hi).2.1 hb.size, (h.blk i hi).2.2⟩, h.inj,
    fun i k hi hk => (hb.cell (p := ⟨bl i, k, none⟩) (h.blk i hi).2.1).trans (h.cells i k hi hk), fun i k hi hk => (hb.frozen (p := ⟨bl i, k, none⟩) (h.blk i hi).2.1).trans (h.free i k hi hk)⟩
theorem MxW.set (h : MxW w R n g bl cp M) {a b : Nat} (ha : a < n) (hb : b < n) (x : Int) : MxW (w.setCell ⟨bl a, b, none⟩ (.int .i64 x)) R n g bl cp (setM M a b x) := by
  refine ⟨h.sq.setM ha, by simpa [World.setCell] using h.hg, fun i hi => ?_, h.cap, fun i hi => by simpa [World.setCell] using h.blk i hi, h.inj, fun i k hi hk => ?_, fun i k hi hk => ?_⟩
  · rw [World.cell?_setCell_other _ _ _ _ (by have := (h.blk a ha).2.2; simp <;> omega)]
    exact h.outer i hi
  · rw [gp_set h.sq ha hb]
    by_cases e : i = a ∧ k = b
    · obtain ⟨rfl, rfl⟩ := e
      rw [if_pos ⟨rfl, rfl⟩]
      exact World.cell?_setCell_same _ _ _ (h.cells i k hi hk)
    · rw [if_neg e, World.cell?_setCell_other _ _ _ _ (by
        by_cases e1 : i = a
        · subst e1; have : ¬ k = b := fun e2 => e ⟨rfl, e2⟩; simp <;> omega
        · have := h.inj a i ha hi (Ne.symm e1); simp <;> omega)]
      exact h.cells i k hi hk
  · rw [World.frozen?_setCell]
    exact h.free i k hi hk
theorem MxW.drewN (h : MxW w R n g bl cp M) (m : Nat) : MxW (w.drewN m) R n g bl cp M := h.below (below_drewN (Below.refl _ _) m)
theorem MxW.low {R' : Nat} (h : MxW w R n g bl cp M) (hR : R' ≤ R) : MxW w R' n g bl cp M :=
  ⟨h.sq, ⟨Nat.le_trans hR h.hg.1, h.hg.2⟩, h.outer, h.cap, fun i hi => ⟨Nat.le_trans hR (h.blk i hi).1, (h.blk i hi).2⟩, h.inj, h.cells, h.free⟩
theorem MxW.sl (h : MxW w R n g bl cp M) {i : Nat} (hi : i < n) : Sl w (bl i) (.slice (some ⟨bl i, 0, none⟩) n (cp i)) (rw_ M i) := by
  have hl := h.sq.2 i hi
  refine ⟨_, cp i, by rw [hl], by rw [hl]; exact (h.cap i hi).1, (h.cap i hi).2, fun hp => ⟨bl i, 0, rfl, Nat.le_refl _, (h.blk i hi).2.1, fun j hj => ?_, fun j hj => ?_⟩⟩
  · rw [Nat.zero_add]; exact h.cells i j hi (by omega)
  · rw [Nat.zero_add]; exact h.free i j hi (by omega)
theorem MxW.rd {c : Nat} (h : MxW w R n g bl cp M) (hc : n ≤ c) (hc2 : c ≤ 9223372036854775807) : RdSS w (.slice (some ⟨g, 0, none⟩) n c) M := by
  refine ⟨_, c, by rw [h.sq.1], by rw [h.sq.1]; exact hc, hc2, fun hp => ⟨g, 0, rfl, h.hg.2, fun j hj => ?_⟩⟩
  have hj : j < n := by rw [← h.sq.1]; exact hj
  rw [Nat.zero_add]
  exact ⟨_, h.outer j hj, (h.sl hj).rd⟩
end

/-- An empty list of values written out in the text. -/
theorem lit_ownV {w : World} {R G : Nat} {e : TypeId} (hG : G = w.heap.size) (hR : R ≤ G) : OwnV (w.alloc (.cells #[] e)) R e (.slice (some ⟨G, 0, none⟩) 0 0) [] := by
  subst hG
  have h := World.ownsRow_lit (base := w.heap.size) (e := e) (size := 1) w (#[] : Array Value) 0 (Nat.le_refl _) (by unfold maxLen; omega) (by simp)
  obtain ⟨hl, h0 | ⟨g, cap, cur, hv, hB, hr⟩⟩ := id h
  · exact ⟨hl, .inl h0⟩
  · exact ⟨hl, .inr ⟨g, cap, cur, hv, by omega, hr⟩⟩

/-- copy(own, src), both of one length. -/
theorem wpList_copy_ints {P : Program} {e t : TypeId} {w : World} {ops : Array Oper} {rest : List Oper} {o : Oper} {a : Act} {Q : Exit → Act → World → Prop} (hgd : o.guard = none) (d s : Operand)
    (ho : o.op = .call { callee := .builtin .copy, args := #[d, s], argTypes := #[t, t] }) (E : IntsOf P t e) (B g n c : Nat) (u : Value) (zs ys : List Int)
    (hd : a.eval d = .slice (some ⟨g, 0, none⟩) n c) (hs : a.eval s = u) (hown : Own w B e (.slice (some ⟨g, 0, none⟩) n c) zs) (hr : Rd w u ys) (hz : zs.length = n) (hy : ys.length = n) (h0 : 0 < n)
    (hK : ∀ w', Own w' B e (.slice (some ⟨g, 0, none⟩) n c) ys → w.grownBy w' (some g) → w'.heap.size = w.heap.size → wpList P ops Q rest (a.put o.dst (goInt n)) w') : wpList P ops Q (o :: rest) a w := by
  obtain ⟨i0, hi, hz0, hz1, hz2⟩ := info_parts E.info
  obtain ⟨A, cs, rfl, hc, hm, hcell⟩ := hr
  obtain ⟨gs, off, rfl, hgs, hcl⟩ := hcell (by omega)
  obtain ⟨hl, h1 | ⟨g', cap, cur, hv, hB, hg, hn, hcm, hsz, ht⟩⟩ := id hown
  · simp at h1
  · simp only [Value.slice.injEq, Option.some.injEq, Addr.mk.injEq, and_true] at hv
    obtain ⟨rfl, hv2, rfl⟩ := hv
    have hlen : (ys.map (Value.int .i64)).length = n := by simpa using hy
    refine wpList_copy_own hgd d s t t ho e E.slice (by rw [hi]; simp [hz1]) g 0 n c ⟨gs, off, none⟩ ys.length cs hd hs cur e hg (ys.map (Value.int .i64)) (by rw [hlen]; show n = min ys.length n; omega) ?_ (by rw [hlen, hsz]; omega) (by intro y hy; obtain ⟨z, _, rfl⟩ := List.mem_map.1 hy; rfl) ?_
    · intro j v hj
      have hadd : (⟨gs, off, none⟩ : Addr).add j = ⟨gs, off + j, none⟩ := by
        unfold Addr.add; split
        · next h0 => subst h0; rfl
        · rfl
      have hjl : j < ys.length := by
        have := (List.getElem?_eq_some_iff.1 hj).1
        simpa using this
      rw [hadd, hcl j hjl, getD_lt hjl, ← hj, List.getElem?_map, List.getElem?_eq_getElem hjl]
      rfl
    · rw [hlen]
      refine hK _ ⟨by simp, .inr ⟨g, c, _, by rw [hy], hB, setRow_heap w g _ _ e _ hg, by omega, hcm, ?_, ?_⟩⟩ ⟨rfl, rfl, rfl, by simp [World.setRow], fun k _ hk => setRow_other w g k _ (fun e => hk (by rw [e]))⟩ (by simp [World.setRow])
      · simp [hlen, hsz, hy]; omega
      · simp only [List.take_zero, List.nil_append, Nat.mul_one]
        rw [List.toList_toArray, List.take_append_of_le_length (by simp), List.take_of_length_le (by simp)]
end Go.Proofs.Ytncglgkpgbhejaa
