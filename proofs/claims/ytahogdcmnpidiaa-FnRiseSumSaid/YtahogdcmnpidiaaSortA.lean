/-
  append(out, us...) as one step of a region that draws: us is any row that can be read, also an empty one.
-/
import Derived.Test.YtahogdcmnpidiaaSortS
namespace Go.Proofs.Ytahogdcmnpidiaa
open Go.RowKit

theorem take_next {xs : List Int} {k : Nat} (h : k < xs.length) : xs.take k ++ [xs.getD k 0] = xs.take (k + 1) := by
  rw [List.take_succ_eq_append_getElem h]
  simp [List.getD, h]
theorem seg_rest {ys : List Int} {m : Nat} : seg ys m ys.length = ys.drop m := by
  unfold seg
  exact List.take_of_length_le (by simp)
theorem Own.form2 {w : World} {B : Nat} {e : TypeId} {v : Value} {ys zs : List Int} {x : Int} (h : Own w B e v (ys ++ [x] ++ zs)) : ∃ g c, v = .slice (some ⟨g, 0, none⟩) (ys ++ [x] ++ zs).length c ∧ (ys ++ [x] ++ zs).length ≤ c ∧ c ≤ 9223372036854775807 := by
  obtain ⟨hl, ⟨_, h0⟩ | ⟨g, cap, cur, hv, _, _, hn, hc, _, _⟩⟩ := id h
  · simp at h0
  · exact ⟨g, cap, hv, hn, by unfold maxLen at hc; omega⟩
theorem add_zero_off {g m : Nat} : (⟨g, 0, none⟩ : Addr).add m = ⟨g, m, none⟩ := by
  unfold Addr.add; split
  · next h0 => subst h0; rfl
  · simp
theorem one_row {W : World} {b : Nat} {x : Int} {e : TypeId} (h : W.heap[b]? = some (.cells #[.int .i64 x] e)) : Rd W (.slice (some ⟨b, 0, none⟩) 1 1) [x] := by
  refine ⟨_, 1, rfl, Nat.le_refl _, by omega, fun _ => ⟨b, 0, rfl, (Array.getElem?_eq_some_iff.1 h).1, fun j hj => ?_⟩⟩
  have : j = 0 := by simp at hj; omega
  subst this
  rw [cell_of_row W b (0 + 0) #[.int .i64 x] e (0, 0) h]
  rfl
theorem one_kept {W W' : World} {b : Nat} {x : Int} {e : TypeId} {row : Option Nat} (h : W.heap[b]? = some (.cells #[.int .i64 x] e)) (hg : W.grownBy W' row) (hne : some b ≠ row) : Rd W' (.slice (some ⟨b, 0, none⟩) 1 1) [x] :=
  one_row (e := e) ((hg.block b (Array.getElem?_eq_some_iff.1 h).1 hne).trans h)

theorem step_append_rd {P : Program} {e t : TypeId} (w : World) {ops : Array Oper} {o : Oper} {a : Act} {K : Act → World → Prop} {Q : Exit → Act → World → Prop} {Els : Prop} (hg : o.guard = none) (s x : Operand)
    (ho : o.op = .call { callee := .builtin .append, args := #[s, x], argTypes := #[t, t] }) (E : IntsOf P t e) (B : Nat) (v : Value) (xs us : List Int) (ad : Addr) (m c : Nat)
    (hs : a.eval s = v) (hx : a.eval x = .slice (some ad) m c) (hr : Rd w (.slice (some ad) m c) us) (hown : Own w B e v xs) (hB : B ≤ w.heap.size) (hn : xs.length ≤ 1000000000) (hm1 : us.length ≤ 1000000000)
    (hK : ∀ v' w', Own w' B e v' (xs ++ us) → Below B w w' → w.grownBy w' v.ownBlock → (v'.ownBlock = v.ownBlock ∨ v'.ownBlock = some w.heap.size) → w.heap.size ≤ w'.heap.size → K (a.put o.dst v') w') :
    if Region.wanted o (yielded ops a.tmps) = true then Oper.wp P o a w K Q else Els := by
  have hw : Region.wanted o (yielded ops a.tmps) = true := by simp [Region.wanted, hg]
  rw [if_pos hw]
  obtain ⟨i0, hi, hz0, hz1, hz2⟩ := info_parts E.info
  obtain ⟨A, c', hv, _, _, hcell⟩ := hr
  simp only [Value.slice.injEq] at hv
  obtain ⟨rfl, rfl, rfl⟩ := hv
  obtain ⟨v', w', hrun, h1, h2, h3, h4⟩ := run_append_own_at (P := P) w B t o.type e i0 (.int .i64 0) 1 8 E.slice hi hz0 hz1 hz2 rfl (by decide) v xs.length (xs.map (Value.int .i64)) hown
    ad us.length c (us.map (Value.int .i64)) (by simp) (by
      intro j y hj
      by_cases h0 : 0 < us.length
      · obtain ⟨g, off, hA, hgl, hcl⟩ := hcell h0
        rw [Option.some.injEq] at hA
        subst hA
        have hadd : (⟨g, off, none⟩ : Addr).add j = ⟨g, off + j, none⟩ := by
          unfold Addr.add; split
          · next h0 => subst h0; rfl
          · rfl
        have hjl : j < us.length := by
          rcases Nat.lt_or_ge j us.length with h | h
          · exact h
          · rw [List.getElem?_eq_none (by simpa using h)] at hj; simp at hj
        rw [hadd, hcl j hjl]
        rw [List.getElem?_map, List.getElem?_eq_getElem hjl] at hj
        simpa [List.getD, hjl] using hj
      · have : us = [] := List.length_eq_zero_iff.1 (by omega)
        subst this
        simp at hj) (by intro y hy; obtain ⟨z, _, rfl⟩ := List.mem_map.1 hy; rfl)
    (by unfold maxLen; omega) (by omega) hB
  unfold Oper.wp execOp
  simp only [ho, resolve, invoke, builtin, Sem.run_bind, Sem.run_pure, Result.andThen_ok, List.map_toArray, List.map_cons, List.map_nil, hs, hx, hrun]
  refine hK v' w' ?_ ⟨h2.os, h2.tape, h2.output, h2.size, fun k hk => h2.block k (by omega) (fun e => by have := World.ownsRow.lt hown k e.symm; omega)⟩ h2 h4 h2.size
  unfold Own
  rw [List.length_append, List.map_append]
  exact h1
end Go.Proofs.Ytahogdcmnpidiaa
