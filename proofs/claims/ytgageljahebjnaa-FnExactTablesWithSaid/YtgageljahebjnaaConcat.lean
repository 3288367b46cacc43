
/-
  Contracts: slices.Grow of no slice, slices.Concat of two slices that are not empty.
-/
import Derived.Test.YtgageljahebjnaaHar
import Derived.Lib.AppendZerosOnto
namespace Go.Proofs.Ytgageljahebjnaa
open Go.RowKit

/-- append(s, make([]int, k)...), s nil. -/
theorem wpList_grow_zeros {P : Program} {e t tn : TypeId} (w : World) {ops : Array Oper} {rest : List Oper} {o : Oper} {a : Act} {Q : Exit → Act → World → Prop} (hg : o.guard = none) (s x : Operand)
    (ho : o.op = .call { callee := .builtin .append, args := #[s, x], argTypes := #[t, tn] }) (E : IntsOf P t e) (htn : P.underlying tn = some (.int .i64)) (k : Nat) (h0 : 0 < k) (hk : k ≤ 10000) (hs : a.eval s = .slice none 0 0) (hx : a.eval x = .int .i64 k)
    (hK : ∀ cap w' cur, w'.heap[w.heap.size]? = some (.cells cur e (0, 0)) → cur.size = cap → k ≤ cap → cap ≤ maxLen → Below w.heap.size w w' → wpList P ops Q rest (a.put o.dst (.slice (some ⟨w.heap.size, 0, none⟩) k cap)) w') : wpList P ops Q (o :: rest) a w := by
  obtain ⟨i0, hi, hz0, hz1, hz2⟩ := info_parts E.info
  have hrun := Go.Lib.run_append_grow_zeros (P := P) w t tn o.type e i0 (.int .i64 0) .i64 .i64 E.slice htn hi hz0 none 0 0 [] (by rw [hz1]; exact run_firstCells_none w.drew 1 0 0 0) k h0 (by omega) (by omega) (by omega) (by rw [hz2]; omega) (by rw [hz2]; unfold Builtin.nextslicecap; rw [if_pos (by omega)]; omega)
  rw [Nat.zero_add] at hrun
  have hge := grownCap_ge w k 0 e
  have hle := grownCap_le_maxLen w k 0 e (by unfold maxLen; omega)
  refine wpList_plain hg fun K hK' => ?_
  unfold Oper.wp execOp
  simp only [ho, resolve, invoke, builtin, Sem.run_bind, Sem.run_pure, Result.andThen_ok, List.map_toArray, List.map_cons, List.map_nil, hs, hx, hrun]
  refine hK' _ _ (hK _ _ _ (heap_alloc_new w.drew _) ?_ hge hle (((Below.refl _ _).drew).alloc (Nat.le_refl _) _))
  have hzc : ∀ n, (Builtin.zeroCells (Value.int .i64 0).cells n).size = n := fun n => by simp [Builtin.zeroCells, Value.cells]
  simp [hzc]
  omega

theorem underInt : Try.prog.underlying 3 = some (.int .i64) := Try.underlying3

set_option maxHeartbeats 1000000 in
theorem grow_c (k : Nat) (w : World) (h0 : 0 < k) (hk : k ≤ 10000) : Calls Try.prog 78 #[.slice none 0 0, .int .i64 k] w fun e w' => ∃ v, e = .returned v ∧ Own w' w.heap.size 3 v [] ∧ Below w.heap.size w w' := by
  go_enter Try.func78, Try.ntmps78
  go_wp2_with (at_builtin; refine wpList_grow_zeros _ rfl (.tmp 20) (.tmp 21) rfl ints underInt k h0 hk rfl rfl ?_; intro cap w1 cur h1 h2 h3 h4 hb1)
  go_ret
  refine ⟨_, rfl, ?_, hb1⟩
  refine ⟨by simp, .inr ⟨w.heap.size, cap, cur, rfl, Nat.le_refl _, h1, Nat.zero_le _, h4, by omega, by simp⟩⟩

set_option maxRecDepth 100000 in
set_option maxHeartbeats 2000000 in
theorem concat_c (G : Nat) (u v : Value) (xs ys : List Int) (w : World) (hu : w.cell? ⟨G, 0, none⟩ = some u) (hv : w.cell? ⟨G, 1, none⟩ = some v) (hG : G < w.heap.size) (hx : Rd w u xs) (hy : Rd w v ys) (hx0 : 0 < xs.length) (hx1 : xs.length ≤ 1000) (hy0 : 0 < ys.length) (hy1 : ys.length ≤ 1000) :
    Calls Try.prog 76 #[.slice (some ⟨G, 0, none⟩) 2 2] w fun e w' => ∃ v', e = .returned v' ∧ Own w' w.heap.size 3 v' (xs ++ ys) ∧ Below w.heap.size w w' := by
  have hx' := hx
  have hy' := hy
  obtain ⟨A1, c1, rfl, hc1, hm1, _⟩ := hx
  obtain ⟨A2, c2, rfl, hc2, hm2, _⟩ := hy
  go_enter Try.func76, Try.ntmps76
  go_wp2_with fail
  go_loop [3, 5, 11] (fun n s i => (i = .int .i64 0 ∧ n = .int .i64 0) ∨ (i = .int .i64 1 ∧ n = .int .i64 xs.length) ∨ (i = .int .i64 2 ∧ n = .int .i64 ((xs.length : Int) + ys.length))) (fun _ _ i => 2 - (intOf i).toNat)
  case atStart => exact .inl ⟨rfl, rfl⟩
  case round =>
    rcases hrel with ⟨rfl, rfl⟩ | ⟨rfl, rfl⟩ | ⟨rfl, rfl⟩
    · go_wp2_with fail
      go_round
      case rel => exact .inr (.inl ⟨by go_num, by go_num⟩)
      case measure => simp [intOf]
    · go_wp2_with fail
      go_round
      case rel => exact .inr (.inr ⟨by go_num, by go_num⟩)
      case measure => simp [intOf]
    · go_wp2_with fail
      have hsz : (xs.length : Int) + ys.length = ((xs.length + ys.length : Nat) : Int) := by omega
      rw [hsz]
      clear hsz
      refine (grow_c (xs.length + ys.length) _ (by omega) (by omega)).mono ?_
      rintro e w1 ⟨v1, rfl, hown1, hb1⟩
      have hu1 := (hb1.cell (p := ⟨G, 0, none⟩) hG).trans hu
      have hv1 := (hb1.cell (p := ⟨G, 1, none⟩) hG).trans hv
      have hxr := hx'.below hb1
      have hyr := hy'.below hb1
      have hsz1 := hb1.size
      go_wp2_with fail
      go_loopw [6, 8, 27] (fun o s i wr => Below w.heap.size w wr ∧ ((i = .int .i64 0 ∧ Own wr w.heap.size 3 o []) ∨ (i = .int .i64 1 ∧ Own wr w.heap.size 3 o xs) ∨ (i = .int .i64 2 ∧ Own wr w.heap.size 3 o (xs ++ ys)))) (fun _ _ i _ => 2 - (intOf i).toNat)
      case atStart => exact ⟨hb1, .inl ⟨rfl, hown1⟩⟩
      case round =>
        obtain ⟨hbel, hrel⟩ := hrel
        have hb0 : Below w.heap.size w wr := hbel
        have hu2 := (hb0.cell (p := ⟨G, 0, none⟩) hG).trans hu
        have hv2 := (hb0.cell (p := ⟨G, 1, none⟩) hG).trans hv
        have hxr := hx'.below hb0
        have hyr := hy'.below hb0
        have hsz2 := hb0.size
        rcases hrel with ⟨rfl, hown⟩ | ⟨rfl, hown⟩ | ⟨rfl, hown⟩
        · go_wp2_with (at_builtin; refine wpList_append_rd _ rfl (.tmp 31) (.tmp 32) rfl ints w.heap.size _ _ [] xs rfl rfl hown hxr hsz2 (by simp) (by omega) (by omega) ?_; intro v4 w4 hown4 hb4 hg4 hat4 hk4 hlt4)
          go_roundw
          case rel => exact ⟨hbel.trans hb4, .inr (.inl ⟨by go_num, by simpa using hown4⟩)⟩
          case measure => simp [intOf]
        · go_wp2_with (at_builtin; refine wpList_append_rd _ rfl (.tmp 31) (.tmp 32) rfl ints w.heap.size _ _ xs ys rfl rfl hown hyr hsz2 (by omega) (by omega) (by omega) ?_; intro v4 w4 hown4 hb4 hg4 hat4 hk4 hlt4)
          go_roundw
          case rel => exact ⟨hbel.trans hb4, .inr (.inr ⟨by go_num, hown4⟩)⟩
          case measure => simp [intOf]
        · go_wp2_with fail
          go_ret
          exact ⟨_, rfl, hown, hb0⟩
end Go.Proofs.Ytgageljahebjnaa
