/-
  Contract: the function that the program's SplitChance hands to picks.
-/
import Derived.Test.YtipmakmidadalaaPicks
import Derived.Test.YtipmakmidadalaaWinsLaw
namespace Go.Proofs.Ytipmakmidadalaa
open Go.RowKit

theorem blkW_cell {w : World} {g : Nat} {t : TypeId} {cs : Array Value} (h : w.heap[g]? = some (.cells cs t (0, 0))) (i : Nat) : w.cell? ⟨g, i, none⟩ = cs[i]? := cell_of_row w g i cs t (0, 0) h
theorem blkW_frozen {w : World} {g : Nat} {t : TypeId} {cs : Array Value} (h : w.heap[g]? = some (.cells cs t (0, 0))) (i : Nat) : w.frozen? ⟨g, i, none⟩ = false := by simp [World.frozen?, h]
theorem blkW_set {w : World} {g : Nat} {t : TypeId} {cs : Array Value} (h : w.heap[g]? = some (.cells cs t (0, 0))) (i : Nat) (u : Value) : (w.setCell ⟨g, i, none⟩ u).heap[g]? = some (.cells (cs.setIfInBounds i u) t (0, 0)) := by
  simp [World.setCell, Array.getElem?_modify, h]

/-- The world behind one set. -/
def splitW (w : World) (Ba Bm : Nat) (al mn : Int) (b : Bool) (m : Nat) : World := if b then ((w.setCell ⟨Ba, 0, none⟩ (.int .i64 (al + 1))).drewN m).setCell ⟨Bm, 0, none⟩ (.int .i64 (mn + 1)) else (w.setCell ⟨Ba, 0, none⟩ (.int .i64 (al + 1))).drewN m

set_option maxHeartbeats 1000000 in
theorem split1_c (u1 u2 va : Value) (cs xs : List Int) (Ba Bx Bm : Nat) (al mn : Int) (w : World) (hcl : cs.length ≤ 10) (hxl : xs.length ≤ 10) (hcb : allB (-200) 200 cs = true) (hxb : allB (-200) 200 xs = true)
    (hax : Ba ≠ Bx) (ham : Ba ≠ Bm) (hka : ∀ p : Addr, p.block = Ba → Rd (w.setCell p (.int .i64 (al + 1))) u1 cs ∧ Rd (w.setCell p (.int .i64 (al + 1))) va xs)
    (h1 : w.heap[Ba]? = some (.cells #[.int .i64 al] 3 (0, 0))) (h2 : w.heap[Bx]? = some (.cells #[va] 22 (0, 0))) (h3 : w.heap[Bm]? = some (.cells #[.int .i64 mn] 3 (0, 0)))
    (ha : 0 ≤ al ∧ al ≤ 1024) (hm : 0 ≤ mn ∧ mn ≤ 1024) :
    Calls Try.prog 65 #[u1, u2, .pointer (some ⟨Ba, 0, none⟩), .pointer (some ⟨Bx, 0, none⟩), .pointer (some ⟨Bm, 0, none⟩)] w fun e w' => e = .returned (.tuple #[]) ∧ ∃ m, w' = splitW w Ba Bm al mn (decide (sumL xs ≤ sumL cs)) m := by
  have ca : w.cell? ⟨Ba, 0, none⟩ = some (.int .i64 al) := blkW_cell h1 0
  have fa : w.frozen? ⟨Ba, 0, none⟩ = false := blkW_frozen h1 0
  obtain ⟨W, hW⟩ : ∃ W, w.setCell ⟨Ba, 0, none⟩ (.int .i64 (al + 1)) = W := ⟨_, rfl⟩
  obtain ⟨hcW, hxW⟩ := hka ⟨Ba, 0, none⟩ rfl
  rw [hW] at hcW hxW
  have cx : W.cell? ⟨Bx, 0, none⟩ = some va := by
    rw [← hW]; exact blkW_cell ((Below.heap_setCell _ _ _ _ (fun e => hax e.symm)).trans h2) 0
  have h3W : W.heap[Bm]? = some (.cells #[.int .i64 mn] 3 (0, 0)) := by rw [← hW]; exact (Below.heap_setCell _ _ _ _ (fun e => ham e.symm)).trans h3
  have cm : W.cell? ⟨Bm, 0, none⟩ = some (.int .i64 mn) := blkW_cell h3W 0
  have fm : W.frozen? ⟨Bm, 0, none⟩ = false := blkW_frozen h3W 0
  have hcb2 : allB (-1000000) 1000000 cs = true := allB_iff.2 fun x hx => by have := allB_iff.1 hcb x hx; omega
  have hxb2 : allB (-1000000) 1000000 xs = true := allB_iff.2 fun x hx => by have := allB_iff.1 hxb x hx; omega
  have K1 := hide fun n => sumI_c u1 cs (W.drewN n) (hcW.drewN n) (by omega) hcb2
  have K2 := hide fun n => sumI_c va xs (W.drewN n) (hxW.drewN n) (by omega) hxb2
  obtain ⟨p, hp⟩ : ∃ p, sumL cs = p := ⟨_, rfl⟩
  obtain ⟨q, hq⟩ : ∃ q, sumL xs = q := ⟨_, rfl⟩
  rw [hp] at K1 ⊢
  rw [hq] at K2 ⊢
  have HW := hide hW
  have e1 : IntKind.i64.wrap (al + 1) = al + 1 := IntWalk.i64_in _ (by omega)
  have e2 : IntKind.i64.wrap (mn + 1) = mn + 1 := IntWalk.i64_in _ (by omega)
  clear hp hq hcb hxb hcb2 hxb2 h1 h2 h3 h3W hka hax ham hcW hxW
  by_cases hle : q ≤ p
  · go_enter Try.func65, Try.ntmps65
    go_wp2_with fail
    go_quiet ((go_at_call 53; first | with_reducible exact quiet_eq (K1.out _) | with_reducible exact quiet_eq (K2.out _)))
    go_wp2_with fail
    go_end0
    exact ⟨rfl, _, by rw [splitW, HW.out, decide_eq_true hle]; rfl⟩
  · go_enter Try.func65, Try.ntmps65
    go_wp2_with fail
    go_quiet ((go_at_call 53; first | with_reducible exact quiet_eq (K1.out _) | with_reducible exact quiet_eq (K2.out _)))
    go_wp2_with fail
    go_end0
    exact ⟨rfl, _, by rw [splitW, HW.out, decide_eq_false (show ¬ q ≤ p by omega)]; rfl⟩
end Go.Proofs.Ytipmakmidadalaa
