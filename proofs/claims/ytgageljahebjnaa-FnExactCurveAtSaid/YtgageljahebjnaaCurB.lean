
/-
  slices.Backward over a slice of fractions: what its iterator hands to the loop.
-/
import Derived.Test.YtgageljahebjnaaCurS
import Derived.Test.YtgageljahebjnaaIdx
import Derived.RangeFuncBound
import Derived.Shelf.Abstract
import Derived.OwnWalkIn
import Derived.TacticsInMore
import Derived.LoopNIn
import Derived.LoopIn
namespace Go.Proofs.Ytgageljahebjnaa
open Go.RowKit Go.Shelf
attribute [local go_sem] Oper.semAt_some

/-- What round k is handed. -/
def encB (ps : List (Int × Int)) (k : Nat) : Array Value := #[.int .i64 ((ps.length - 1 - k : Nat) : Int), .agg #[.int .i64 (pAt ps (ps.length - 1 - k)).1, .int .i64 (pAt ps (ps.length - 1 - k)).2]]

set_option maxHeartbeats 1000000 in
theorem backward_c (A : Option Addr) (m c : Nat) (w : World) :
    Calls Try.prog 31 #[.slice A m c] w fun e w' => e = .returned (.func (.func 59) #[] #[.pointer (some ⟨w.heap.size, 0, none⟩)]) ∧ w' = w.alloc (.cells #[.slice A m c] 39) := by
  go_enter Try.func31, Try.ntmps31
  go_wp2
  go_ret
  exact ⟨rfl, rfl⟩

set_option maxRecDepth 100000 in
set_option maxHeartbeats 2000000 in
theorem back_idx (F : Fence) (n : Nat) (hF : F.fn 59) (hro : F.round = none) (hn : 1 ≤ n) (l Bs b off cap : Nat) (ps : List (Int × Int)) (hl1 : ps.length ≤ 1000) (J : Nat → World → Prop)
    (hR : ∀ k W, J k W → W.cell? ⟨Bs, 0, none⟩ = some (.slice (some ⟨b, off, none⟩) ps.length cap) ∧ ∀ j, j < ps.length → W.cell? ⟨b, off + j * 2, none⟩ = some (.int .i64 (pAt ps j).1) ∧ W.cell? ⟨b, off + j * 2 + 1, none⟩ = some (.int .i64 (pAt ps j).2))
    (hY : ∀ k W, k < ps.length → J k W → YieldAt F (n - 1) Try.prog l (encB ps k) W fun e W' => e = .returned (.bool true) ∧ J (k + 1) W')
    (W : World) (h0 : J 0 W) :
    CallsIn F n Try.prog 59 #[.func (.yield l) #[] #[], .pointer (some ⟨Bs, 0, none⟩)] W fun e W' => (∃ v, e = .returned v) ∧ J ps.length W' := by
  refine callsIn_of_wp Try.func59 rfl hF ?_ hro
  simp only [Try.ntmps59, List.size_toArray, List.length_cons, List.length_nil, Nat.reduceAdd, Nat.reduceSub, Array.replicate_succ, Array.replicate_zero, List.push_toArray, List.append_toArray, List.nil_append, List.cons_append]
  have ew : IntKind.i64.wrap ((ps.length : Int) - 1) = (ps.length : Int) - 1 := IntWalk.i64_in _ (by omega)
  have HC := hide hR
  have hBs := (hR _ _ h0).1
  clear hR
  gi_wp2
  gi_loopw [3] (fun i wr => ∃ k : Nat, k ≤ ps.length ∧ i = .int .i64 ((ps.length : Int) - 1 - k) ∧ Hid (J k wr)) (fun i _ => (intOf i + 1).toNat)
  case atStart => exact ⟨0, Nat.zero_le _, by simp, h0⟩
  case round =>
    obtain ⟨k, hk, rfl, hJs⟩ := hrel
    by_cases hlt : k < ps.length
    · obtain ⟨c0, hcs⟩ := HC.out _ _ hJs.out
      obtain ⟨fn, tmps, assign, body, hy, hR⟩ := hY k wr hlt hJs.out
      unfold encB at hy
      obtain ⟨i, hi⟩ : ∃ i, ps.length - 1 - k = i := ⟨_, rfl⟩
      have hie : (ps.length : Int) - 1 - k = (i : Int) := by omega
      have HIE := hide hie
      have hin : i < ps.length := by omega
      have i1 : (i : Int) < (ps.length : Int) := by omega
      have ew2 : IntKind.i64.wrap ((i : Int) - 1) = (i : Int) - 1 := IntWalk.i64_in _ (by omega)
      obtain ⟨c1, c2⟩ := hcs i hin
      rw [hi] at hy
      obtain ⟨⟨p, q⟩, hpq⟩ : ∃ x : Int × Int, pAt ps i = x := ⟨_, rfl⟩
      rw [hpq] at c1 c2 hy
      rw [hie]
      clear hpq hi hie hcs
      gi_wp2
      refine hR.mono ?_
      rintro e W3 ⟨rfl, hJ3⟩
      gi_wp2
      go_roundw
      case rel => exact ⟨k + 1, by omega, by have := HIE.out; simp; omega, hJ3⟩
      case measure => have := HIE.out; simp [intOf]; try omega
    · obtain rfl : k = ps.length := by omega
      have hni : ¬ (0 : Int) ≤ (ps.length : Int) - 1 - ps.length := by omega
      gi_wp2
      go_end0
      exact ⟨⟨_, rfl⟩, hJs.out⟩
end Go.Proofs.Ytgageljahebjnaa
