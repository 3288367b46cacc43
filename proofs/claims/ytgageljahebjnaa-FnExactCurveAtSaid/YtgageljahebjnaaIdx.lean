
/-
  A range over a function whose rounds come in a known order: round k is handed the values encs k; no round leaves the loop.
-/
import Derived.Test.YtgageljahebjnaaBase
import Derived.RangeFuncNested
import Derived.RangeFuncLeaves
namespace Go.Proofs.Ytgageljahebjnaa
open Go.RowKit
section
variable {F : Fence} {n : Nat} {P : Program}

/-- Two worlds that differ in a block of the loop's book-keeping alone. -/
def Abides (B : Nat) (T : World → Prop) : Prop := ∀ (W : World) (l : Nat) (o o' : Obj), B ≤ l → W.heap[l]? = some o → o.isCells = false → T W → T (W.putObj l o')

/-- A body that is left at its end alone. -/
def onlyEnd (R : World → Prop) : Exit → Act → World → Prop
  | .normal, _, W => R W
  | _, _, _ => False

theorem wpIn_rangeFunc_idx {g : Operand} {ps : Array Tmp} {assign body : Code} {Q : Exit → Act → World → Prop} {a : Act} {w : World}
    (hro : F.round = none) (h1 : 1 ≤ n) {gf : Nat} {lb : Array Value} (hg : a.eval g = .func (.func gf) #[] lb) (hF : F.fn gf) (eg : ∀ args w, (callFunc gf args).run P w = .ok (.enter gf args) w)
    (N : Nat) (encs : Nat → Array Value) (hps : ∀ k, (encs k).size = ps.size) (I : Nat → World → Prop) (hI : ∀ k, Abides w.heap.size (I k)) (h0 : ∀ o o', I 0 ((w.alloc o).alloc o'))
    (hseq : ∀ (l : Nat) (J : Nat → World → Prop), (∀ k W, J k W → I k W) →
      (∀ k W, k < N → J k W → YieldAt F (n - 1 - 1) P l (encs k) W fun e W' => e = .returned (.bool true) ∧ J (k + 1) W') →
      ∀ W, J 0 W → CallsIn F (n - 1) P gf (#[.func (.yield l) #[] #[]] ++ lb) W fun e W' => (∃ v, e = .returned v) ∧ J N W')
    (Ax : Nat → Act → World → Prop) (hAx : ∀ k a', Abides w.heap.size (Ax k a'))
    (hassign : ∀ (l k : Nat) (W : World) (K : Act → World → Prop), k < N → I k W → (∀ a' W', KeepsFrom w.heap.size W W' → I k W' → Ax k a' W' → K a' W') →
      assign.wpIn (F.inRound l) (n - 1 - 1) P (Exit.then K (fun _ _ _ => False)) { tmps := (ps.zip (encs k)).foldl (fun t (p, v) => t.setIfInBounds p v) a.tmps, defers := [] } W)
    (hbody : ∀ (l k : Nat) (a' : Act) (W : World), k < N → I k W → Ax k a' W → body.wpIn (F.inRound l) (n - 1 - 1) P (onlyEnd fun W' => KeepsFrom w.heap.size W W' ∧ I (k + 1) W') a' W)
    (hdone : ∀ (D : Nat) (W : World), w.heap.size ≤ D → I N W → W.heap[D]? = some (.deferred (some [])) → Q .normal { a with defers := { target := .collected D, args := #[] } :: a.defers } W) :
    (Code.rangeFunc g ps assign body).wpIn F n P Q a w := by
  refine wpIn_rangeFunc fun fn hfn => ?_
  rw [hro]
  obtain ⟨D, hD⟩ : ∃ D, w.heap.size = D := ⟨_, rfl⟩
  rw [hD] at hI hAx hassign hbody hdone
  -- the loop's record, by its state
  obtain ⟨rec, hrec⟩ : ∃ rec : LoopState → Loop, rec = fun st => { state := st, pending := none, fn, tmps := a.tmps, params := ps, assign, body, defers := D } := ⟨_, rfl⟩
  have hnc : ∀ st, (Obj.loop (rec st)).isCells = false := fun _ => rfl
  -- what holds between two rounds, with the two blocks of the book-keeping
  obtain ⟨J, hJ⟩ : ∃ J : Nat → World → Prop, J = fun k W => I k W ∧ W.heap[D + 1]? = some (.loop (rec .ready)) ∧ W.heap[D]? = some (.deferred (some [])) := ⟨_, rfl⟩
  obtain ⟨V, hV⟩ : ∃ V, (w.alloc (.deferred (some []))).alloc (.loop (rec .ready)) = V := ⟨_, rfl⟩
  have hVl : V.heap[D + 1]? = some (.loop (rec .ready)) := by
    rw [← hV, ← hD]
    have := World.alloc_heap_new (w.alloc (.deferred (some []))) (.loop (rec .ready))
    rwa [World.size_alloc] at this
  have hVd : V.heap[D]? = some (.deferred (some [])) := by
    rw [← hV, ← hD]
    exact (Below.heap_alloc _ _ _ (by simp)).trans (World.alloc_heap_new w _)
  have hJ0 : J 0 V := by
    rw [hJ]
    exact ⟨by rw [← hV]; exact h0 _ _, hVl, hVd⟩
  have round : ∀ k W, k < N → J k W → YieldAt F (n - 1 - 1) P (D + 1) (encs k) W fun e W' => e = .returned (.bool true) ∧ J (k + 1) W' := by
    intro k W hk hj
    rw [hJ] at hj
    obtain ⟨hi, hl, hd⟩ := hj
    have hy := run_yield (P := P) (args := encs k) hl (by rw [hrec]; exact hps k)
    rw [hrec] at hy
    refine ⟨fn, _, assign, body, hy, roundIn_of_wpIn hfn (hassign (D + 1) k W _ hk hi fun a' W1 hk1 hi1 hax1 => ?_)⟩
    have hl1 := hk1.same _ _ (by omega) hl (hnc _)
    have hd1 := hk1.same _ _ (Nat.le_refl _) hd rfl
    refine ⟨_, run_beginRound hl1 (by rw [hrec]), ?_⟩
    have hs1 : D + 1 < W1.heap.size := (Array.getElem?_eq_some_iff.1 hl1).1
    have e2 : ({ rec .ready with state := .busy } : Loop) = rec .busy := by rw [hrec]
    rw [e2]
    have hl2 : (W1.putObj (D + 1) (.loop (rec .busy))).heap[D + 1]? = some (.loop (rec .busy)) := World.putObj_heap_same hs1
    have hd2 : (W1.putObj (D + 1) (.loop (rec .busy))).heap[D]? = some (.deferred (some [])) := (World.putObj_heap_other (by omega)).trans hd1
    refine wpIn_mono (hbody (D + 1) k a' _ hk (hI k _ _ _ _ (by omega) hl1 (hnc _) hi1) (hAx k a' _ _ _ _ (by omega) hl1 (hnc _) hax1)) ?_
    rintro e a3 W3 hp
    cases e with
    | normal =>
      obtain ⟨hk3, hi3⟩ := hp
      have hl3 := hk3.same _ _ (by omega) hl2 (hnc _)
      have hd3 := hk3.same _ _ (Nat.le_refl _) hd2 rfl
      have e3 : ({ rec .busy with state := (if (none : Option Code).isNone then .ready else .done), pending := none } : Loop) = rec .ready := by rw [hrec]; rfl
      have hend := run_endRound (P := P) none hl3
      rw [e3] at hend
      refine ⟨_, _, hend, rfl, ?_⟩
      rw [hJ]
      exact ⟨hI _ _ _ _ _ (by omega) hl3 (hnc _) hi3, World.putObj_heap_same (Array.getElem?_eq_some_iff.1 hl3).1, (World.putObj_heap_other (by omega)).trans hd3⟩
    | ret => exact hp.elim
    | exit id => exact hp.elim
    | goto t => exact hp.elim
    | panic ch => exact hp.elim
    | outgrown => exact hp.elim
  refine ⟨D + 1, [{ target := .collected D, args := #[] }], V, { target := .fn (.func gf) lb, args := #[.func (.yield (D + 1)) #[] #[]] }, V, gf, #[.func (.yield (D + 1)) #[] #[]] ++ lb, V, ?_, ?_, ?_, ?_, fun _ => h1, ?_⟩
  · rw [← hV, hrec, ← hD]; exact run_enterLoop_outer _ _ _ _ _
  · simp only [resolve, hg]
    simp [go_sem]
  · intro f' hf'
    simp [Target.leads] at hf'
    subst hf'
    exact hF
  · simp [invoke, go_sem, eg]
  · refine (hseq (D + 1) J (fun k W h => by rw [hJ] at h; exact h.1) round V hJ0).mono ?_
    rintro e W2 ⟨⟨v, rfl⟩, hj⟩
    rw [hJ] at hj
    obtain ⟨hi, hl, hd⟩ := hj
    have hend := run_endLoop (P := P) hl (by rw [hrec]; simp)
    have e4 : (rec .ready).pending = none := by rw [hrec]
    rw [e4] at hend
    exact ⟨none, _, hend, hdone D _ (Nat.le_refl _) (hI _ _ _ _ _ (by omega) hl (hnc _) hi) ((World.putObj_heap_other (by omega)).trans hd)⟩
end
end Go.Proofs.Ytgageljahebjnaa
