
/-
  Contracts: rowsOf, for whatever function it calls.
-/
import Derived.Test.YtgageljahebjnaaTabC
import Derived.Test.YtgageljahebjnaaFree
import Derived.Deep.RegionHeld3
import Derived.Deep.LoopGhost
namespace Go.Proofs.Ytgageljahebjnaa
open Go.RowKit

/-- w' is w with new blocks and changed blocks of M. -/
def Kept (M : Nat → Prop) (w w' : World) : Prop := Below 0 w w' ∧ ∀ g, g < w.heap.size → ¬ M g → w'.heap[g]? = w.heap[g]?
theorem Kept.refl (M : Nat → Prop) (w : World) : Kept M w w := ⟨Below.refl _ _, fun _ _ _ => rfl⟩
theorem Kept.trans {M : Nat → Prop} {w w' w'' : World} (h : Kept M w w') (h' : Kept M w' w'') : Kept M w w'' :=
  ⟨h.1.trans h'.1, fun g hg hm => (h'.2 g (Nat.lt_of_lt_of_le hg h.1.size) hm).trans (h.2 g hg hm)⟩
theorem Kept.of {M : Nat → Prop} {w w' : World} (h : Below w.heap.size w w') : Kept M w w' := ⟨h.mono (Nat.zero_le _), fun g hg _ => h.block g hg⟩
theorem Kept.below {M : Nat → Prop} {w w' w'' : World} (h : Kept M w w') (hb : Below w'.heap.size w' w'') : Kept M w w'' := h.trans (Kept.of hb)
theorem Kept.cell {M : Nat → Prop} {w w' : World} (h : Kept M w w') {g o : Nat} (hg : g < w.heap.size) (hm : ¬ M g) : w'.cell? ⟨g, o, none⟩ = w.cell? ⟨g, o, none⟩ := World.cell?_of_block (h.2 g hg hm)
theorem Kept.rd {M : Nat → Prop} {w w' : World} {v : Value} {xs : List Int} (h : Kept M w w') (hr : Rd w v xs) (hv : ∀ g, v.ownBlock = some g → ¬ M g) : Rd w' v xs := by
  obtain ⟨A, c, rfl, h2, h3, h4⟩ := hr
  refine ⟨A, c, rfl, h2, h3, fun hn => ?_⟩
  obtain ⟨g, off, rfl, h6, h7⟩ := h4 hn
  exact ⟨g, off, rfl, Nat.lt_of_lt_of_le h6 h.1.size, fun j hj => (h.cell h6 (hv g rfl)).trans (h7 j hj)⟩
theorem Kept.to {M : Nat → Prop} {w w' : World} (h : Kept M w w') {B : Nat} (hB : B ≤ w.heap.size) (hm : ∀ g, M g → B ≤ g) : Below B w w' :=
  ⟨h.1.os, h.1.tape, h.1.output, h.1.size, fun k hk => h.2 k (by omega) fun hM => by have := hm k hM; omega⟩
/-- A row as it is handed over: none where it is empty. -/
def RowV (w : World) (u : Value) (row : List Int) : Prop := (row = [] ∧ u = .slice none 0 0) ∨ (0 < row.length ∧ Rd w u row)
theorem RowV.below {w w' : World} {u : Value} {row : List Int} (h : RowV w u row) (hb : Below w.heap.size w w') : RowV w' u row := by
  rcases h with h | ⟨h1, h2⟩
  · exact .inl h
  · exact .inr ⟨h1, h2.below hb⟩
theorem RowV.rd {w : World} {u : Value} {row : List Int} (h : RowV w u row) : Rd w u row := by
  rcases h with ⟨rfl, rfl⟩ | ⟨_, h⟩
  · exact Rd.nil w
  · exact h
theorem blkR_cell {w : World} {g : Nat} {t : TypeId} {cs : Array Value} (h : w.heap[g]? = some (.cells cs t (0, 0))) (i : Nat) : w.cell? ⟨g, i, none⟩ = cs[i]? := cell_of_row w g i cs t (0, 0) h
theorem blkR_frozen {w : World} {g : Nat} {t : TypeId} {cs : Array Value} (h : w.heap[g]? = some (.cells cs t (0, 0))) (i : Nat) : w.frozen? ⟨g, i, none⟩ = false := by simp [World.frozen?, h]
theorem blkR_set {w : World} {g : Nat} {t : TypeId} {cs : Array Value} (h : w.heap[g]? = some (.cells cs t (0, 0))) (i : Nat) (u : Value) : (w.setCell ⟨g, i, none⟩ u).heap[g]? = some (.cells (cs.setIfInBounds i u) t (0, 0)) := by
  simp [World.setCell, Array.getElem?_modify, h]
theorem blkR_lt {w : World} {g : Nat} {o : Obj} (h : w.heap[g]? = some o) : g < w.heap.size := (Array.getElem?_eq_some_iff.1 h).1

theorem callFuncRO (args : Array Value) (w : World) : (callFunc 75 args).run Try.prog w = .ok (.enter 75 args) w := by kernel_rfl

set_option maxHeartbeats 2000000 in
/-- The closure: it hands on the number and the row behind it. -/
theorem rowsOf1_c (F : FuncId) (C : Array Value) (u : Value) (row : List Int) (k : Int) (Bc Bv : Nat) (w : World) (hcf : ∀ (args : Array Value) (w : World), (callFunc F args).run Try.prog w = .ok (.enter F args) w)
    (hu : RowV w u row) (hl : row.length ≤ 3) (hc : w.cell? ⟨Bc, 0, none⟩ = some (.func (.func F) #[] C)) (hv : w.cell? ⟨Bv, 0, none⟩ = some (.int .i64 k)) (hBc : Bc < w.heap.size) (hBv : Bv < w.heap.size)
    (Post : World → Prop) (hS : ∀ wz, Post wz → wz.cell? ⟨Bc, 0, none⟩ = some (.func (.func F) #[] C) ∧ wz.cell? ⟨Bv, 0, none⟩ = some (.int .i64 k)) (hcall : ∀ W u', Below w.heap.size w W → RowV W u' (k :: row) → Calls Try.prog F (#[u'] ++ C) W fun e w'' => e = .returned (.tuple #[]) ∧ Post w'') :
    Calls Try.prog 75 #[u, .pointer (some ⟨Bc, 0, none⟩), .pointer (some ⟨Bv, 0, none⟩)] w fun e w' => e = .returned (.tuple #[]) ∧ Post w' := by
  have HK : Hid (∀ wz, Below w.heap.size w wz → wz.cell? ⟨Bc, 0, none⟩ = some (.func (.func F) #[] C) ∧ wz.cell? ⟨Bv, 0, none⟩ = some (.int .i64 k)) := fun wz h => ⟨(h.cell (p := ⟨Bc, 0, none⟩) hBc).trans hc, (h.cell (p := ⟨Bv, 0, none⟩) hBv).trans hv⟩
  have HC := hide hcall
  have HSP := hide hS
  have HU := hide hu
  have hU0 : Below w.heap.size w w.drew := (Below.refl _ _).drew
  have hshape : ∃ A n c, u = .slice A n c := by
    obtain ⟨A, c, h, _⟩ := hu.rd
    exact ⟨A, _, c, h⟩
  obtain ⟨A, n, cc, rfl⟩ := hshape
  clear hcall hu hc hv hS
  go_enter Try.func75, Try.ntmps75
  go_wp2_with fail
  refine wp_region_held_drew (S := (fun wz : World => wz.cell? ⟨Bc, 0, none⟩ = some (.func (.func F) #[] C) ∧ wz.cell? ⟨Bv, 0, none⟩ = some (.int .i64 k))) (by kernel_rfl) (HK.out _ hU0) (fun hHeld => ?_)
  refine wpAnyH_take (i := 0) (oi := ?oi_0_s) (v := ?v_0_s) ?hi_0_s ?hs_0_s ?hf_0_s ?hr_0_s ?hQ_0_s ?hy_0_s (by assumption) ?h_0_s
  case hi_0_s => simp only [List.getElem?_toArray, List.getElem?_cons_succ, List.getElem?_cons_zero]; rfl
  case hs_0_s => kernel_rfl
  case hf_0_s => kernel_rfl
  case hr_0_s => kernel_rfl
  case hQ_0_s => exact fun _ _ _ h => h
  case hy_0_s =>
    refine Or.inl ⟨by rfl, fun w hSw => ?_⟩
    (try dsimp only at hSw)
    go_simp
    (try with_reducible rfl)
  try simp only [Act.put, List.setIfInBounds_toArray, List.set_cons_zero, List.set_cons_succ]
  refine wpAnyH_take (i := 1) (oi := ?oi_1_s) (v := ?v_1_s) ?hi_1_s ?hs_1_s ?hf_1_s ?hr_1_s ?hQ_1_s ?hy_1_s (by assumption) ?h_1_s
  case hi_1_s => simp only [List.getElem?_toArray, List.getElem?_cons_succ, List.getElem?_cons_zero]; rfl
  case hs_1_s => kernel_rfl
  case hf_1_s => kernel_rfl
  case hr_1_s => kernel_rfl
  case hQ_1_s => exact fun _ _ _ h => h
  case hy_1_s =>
    refine Or.inl ⟨by rfl, fun w hSw => ?_⟩
    (try dsimp only at hSw)
    go_simp
    (try with_reducible rfl)
  try simp only [Act.put, List.setIfInBounds_toArray, List.set_cons_zero, List.set_cons_succ]
  refine wpAnyH_take (i := 3) (oi := ?oi_3_s) (v := ?v_3_s) ?hi_3_s ?hs_3_s ?hf_3_s ?hr_3_s ?hQ_3_s ?hy_3_s (by assumption) ?h_3_s
  case hi_3_s => simp only [List.getElem?_toArray, List.getElem?_cons_succ, List.getElem?_cons_zero]; rfl
  case hs_3_s => kernel_rfl
  case hf_3_s => kernel_rfl
  case hr_3_s => kernel_rfl
  case hQ_3_s => exact fun _ _ _ h => h
  case hy_3_s =>
    refine Or.inl ⟨by rfl, fun w hSw => ?_⟩
    (try dsimp only at hSw)
    go_simp
    (try with_reducible rfl)
  try simp only [Act.put, List.setIfInBounds_toArray, List.set_cons_zero, List.set_cons_succ]
  refine wpAnyH_ready (rs := [2]) (by kernel_rfl) (by simp) ?_
  refine AllReadyH.cons (o := ?o_2_s) ?ho_2_s ?hk_2_s AllReadyH.nil
  case ho_2_s => simp only [List.getElem?_toArray, List.getElem?_cons_succ, List.getElem?_cons_zero]; rfl
  intro K hK
  go_simp
  obtain ⟨V1, hV1⟩ : ∃ V1, (w.alloc (.cells #[.int .i64 k] 3)).drew = V1 := ⟨_, rfl⟩
  rw [hV1]
  have hU1 : Below w.heap.size w V1 := by rw [← hV1]; exact ((Below.refl _ _).alloc (Nat.le_refl _) _).drew
  have hk1 : Rd V1 (.slice (some ⟨w.heap.size, 0, none⟩) 1 1) [k] := by
    rw [← hV1]
    exact ((Own.lit w 3 [k] (by simp)).sl.rd).drew
  clear hV1
  refine hK.out _ _ (HK.out _ hU1) (fun hHeld => ?_)
  clear hK K
  try simp only [Act.put, List.setIfInBounds_toArray, List.set_cons_zero, List.set_cons_succ]
  refine wpAnyH_ready (rs := [4]) (by kernel_rfl) (by simp) ?_
  refine AllReadyH.cons (o := ?o_4_s) ?ho_4_s ?hk_4_s AllReadyH.nil
  case ho_4_s => simp only [List.getElem?_toArray, List.getElem?_cons_succ, List.getElem?_cons_zero]; rfl
  intro K hK
  go_simp
  obtain ⟨V2, hV2⟩ : ∃ V2, V1.alloc (.cells #[.slice (some ⟨w.heap.size, 0, none⟩) 1 1, .slice A n cc] 22) = V2 := ⟨_, rfl⟩
  rw [hV2]
  have hb12 : Below V1.heap.size V1 V2 := by rw [← hV2]; exact (Below.refl _ _).alloc (Nat.le_refl _) _
  have hU2 : Below w.heap.size w V2 := below_to' hU1 hb12
  have hg2 : V1.heap.size < V2.heap.size := by rw [← hV2]; simp
  have hu2 : V2.cell? ⟨V1.heap.size, 0, none⟩ = some (.slice (some ⟨w.heap.size, 0, none⟩) 1 1) := by rw [← hV2]; simp
  have hv2 : V2.cell? ⟨V1.heap.size, 1, none⟩ = some (.slice A n cc) := by rw [← hV2]; simp
  clear hV2
  refine hK.out _ _ (HK.out _ hU2) (fun hHeld => ?_)
  clear hK K
  try simp only [Act.put, List.setIfInBounds_toArray, List.set_cons_zero, List.set_cons_succ]
  refine wpAnyH_ready (rs := [5]) (by kernel_rfl) (by simp) ?_
  refine AllReadyH.cons (o := ?o_5_s) ?ho_5_s ?hk_5_s AllReadyH.nil
  case ho_5_s => simp only [List.getElem?_toArray, List.getElem?_cons_succ, List.getElem?_cons_zero]; rfl
  intro K hK
  go_simp
  have KCON : ∃ P : Unit, Calls Try.prog 76 #[.slice (some ⟨V1.heap.size, 0, none⟩) 2 2] V2 fun e w' => ∃ v', e = .returned v' ∧ Own w' V2.heap.size 3 v' (k :: row) ∧ Below V2.heap.size V2 w' := by
    refine ⟨(), ?_⟩
    rcases HU.out with ⟨rfl, hnil⟩ | ⟨h0, hrd⟩
    · simp only [Value.slice.injEq] at hnil
      obtain ⟨rfl, rfl, rfl⟩ := hnil
      exact concat1_c V1.heap.size _ [k] V2 hu2 hv2 hg2 (hk1.below hb12) (by simp) (by simp)
    · exact concat_c V1.heap.size _ _ [k] row V2 hu2 hv2 hg2 (hk1.below hb12) (hrd.below hU2) (by simp) (by simp) h0 (by omega)
  obtain ⟨-, KC⟩ := KCON
  refine KC.mono ?_
  rintro e w3 ⟨v3, rfl, hown3, hb3⟩
  have hU3 : Below w.heap.size w w3 := below_to' hU2 hb3
  have hr3 : RowV w3 v3 (k :: row) := .inr ⟨by simp, hown3.sl.rd⟩
  go_wp2_with fail
  refine hK.out _ _ (HK.out _ hU3) (fun hHeld => ?_)
  clear hK K
  try simp only [Act.put, List.setIfInBounds_toArray, List.set_cons_zero, List.set_cons_succ]
  refine wpAnyH_ready (rs := [6]) (by kernel_rfl) (by simp) ?_
  refine AllReadyH.cons (o := ?o_6_s) ?ho_6_s ?hk_6_s AllReadyH.nil
  case ho_6_s => simp only [List.getElem?_toArray, List.getElem?_cons_succ, List.getElem?_cons_zero]; rfl
  intro K hK
  go_simp
  refine (HC.out w3 v3 hU3 hr3).mono ?_
  rintro e w4 ⟨rfl, hpost⟩
  go_wp2_with fail
  refine hK.out _ _ (HSP.out _ hpost) (fun hHeld => ?_)
  clear hK K
  try simp only [Act.put, List.setIfInBounds_toArray, List.set_cons_zero, List.set_cons_succ]
  refine wpAnyH_done (by kernel_rfl) ?_ _
  go_wp2_with fail
  go_end0
  exact ⟨rfl, hpost⟩

theorem Rd.tailR {w : World} {g off n c : Nat} {x : Int} {xs : List Int} (h : Rd w (.slice (some ⟨g, off, none⟩) n c) (x :: xs)) (A' : Option Addr) (hA : 0 < xs.length → A' = some ⟨g, off + 1, none⟩) : Rd w (.slice A' (n - 1) (c - 1)) xs := by
  obtain ⟨A, c', hv, h2, h3, h4⟩ := h
  simp only [Value.slice.injEq] at hv
  obtain ⟨rfl, rfl, rfl⟩ := hv
  rw [List.length_cons] at h2 h4 ⊢
  refine ⟨A', c - 1, by simp, by omega, by omega, fun hp => ?_⟩
  obtain ⟨g', off', h5, h6, h7⟩ := h4 (by omega)
  simp only [Option.some.injEq, Addr.mk.injEq, and_true] at h5
  obtain ⟨rfl, rfl⟩ := h5
  refine ⟨g, off + 1, hA hp, h6, fun j hj => ?_⟩
  rw [show off + 1 + j = off + (j + 1) from by omega, h7 (j + 1) (by omega)]
  simp [List.getD]

/-- What rowsOf does, for all functions and all that holds between two rows. -/
def RowsOf (cols : List Int) : Prop := ∀ (F : FuncId) (C : Array Value) (M : Nat → Prop) (I : List (List Int) → World → Prop) (v : Value) (t : Int) (w : World),
  0 ≤ t → t ≤ 6 → Rd w v cols → (∀ g, v.ownBlock = some g → ¬ M g) → (∀ g, M g → g < w.heap.size) →
  (∀ (args : Array Value) (w : World), (callFunc F args).run Try.prog w = .ok (.enter F args) w) →
  (∀ D w w', I D w → Below w.heap.size w w' → I D w') →
  (∀ D row, (D ++ [row]) <+: rowsL cols t → ∀ (W : World) u, I D W → w.heap.size ≤ W.heap.size → RowV W u row → Calls Try.prog F (#[u] ++ C) W fun e w'' => e = .returned (.tuple #[]) ∧ I (D ++ [row]) w'' ∧ Kept M W w'') →
  I [] w → Calls Try.prog 67 #[.int .i64 t, v, .func (.func F) #[] C] w fun e w' => e = .returned (.tuple #[]) ∧ I (rowsL cols t) w' ∧ Kept M w w'

set_option maxHeartbeats 2000000 in
theorem rowsOf_nil : RowsOf [] := by
  intro F C M I v t w h0 h6 hr hv hM hcf hI hcall hw
  obtain ⟨A, c, rfl, hc, hm, -⟩ := hr
  obtain ⟨W, hW, hbW, hWs, hcb⟩ : ∃ W, w.alloc (.cells #[.func (.func F) #[] C] 70) = W ∧ Below w.heap.size w W ∧ W.heap.size = w.heap.size + 1 ∧ W.cell? ⟨w.heap.size, 0, none⟩ = some (.func (.func F) #[] C) :=
    ⟨_, rfl, by (repeat (first | exact Below.refl _ _ | assumption | refine Below.setCell ?_ (by first | (simp; done) | omega | (simp; omega) | (simp at *; omega)) _ | refine Below.drew ?_ | refine below_drewN ?_ _ | refine below_alloc' ?_ _ | refine below_to' ?_ (by assumption))), by simp, blkR_cell (heap_alloc_new w _) 0⟩
  have hIW := hI [] w W hw hbW
  have HK := hide (Kept.of (M := M) hbW)
  by_cases ht : t = 0
  · have hrow : rowsL [] t = [[]] := by rw [rowsL, if_pos ht]
    rw [hrow] at hcall ⊢
    have KC := hide (hcall [] [] (List.prefix_refl _) W (.slice none 0 0) hIW (by omega) (.inl ⟨rfl, rfl⟩))
    have htb : (t == 0) = true := by simp [ht]
    clear ht hrow hcall hI hw hIW hv hM
    go_enter Try.func67, Try.ntmps67
    go_wp2_with fail
    refine KC.out.mono ?_
    rintro e w2 ⟨rfl, h1, h2⟩
    have HX := hide (And.intro h1 h2)
    clear h1 h2
    go_wp2_with fail
    exact bodyPost_ret (v := .tuple #[]) (by simp [results, Try.results67, go_sem]) rfl ⟨rfl, HX.out.1, HK.out.trans HX.out.2⟩
  · have hrow : rowsL [] t = [] := by rw [rowsL, if_neg ht]
    rw [hrow]
    have htb : (t == 0) = false := by simp [ht]
    have HX := hide hIW
    clear ht hrow hcall hI hw hIW hv hM
    go_enter Try.func67, Try.ntmps67
    go_wp2_with fail
    exact bodyPost_ret (v := .tuple #[]) (by simp [results, Try.results67, go_sem]) rfl ⟨rfl, HX.out, HK.out⟩

theorem pre_next {cs : List Int} {t : Int} {k K : Nat} (hk : k < K) {D : List (List Int)} {row : List Int} (h : (D ++ [row]) <+: rowsL cs (t - k)) :
    (rowsTo cs t k ++ D.map (fun r => (k : Int) :: r)) ++ [(k : Int) :: row] <+: rowsTo cs t K := by
  have e : (rowsTo cs t k ++ D.map (fun r => (k : Int) :: r)) ++ [(k : Int) :: row] = rowsTo cs t k ++ (D ++ [row]).map (fun r => (k : Int) :: r) := by simp
  rw [e]
  refine List.IsPrefix.trans ?_ (rowsTo_mono cs t (show k + 1 ≤ K by omega))
  rw [rowsTo_succ]
  exact (List.prefix_append_right_inj _).2 (h.map _)
/-- What holds between two rows of one first number. -/
def Sub (I : List (List Int) → World → Prop) (cs : List Int) (t : Int) (k Bc b : Nat) (F : FuncId) (C : Array Value) (D : List (List Int)) (wz : World) : Prop :=
  I (rowsTo cs t k ++ D.map (fun r => (k : Int) :: r)) wz ∧ wz.heap[Bc]? = some (.cells #[.func (.func F) #[] C] 70 (0, 0)) ∧ wz.heap[b]? = some (.cells #[.int .i64 k] 3 (0, 0))

set_option maxHeartbeats 4000000 in
theorem rowsOf_cons {c : Int} {cs : List Int} (hc6 : 0 ≤ c ∧ c ≤ 6) (hl2 : cs.length ≤ 2) (ih : RowsOf cs) : RowsOf (c :: cs) := by
  intro F C M I v t w h0 h6 hr hv hM hcf hI hcall hw
  have hmf : ∀ (fn : Fn) (first cap : Array Value) (w : World), (Instr.makeFunc fn first cap).run Try.prog w = .ok (.func fn first cap) w := fun _ _ _ _ => rfl
  have HR := hide hr
  obtain ⟨A, cp, rfl, hcp, hm, hcell⟩ := hr
  obtain ⟨g, off, rfl, hg, hcl⟩ := hcell (by simp)
  have hck : w.cell? ⟨g, off, none⟩ = some (.int .i64 c) := by have := hcl 0 (by simp); simpa using this
  have hgM : ¬ M g := hv g rfl
  obtain ⟨N, hN⟩ : ∃ N, (c :: cs).length = N := ⟨_, rfl⟩
  have hN1 : N = cs.length + 1 := by rw [← hN, List.length_cons]
  rw [hN] at hcp HR ⊢
  rw [rowsL_cons] at hcall ⊢
  obtain ⟨K, hK⟩ : ∃ K, (min t c + 1).toNat = K := ⟨_, rfl⟩
  rw [hK] at hcall ⊢
  have HKK : Hid ((K : Int) = min t c + 1) := by show _ = _; omega
  obtain ⟨W1, hW1, hbW1, hWs1, hcb⟩ : ∃ W, w.alloc (.cells #[.func (.func F) #[] C] 70) = W ∧ Below w.heap.size w W ∧ W.heap.size = w.heap.size + 1 ∧ W.heap[w.heap.size]? = some (.cells #[.func (.func F) #[] C] 70 (0, 0)) :=
    ⟨_, rfl, by (repeat (first | exact Below.refl _ _ | assumption | refine Below.setCell ?_ (by first | (simp; done) | omega | (simp; omega) | (simp at *; omega)) _ | refine Below.drew ?_ | refine below_drewN ?_ _ | refine below_alloc' ?_ _ | refine below_to' ?_ (by assumption))), by simp, heap_alloc_new w _⟩
  have HCB := hide hcb
  have HI := hide hI
  have HC := hide hcall
  have HIH := hide ih
  have HMM := hide hM
  have HN1 := hide hN1
  have HCF := hide hcf
  have hi0 : (0 : Int) < (N : Int) := by omega
  have hN0 : ¬ (N : Int) = 0 := by omega
  have hNb : ((N : Int) == 0) = false := beq_eq_false_iff_ne.2 hN0
  have hbW1w := hbW1
  have hIW1 := hI [] w W1 hw hbW1
  have HIW := hide hIW1
  have hsz1 : w.heap.size < W1.heap.size := by omega
  have hsz2 : W1.heap.size ≤ w.heap.size + 1 := by omega
  clear hw hI hcall ih hM hcell hcl hv hIW1 hcb hN hN1 hK hcf hWs1
  by_cases hcp1 : cp = 1
  · subst hcp1
    go_enter Try.func67, Try.ntmps67
    go_wp2_with fail
    clear hW1
    obtain ⟨W2, hW2, hbW2, hWs2, hcv⟩ : ∃ W, W1.alloc (.cells #[.int .i64 0] 3) = W ∧ Below W1.heap.size W1 W ∧ W.heap.size = W1.heap.size + 1 ∧ W.heap[W1.heap.size]? = some (.cells #[.int .i64 0] 3 (0, 0)) :=
      ⟨_, rfl, by (repeat (first | exact Below.refl _ _ | assumption | refine Below.setCell ?_ (by first | (simp; done) | omega | (simp; omega) | (simp at *; omega)) _ | refine Below.drew ?_ | refine below_drewN ?_ _ | refine below_alloc' ?_ _ | refine below_to' ?_ (by assumption))), by simp, heap_alloc_new W1 _⟩
    have HST : Hid (W2.heap[W1.heap.size]? = some (.cells #[.int .i64 0] 3 (0, 0)) ∧ I [] W2 ∧ Kept M W1 W2) := ⟨hcv, HI.out [] W1 W2 HIW.out (hbW2.mono (by omega)), Kept.of hbW2⟩
    rw [hW2]
    clear hW2 hcv hWs2
    go_loopg [6] K (fun gk pv wr => ∃ (k b : Nat), pv = .pointer (some ⟨b, 0, none⟩) ∧ Hid (gk + k = K ∧ w.heap.size < b ∧ wr.heap[b]? = some (.cells #[.int .i64 k] 3 (0, 0)) ∧ I (rowsTo cs t k) wr ∧ Kept M W1 wr))
    case atStart => exact ⟨0, W1.heap.size, rfl, by omega, by omega, HST.out.1, HST.out.2.1, HST.out.2.2⟩
    case round =>
      obtain ⟨k, b, rfl, hwr⟩ := hrel
      have hkp := hwr.out.2.2.2.2
      have cv := blkR_cell hwr.out.2.2.1 0
      have hbl := blkR_lt hwr.out.2.2.1
      have hzr := hkp.1.size
      have cc := (hkp.cell (g := g) (o := off) (by omega) hgM).trans ((hbW1.cell (p := ⟨g, off, none⟩) hg).trans hck)
      have cv : wr.cell? ⟨b, 0, none⟩ = some (.int .i64 k) := cv
      have hgk := hwr.out.1
      by_cases hkK : k < K
      · have hle : (k : Int) ≤ t ∧ (k : Int) ≤ c := by have := HKK.out; omega
        obtain ⟨hkt, hkc⟩ := hle
        have HGK := hide hgk
        clear hgk
        have hcbr := (hkp.2 w.heap.size (by omega) (fun hm => by have := HMM.out _ hm; omega)).trans HCB.out
        have KSUB : Hid (∀ (A' : Option Addr) (n' cp' : Nat), n' = N - 1 → cp' = 1 - 1 → (0 < cs.length → A' = some ⟨g, off + 1, none⟩) → (∀ g', (Value.slice A' n' cp').ownBlock = some g' → g' = g) → ∀ w3, Below wr.heap.size wr w3 →
            Calls Try.prog 67 #[.int .i64 (t - (k : Int)), .slice A' n' cp', .func (.func 75) #[] #[.pointer (some ⟨w.heap.size, 0, none⟩), .pointer (some ⟨b, 0, none⟩)]] w3 fun e w' => e = .returned (.tuple #[]) ∧ I (rowsTo cs t (k + 1)) w' ∧ w'.heap[b]? = some (.cells #[.int .i64 k] 3 (0, 0)) ∧ Kept M w3 w') := by
          intro A' n' cp' hn' hcp' hA hb' w3 hb3
          subst hn' hcp'
          have hz3 := hb3.size
          have hw3 : Kept M w w3 := (Kept.of hbW1).trans (hkp.below hb3)
          have hr3 : Rd w3 (.slice (some ⟨g, off, none⟩) N 1) (c :: cs) := hw3.rd HR.out (fun g' hg' => by
            have : g = g' := by simpa [Value.ownBlock] using hg'
            subst this; exact hgM)
          have hnm : ∀ x, w.heap.size ≤ x → ¬ M x := fun x hx hm => by have := HMM.out x hm; omega
          have := HIH.out 75 #[.pointer (some ⟨w.heap.size, 0, none⟩), .pointer (some ⟨b, 0, none⟩)] M (Sub I cs t k w.heap.size b F C) (.slice A' (N - 1) (1 - 1)) (t - (k : Int)) w3 (by omega) (by omega) (hr3.tailR A' hA)
            (fun g' hg' => by rw [hb' g' hg']; exact hgM) (fun x hx => by have := HMM.out x hx; omega) callFuncRO ?_ ?_ ?_
          · refine this.mono ?_
            rintro e w' ⟨rfl, ⟨h1, h2, h3⟩, h4⟩
            rw [← rowsTo_succ] at h1
            exact ⟨rfl, h1, h3, h4⟩
          · rintro D wz wz' ⟨h1, h2, h3⟩ hb
            have hl := blkR_lt h2
            exact ⟨HI.out _ _ _ h1 (hb.mono (by omega)), (hb.block _ hl).trans h2, (hb.block _ (blkR_lt h3)).trans h3⟩
          · rintro D row hpre W u ⟨h1, h2, h3⟩ hW hrow
            have hmem : row ∈ rowsL cs (t - k) := hpre.subset (by simp)
            have hfl := (rowsL_fit hmem).len
            refine (rowsOf1_c F C u row k w.heap.size b W HCF.out hrow (by omega) (blkR_cell h2 0) (blkR_cell h3 0) (blkR_lt h2) (blkR_lt h3) (fun w'' => Sub I cs t k w.heap.size b F C (D ++ [row]) w'' ∧ Kept M W w'') (fun wz hz => ⟨blkR_cell hz.1.2.1 0, blkR_cell hz.1.2.2 0⟩) ?_).mono ?_
            · intro W2 u' hb2 hrow2
              have hz2 := hb2.size
              refine (HC.out _ _ (pre_next hkK hpre) W2 u' (HI.out _ _ _ h1 (hb2.mono (by omega))) (by omega) hrow2).mono ?_
              rintro e w'' ⟨rfl, q1, q2⟩
              refine ⟨rfl, ⟨?_, ?_, ?_⟩, (Kept.of hb2).trans q2⟩
              · have e2 : (rowsTo cs t k ++ D.map (fun r => (k : Int) :: r)) ++ [(k : Int) :: row] = rowsTo cs t k ++ (D ++ [row]).map (fun r => (k : Int) :: r) := by simp
                rw [← e2]
                exact q1
              · exact (q2.2 _ (by have := blkR_lt h2; omega) (hnm _ (Nat.le_refl _))).trans ((hb2.block _ (blkR_lt h2)).trans h2)
              · exact (q2.2 _ (by have := blkR_lt h3; omega) (hnm _ (by have := hwr.out.2.1; omega))).trans ((hb2.block _ (blkR_lt h3)).trans h3)
            · rintro e w'' ⟨rfl, q1, q2⟩
              exact ⟨rfl, q1, q2⟩
          · refine ⟨?_, (hb3.block _ (by omega)).trans hcbr, (hb3.block _ hbl).trans hwr.out.2.2.1⟩
            rw [List.map_nil, List.append_nil]
            exact HI.out _ _ _ hwr.out.2.2.2.1 (hb3.mono (by omega))
        by_cases htc : t ≤ c
        all_goals
          go_wp2_with fail
          go_quiet (fail)
          go_wp2_with fail
          obtain ⟨U, hU⟩ : ∃ U, wr.drewN nq = U := ⟨_, rfl⟩
          have hbU : Below wr.heap.size wr U := by rw [← hU]; exact below_drewN (Below.refl _ _) _
          have hUs : U.heap.size = wr.heap.size := by rw [← hU]; rfl
          rw [hU]
          clear hU
          have cvU := (hbU.cell (p := ⟨b, 0, none⟩) hbl).trans cv
          have k1 := cell_grn (Below.refl U.heap.size U) (show b < U.heap.size by omega) cvU
          have e1 : IntKind.i64.wrap (t - (k : Int)) = t - (k : Int) := IntWalk.i64_in _ (by omega)
          go_wp2_with fail
          refine wp_region_below_tail 6 (by kernel_rfl) (by kernel_rfl) ?_
          simp only [List.take_succ_cons, List.take_zero, List.drop_succ_cons, List.drop_zero]
          repeat (go_big_quiet_step (fail))
          refine wpQuiet_nil ?_
          intro w3 hb3
          clear k1 cvU e1
          go_wp2_with fail
          all_goals
            refine (KSUB.out _ _ _ (by omega) (by omega) (fun h0 => ?_) (fun g' hg' => ?_) w3 (hbU.trans (hb3.mono (by omega)))).mono ?_
            · first | rfl | (exfalso; have := HN1.out; omega)
            · simp [Value.ownBlock] at hg'
              first | exact hg'.symm | omega
            rintro e w4 ⟨rfl, q1, q2, q3⟩
            have cv4 : w4.cell? ⟨b, 0, none⟩ = some (.int .i64 k) := blkR_cell q2 0
            have HQ := hide (And.intro q1 q3)
            have hz4 := q3.1.size
            have hz3 := hb3.size
            have hb4 := blkR_lt q2
            clear q1 q2 q3
            go_wp2_with fail
            go_roundg (gk - 1)
            case measure => have := HGK.out; omega
            case rel =>
              have hb5 : Below w4.heap.size w4 (w4.alloc (.cells #[.int .i64 ((k : Int) + 1)] 3)) := (Below.refl _ _).alloc (Nat.le_refl _) _
              have e : ((k : Int) + 1) = ((k + 1 : Nat) : Int) := by omega
              refine ⟨k + 1, w4.heap.size, rfl, by have := HGK.out; omega, by omega, ?_, HI.out _ _ _ HQ.out.1 (hb5.mono (by omega)), (hkp.below (hbU.trans (hb3.mono (by omega)))).trans (HQ.out.2.below hb5)⟩
              rw [← e]
              exact heap_alloc_new w4 _
      · have HEND : Hid (I (rowsTo cs t K) wr ∧ Kept M w wr) := by
          have hkk : k = K := by omega
          have h := hwr.out.2.2.2.1
          rw [hkk] at h
          exact ⟨h, (Kept.of hbW1).trans hkp⟩
        have hnle : ¬ ((k : Int) ≤ t ∧ (k : Int) ≤ c) := by have := HKK.out; omega
        by_cases htc : t ≤ c
        · have hd : decide ((k : Int) ≤ t) = false := decide_eq_false (by omega)
          have hd2 : ¬ (k : Int) ≤ t := by omega
          clear hgk hwr hkK hnle
          go_wp2_with fail
          go_quiet (fail)
          go_wp2_with fail
          go_end0
          exact ⟨rfl, HI.out _ _ _ HEND.out.1 (below_drewN (Below.refl _ _) _), HEND.out.2.below (below_drewN (Below.refl _ _) _)⟩
        · have hd : decide ((k : Int) ≤ c) = false := decide_eq_false (by omega)
          have hd2 : ¬ (k : Int) ≤ c := by omega
          clear hgk hwr hkK hnle
          go_wp2_with fail
          go_quiet (fail)
          go_wp2_with fail
          go_end0
          exact ⟨rfl, HI.out _ _ _ HEND.out.1 (below_drewN (Below.refl _ _) _), HEND.out.2.below (below_drewN (Below.refl _ _) _)⟩
  · skip
    go_enter Try.func67, Try.ntmps67
    go_wp2_with fail
    clear hW1
    obtain ⟨W2, hW2, hbW2, hWs2, hcv⟩ : ∃ W, W1.alloc (.cells #[.int .i64 0] 3) = W ∧ Below W1.heap.size W1 W ∧ W.heap.size = W1.heap.size + 1 ∧ W.heap[W1.heap.size]? = some (.cells #[.int .i64 0] 3 (0, 0)) :=
      ⟨_, rfl, by (repeat (first | exact Below.refl _ _ | assumption | refine Below.setCell ?_ (by first | (simp; done) | omega | (simp; omega) | (simp at *; omega)) _ | refine Below.drew ?_ | refine below_drewN ?_ _ | refine below_alloc' ?_ _ | refine below_to' ?_ (by assumption))), by simp, heap_alloc_new W1 _⟩
    have HST : Hid (W2.heap[W1.heap.size]? = some (.cells #[.int .i64 0] 3 (0, 0)) ∧ I [] W2 ∧ Kept M W1 W2) := ⟨hcv, HI.out [] W1 W2 HIW.out (hbW2.mono (by omega)), Kept.of hbW2⟩
    rw [hW2]
    clear hW2 hcv hWs2
    go_loopg [6] K (fun gk pv wr => ∃ (k b : Nat), pv = .pointer (some ⟨b, 0, none⟩) ∧ Hid (gk + k = K ∧ w.heap.size < b ∧ wr.heap[b]? = some (.cells #[.int .i64 k] 3 (0, 0)) ∧ I (rowsTo cs t k) wr ∧ Kept M W1 wr))
    case atStart => exact ⟨0, W1.heap.size, rfl, by omega, by omega, HST.out.1, HST.out.2.1, HST.out.2.2⟩
    case round =>
      obtain ⟨k, b, rfl, hwr⟩ := hrel
      have hkp := hwr.out.2.2.2.2
      have cv := blkR_cell hwr.out.2.2.1 0
      have hbl := blkR_lt hwr.out.2.2.1
      have hzr := hkp.1.size
      have cc := (hkp.cell (g := g) (o := off) (by omega) hgM).trans ((hbW1.cell (p := ⟨g, off, none⟩) hg).trans hck)
      have cv : wr.cell? ⟨b, 0, none⟩ = some (.int .i64 k) := cv
      have hgk := hwr.out.1
      by_cases hkK : k < K
      · have hle : (k : Int) ≤ t ∧ (k : Int) ≤ c := by have := HKK.out; omega
        obtain ⟨hkt, hkc⟩ := hle
        have HGK := hide hgk
        clear hgk
        have hcbr := (hkp.2 w.heap.size (by omega) (fun hm => by have := HMM.out _ hm; omega)).trans HCB.out
        have KSUB : Hid (∀ (A' : Option Addr) (n' cp' : Nat), n' = N - 1 → cp' = cp - 1 → (0 < cs.length → A' = some ⟨g, off + 1, none⟩) → (∀ g', (Value.slice A' n' cp').ownBlock = some g' → g' = g) → ∀ w3, Below wr.heap.size wr w3 →
            Calls Try.prog 67 #[.int .i64 (t - (k : Int)), .slice A' n' cp', .func (.func 75) #[] #[.pointer (some ⟨w.heap.size, 0, none⟩), .pointer (some ⟨b, 0, none⟩)]] w3 fun e w' => e = .returned (.tuple #[]) ∧ I (rowsTo cs t (k + 1)) w' ∧ w'.heap[b]? = some (.cells #[.int .i64 k] 3 (0, 0)) ∧ Kept M w3 w') := by
          intro A' n' cp' hn' hcp' hA hb' w3 hb3
          subst hn' hcp'
          have hz3 := hb3.size
          have hw3 : Kept M w w3 := (Kept.of hbW1).trans (hkp.below hb3)
          have hr3 : Rd w3 (.slice (some ⟨g, off, none⟩) N cp) (c :: cs) := hw3.rd HR.out (fun g' hg' => by
            have : g = g' := by simpa [Value.ownBlock] using hg'
            subst this; exact hgM)
          have hnm : ∀ x, w.heap.size ≤ x → ¬ M x := fun x hx hm => by have := HMM.out x hm; omega
          have := HIH.out 75 #[.pointer (some ⟨w.heap.size, 0, none⟩), .pointer (some ⟨b, 0, none⟩)] M (Sub I cs t k w.heap.size b F C) (.slice A' (N - 1) (cp - 1)) (t - (k : Int)) w3 (by omega) (by omega) (hr3.tailR A' hA)
            (fun g' hg' => by rw [hb' g' hg']; exact hgM) (fun x hx => by have := HMM.out x hx; omega) callFuncRO ?_ ?_ ?_
          · refine this.mono ?_
            rintro e w' ⟨rfl, ⟨h1, h2, h3⟩, h4⟩
            rw [← rowsTo_succ] at h1
            exact ⟨rfl, h1, h3, h4⟩
          · rintro D wz wz' ⟨h1, h2, h3⟩ hb
            have hl := blkR_lt h2
            exact ⟨HI.out _ _ _ h1 (hb.mono (by omega)), (hb.block _ hl).trans h2, (hb.block _ (blkR_lt h3)).trans h3⟩
          · rintro D row hpre W u ⟨h1, h2, h3⟩ hW hrow
            have hmem : row ∈ rowsL cs (t - k) := hpre.subset (by simp)
            have hfl := (rowsL_fit hmem).len
            refine (rowsOf1_c F C u row k w.heap.size b W HCF.out hrow (by omega) (blkR_cell h2 0) (blkR_cell h3 0) (blkR_lt h2) (blkR_lt h3) (fun w'' => Sub I cs t k w.heap.size b F C (D ++ [row]) w'' ∧ Kept M W w'') (fun wz hz => ⟨blkR_cell hz.1.2.1 0, blkR_cell hz.1.2.2 0⟩) ?_).mono ?_
            · intro W2 u' hb2 hrow2
              have hz2 := hb2.size
              refine (HC.out _ _ (pre_next hkK hpre) W2 u' (HI.out _ _ _ h1 (hb2.mono (by omega))) (by omega) hrow2).mono ?_
              rintro e w'' ⟨rfl, q1, q2⟩
              refine ⟨rfl, ⟨?_, ?_, ?_⟩, (Kept.of hb2).trans q2⟩
              · have e2 : (rowsTo cs t k ++ D.map (fun r => (k : Int) :: r)) ++ [(k : Int) :: row] = rowsTo cs t k ++ (D ++ [row]).map (fun r => (k : Int) :: r) := by simp
                rw [← e2]
                exact q1
              · exact (q2.2 _ (by have := blkR_lt h2; omega) (hnm _ (Nat.le_refl _))).trans ((hb2.block _ (blkR_lt h2)).trans h2)
              · exact (q2.2 _ (by have := blkR_lt h3; omega) (hnm _ (by have := hwr.out.2.1; omega))).trans ((hb2.block _ (blkR_lt h3)).trans h3)
            · rintro e w'' ⟨rfl, q1, q2⟩
              exact ⟨rfl, q1, q2⟩
          · refine ⟨?_, (hb3.block _ (by omega)).trans hcbr, (hb3.block _ hbl).trans hwr.out.2.2.1⟩
            rw [List.map_nil, List.append_nil]
            exact HI.out _ _ _ hwr.out.2.2.2.1 (hb3.mono (by omega))
        by_cases htc : t ≤ c
        all_goals
          go_wp2_with fail
          go_quiet (fail)
          go_wp2_with fail
          obtain ⟨U, hU⟩ : ∃ U, wr.drewN nq = U := ⟨_, rfl⟩
          have hbU : Below wr.heap.size wr U := by rw [← hU]; exact below_drewN (Below.refl _ _) _
          have hUs : U.heap.size = wr.heap.size := by rw [← hU]; rfl
          rw [hU]
          clear hU
          have cvU := (hbU.cell (p := ⟨b, 0, none⟩) hbl).trans cv
          have k1 := cell_grn (Below.refl U.heap.size U) (show b < U.heap.size by omega) cvU
          have e1 : IntKind.i64.wrap (t - (k : Int)) = t - (k : Int) := IntWalk.i64_in _ (by omega)
          go_wp2_with fail
          refine wp_region_below_tail 6 (by kernel_rfl) (by kernel_rfl) ?_
          simp only [List.take_succ_cons, List.take_zero, List.drop_succ_cons, List.drop_zero]
          repeat (go_big_quiet_step (fail))
          refine wpQuiet_nil ?_
          intro w3 hb3
          clear k1 cvU e1
          go_wp2_with fail
          all_goals
            refine (KSUB.out _ _ _ (by omega) (by omega) (fun h0 => ?_) (fun g' hg' => ?_) w3 (hbU.trans (hb3.mono (by omega)))).mono ?_
            · first | rfl | (exfalso; have := HN1.out; omega)
            · simp [Value.ownBlock] at hg'
              first | exact hg'.symm | omega
            rintro e w4 ⟨rfl, q1, q2, q3⟩
            have cv4 : w4.cell? ⟨b, 0, none⟩ = some (.int .i64 k) := blkR_cell q2 0
            have HQ := hide (And.intro q1 q3)
            have hz4 := q3.1.size
            have hz3 := hb3.size
            have hb4 := blkR_lt q2
            clear q1 q2 q3
            go_wp2_with fail
            go_roundg (gk - 1)
            case measure => have := HGK.out; omega
            case rel =>
              have hb5 : Below w4.heap.size w4 (w4.alloc (.cells #[.int .i64 ((k : Int) + 1)] 3)) := (Below.refl _ _).alloc (Nat.le_refl _) _
              have e : ((k : Int) + 1) = ((k + 1 : Nat) : Int) := by omega
              refine ⟨k + 1, w4.heap.size, rfl, by have := HGK.out; omega, by omega, ?_, HI.out _ _ _ HQ.out.1 (hb5.mono (by omega)), (hkp.below (hbU.trans (hb3.mono (by omega)))).trans (HQ.out.2.below hb5)⟩
              rw [← e]
              exact heap_alloc_new w4 _
      · have HEND : Hid (I (rowsTo cs t K) wr ∧ Kept M w wr) := by
          have hkk : k = K := by omega
          have h := hwr.out.2.2.2.1
          rw [hkk] at h
          exact ⟨h, (Kept.of hbW1).trans hkp⟩
        have hnle : ¬ ((k : Int) ≤ t ∧ (k : Int) ≤ c) := by have := HKK.out; omega
        by_cases htc : t ≤ c
        · have hd : decide ((k : Int) ≤ t) = false := decide_eq_false (by omega)
          have hd2 : ¬ (k : Int) ≤ t := by omega
          clear hgk hwr hkK hnle
          go_wp2_with fail
          go_quiet (fail)
          go_wp2_with fail
          go_end0
          exact ⟨rfl, HI.out _ _ _ HEND.out.1 (below_drewN (Below.refl _ _) _), HEND.out.2.below (below_drewN (Below.refl _ _) _)⟩
        · have hd : decide ((k : Int) ≤ c) = false := decide_eq_false (by omega)
          have hd2 : ¬ (k : Int) ≤ c := by omega
          clear hgk hwr hkK hnle
          go_wp2_with fail
          go_quiet (fail)
          go_wp2_with fail
          go_end0
          exact ⟨rfl, HI.out _ _ _ HEND.out.1 (below_drewN (Below.refl _ _) _), HEND.out.2.below (below_drewN (Below.refl _ _) _)⟩

theorem rowsOf_c : ∀ {cols : List Int}, allB 0 6 cols = true → cols.length ≤ 3 → RowsOf cols
  | [], _, _ => rowsOf_nil
  | c :: cs, h, hl => rowsOf_cons (allB_iff.1 h c (by simp)) (by simpa using hl) (rowsOf_c (allB_sub h fun y hy => List.mem_cons_of_mem _ hy) (by simp at hl; omega))
end Go.Proofs.Ytgageljahebjnaa
