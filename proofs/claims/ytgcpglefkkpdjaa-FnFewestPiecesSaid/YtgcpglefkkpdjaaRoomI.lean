/-
  Contracts: RoomTried of the program; the statement FnExactRoomTried.
-/
import Derived.Test.YtgcpglefkkpdjaaCuts
import Derived.Test.YtgcpglefkkpdjaaRoomS
import Derived.Test.YtgcpglefkkpdjaaLR
namespace Go.Proofs.Ytgcpglefkkpdjaa
open Go.RowKit

theorem blk_cell' {w : World} {g : Nat} {t : TypeId} {cs : Array Value} (h : w.heap[g]? = some (.cells cs t (0, 0))) (i : Nat) : w.cell? ⟨g, i, none⟩ = cs[i]? := cell_of_row w g i cs t (0, 0) h
theorem blk_frozen' {w : World} {g : Nat} {t : TypeId} {cs : Array Value} (h : w.heap[g]? = some (.cells cs t (0, 0))) (i : Nat) : w.frozen? ⟨g, i, none⟩ = false := by simp [World.frozen?, h]
theorem blk_set' {w : World} {g : Nat} {t : TypeId} {cs : Array Value} (h : w.heap[g]? = some (.cells cs t (0, 0))) (i : Nat) (u : Value) : (w.setCell ⟨g, i, none⟩ u).heap[g]? = some (.cells (cs.setIfInBounds i u) t (0, 0)) := by
  simp [World.setCell, Array.getElem?_modify, h]
theorem blk_lt' {w : World} {g : Nat} {o : Obj} (h : w.heap[g]? = some o) : g < w.heap.size := (Array.getElem?_eq_some_iff.1 h).1
theorem mxs_take {xss : List (List Int)} {k : Nat} (hk : k < xss.length) : mxs (xss.take (k + 1)) = max (mxs (xss.take k)) (maxL xss[k] - minL xss[k]) := by
  rw [List.take_succ_eq_append_getElem hk, mxs_snoc]

/-- The world behind one trial. -/
def triedW (w : World) (Bb : Nat) (n p b m : Int) : World := if n ≤ p then w.setCell ⟨Bb, 0, none⟩ (.int .i64 (min b m)) else w

set_option maxHeartbeats 1000000 in
theorem roomTried1_c (u : Value) (xss : List (List Int)) (p b : Int) (Bp Bb : Nat) (w : World) (hr : RdSS w u xss) (hp : w.heap[Bp]? = some (.cells #[.int .i64 p] 3 (0, 0))) (hb : w.heap[Bb]? = some (.cells #[.int .i64 b] 3 (0, 0)))
    (hne : ∀ l ∈ xss, l ≠ [] ∧ allB (-30) 30 l = true) :
    Calls Try.prog 54 #[u, .pointer (some ⟨Bp, 0, none⟩), .pointer (some ⟨Bb, 0, none⟩)] w fun e w' => e = .returned (.tuple #[]) ∧
      w' = triedW w Bb xss.length p b (mxs xss) := by
  obtain ⟨A, c, rfl, hc, hm, hcell⟩ := hr
  have cp : w.cell? ⟨Bp, 0, none⟩ = some (.int .i64 p) := blk_cell' hp 0
  have cb : w.cell? ⟨Bb, 0, none⟩ = some (.int .i64 b) := blk_cell' hb 0
  have fb : w.frozen? ⟨Bb, 0, none⟩ = false := blk_frozen' hb 0
  have HN := hide hne
  clear hne hp hb
  go_enter Try.func54, Try.ntmps54
  go_wp2_with fail
  go_loop [4, 9] (fun m i => ∃ k : Nat, k ≤ xss.length ∧ i = .int .i64 k ∧ m = .int .i64 (mxs (xss.take k))) (fun _ i => xss.length - (intOf i).toNat)
  case atStart => exact ⟨0, by omega, rfl, by simp [mxs]⟩
  case round =>
    obtain ⟨k, hk, rfl, rfl⟩ := hrel
    by_cases hlt : k < xss.length
    · obtain ⟨g, off, rfl, hg, hcl⟩ := hcell (by omega)
      obtain ⟨x, hx, hrx⟩ := hcl k hlt
      obtain ⟨hl, hal⟩ := HN.out xss[k] (List.getElem_mem hlt)
      have hgd : xss.getD k [] = xss[k] := by simp [List.getD, hlt]
      rw [hgd] at hrx
      have hpos : 0 < xss[k].length := by cases h : xss[k] with
        | nil => exact absurd h hl
        | cons a b => simp
      have hbd := minL_bounds hal hl
      have HS := hide (mxs_take hlt)
      have HA := hide (allB_iff.2 fun y hy => by have := allB_iff.1 hal y hy; show (-1000 : Int) ≤ y ∧ y ≤ 1000; omega)
      clear hcl hcell hgd hal hl
      go_wp2_with fail
      refine (spread_c x _ _ hrx hpos HA.out).mono ?_
      rintro e w1 ⟨rfl, rfl⟩
      go_wp2_with fail
      go_round
      case rel => exact ⟨k + 1, by omega, by go_num, by rw [HS.out, max_if]⟩
      case measure => simp [intOf]; omega
    · obtain rfl : k = xss.length := by omega
      have htk : xss.take xss.length = xss := List.take_length
      rw [htk]
      clear htk hcell
      by_cases hle : (xss.length : Int) ≤ p
      · go_wp2_with fail
        all_goals
          go_end0
          refine ⟨rfl, ?_⟩
          rw [triedW, if_pos hle]
          congr 2
          omega
      · go_wp2_with fail
        go_end0
        refine ⟨rfl, ?_⟩
        rw [triedW, if_neg (Int.not_le.2 hle)]

/-- What holds between two trials. -/
structure Trying (W : World) (xs : List Int) (p : Int) (Bp Bb : Nat) (s : Nat) (w : World) : Prop where
  hp : w.heap[Bp]? = some (.cells #[.int .i64 p] 3 (0, 0))
  hb : w.heap[Bb]? = some (.cells #[.int .i64 (bst xs p s)] 3 (0, 0))
  below : Below W.heap.size W w
theorem Trying.later {W : World} {xs : List Int} {p : Int} {Bp Bb s : Nat} {w w' : World} (h : Trying W xs p Bp Bb s w) (hb : Below w.heap.size w w') : Trying W xs p Bp Bb s w' :=
  ⟨(hb.block _ (blk_lt' h.hp)).trans h.hp, (hb.block _ (blk_lt' h.hb)).trans h.hb, below_to' h.below hb⟩

theorem callFunc54 (args : Array Value) (w : World) : (callFunc 54 args).run Try.prog w = .ok (.enter 54 args) w := by kernel_rfl

set_option maxHeartbeats 1000000 in
theorem RoomTriedI_c (v : Value) (xs : List Int) (p : Int) (w : World) (hr : Rd w v xs) :
    Calls Try.prog 26 #[v, .int .i64 p] w fun e w' => ∃ r : Int, e = .returned (.int .i64 r) ∧ ResRT xs p r ∧ Below w.heap.size w w' := by
  have hmf : ∀ (fn : Fn) (first cap : Array Value) (w : World), (Instr.makeFunc fn first cap).run Try.prog w = .ok (.func fn first cap) w := fun _ _ _ _ => rfl
  by_cases hc : okSteps xs = true ∧ 1 ≤ p ∧ p ≤ 8
  · obtain ⟨hok, hp1, hp2⟩ := hc
    have HO := hide hok
    obtain ⟨hall, hl1, hl2⟩ := okSteps_all hok
    have HA := hide hall
    have hbb := bst_bounds (p := p) hall hl1
    have HR : Hid (ResRT xs p (bst xs p (2 ^ (xs.length - 1)))) := by
      show ResRT _ _ _
      unfold ResRT
      rw [if_pos ⟨hok, hp1, hp2⟩]
      exact ⟨bst_IsRT hl1 hp1, hbb _⟩
    have HS : Hid (maxL xs - minL xs = bst xs p 0) := rfl
    have HPA : Hid (∀ s, ∀ l ∈ partsOf xs s, l ≠ [] ∧ allB (-30) 30 l = true) := fun s l hl => ⟨parts_ne xs s l hl, allB_sub hall fun y hy => by
      rw [← partsOf_flat xs s]; exact List.mem_flatten.2 ⟨l, hl, hy⟩⟩
    clear hok hall hbb
    go_enter Try.func26, Try.ntmps26
    go_wp2_with fail
    refine (cutValid_c v xs p true _ (hr.alloc _) (by rw [HO.out]; simp; omega)).mono ?_
    rintro e w1 ⟨rfl, hb1⟩
    have hz1 := hb1.size
    have hz1' : w.heap.size < w1.heap.size := by simp at hz1; omega
    go_wp2_with fail
    refine (spread_c v xs _ (Rd.below hr (by (repeat (first | exact Below.refl _ _ | assumption | refine Below.setCell ?_ (by first | (simp; done) | omega | (simp; omega) | (simp at *; omega)) _ | refine Below.drew ?_ | refine below_drewN ?_ _ | refine below_alloc' ?_ _ | refine below_to' ?_ (by assumption))))) hl1 (allB_wide HA.out)).mono ?_
    rintro e w2 ⟨rfl, rfl⟩
    rw [HS.out]
    go_wp2_with fail
    refine (cuts_c 54 _ (Trying w xs p w.heap.size w1.heap.size) v xs _ hl1 hl2 callFunc54 (fun s w w' h hb => h.later hb) (fun s w' h => hr.below h.below) ?hcall ?hw).mono ?_
    case hw =>
      refine ⟨?_, heap_alloc_new w1 _, (by (repeat (first | exact Below.refl _ _ | assumption | refine Below.setCell ?_ (by first | (simp; done) | omega | (simp; omega) | (simp at *; omega)) _ | refine Below.drew ?_ | refine below_drewN ?_ _ | refine below_alloc' ?_ _ | refine below_to' ?_ (by assumption))))⟩
      rw [Below.heap_alloc _ _ _ hz1', hb1.block _ (by simp)]
      exact heap_alloc_new w _
    case hcall =>
      intro s w' u hs hI hrs
      refine (roomTried1_c u _ p _ w.heap.size w1.heap.size w' hrs hI.hp hI.hb (HPA.out s)).mono ?_
      rintro e w2 ⟨rfl, rfl⟩
      refine ⟨rfl, ?_⟩
      unfold triedW
      split
      · next hle =>
        refine ⟨(Below.heap_setCell _ _ _ _ (by show w.heap.size ≠ w1.heap.size; omega)).trans hI.hp, ?_, hI.below.setCell (by show w.heap.size ≤ w1.heap.size; omega) _⟩
        have := blk_set' hI.hb 0 (.int .i64 (min (bst xs p s) (mxs (partsOf xs s))))
        rw [this]
        simp [bst, hle]
      · next hle =>
        refine ⟨hI.hp, ?_, hI.below⟩
        rw [hI.hb]
        simp [bst, hle]
    rintro e w3 ⟨rfl, hI⟩
    have hcb : w3.cell? ⟨w1.heap.size, 0, none⟩ = some (.int .i64 (bst xs p (2 ^ (xs.length - 1)))) := blk_cell' hI.hb 0
    have hbel := hI.below
    clear hI
    go_wp2_with fail
    go_ret
    exact ⟨_, rfl, HR.out, hbel⟩
  · have HR := hide (ResRT.no hc)
    have HC : Hid ((okSteps xs && (decide (1 ≤ p) && decide (p ≤ 8))) = false) := by
      show _ = _
      cases h : okSteps xs
      · rfl
      · simp; intro h1; rcases Int.lt_or_le 8 p with h2 | h2
        · exact h2
        · exact absurd ⟨h, h1, h2⟩ hc
    clear hc
    go_enter Try.func26, Try.ntmps26
    go_wp2_with fail
    refine (cutValid_c v xs p false _ (hr.alloc _) HC.out).mono ?_
    rintro e w1 ⟨rfl, hb1⟩
    go_wp2_with fail
    go_ret
    exact ⟨_, rfl, HR.out, (by (repeat (first | exact Below.refl _ _ | assumption | refine Below.setCell ?_ (by first | (simp; done) | omega | (simp; omega) | (simp at *; omega)) _ | refine Below.drew ?_ | refine below_drewN ?_ _ | refine below_alloc' ?_ _ | refine below_to' ?_ (by assumption))))⟩

set_option maxHeartbeats 1000000 in
theorem FnExactRoomTried_c (v : Value) (xs : List Int) (p : Int) (w : World) (hr : Rd w v xs) :
    Calls Try.prog 6 #[v, .int .i64 p] w fun e w' => e = .returned (.bool true) ∧ Below w.heap.size w w' := by
  have hr' := hr
  obtain ⟨A, c, rfl, hc, hm, _⟩ := hr
  by_cases hl : 1048576 < xs.length
  · go_enter Try.func6, Try.ntmps6
    go_wp2
    go_ret
    exact ⟨rfl, Below.refl _ _⟩
  · go_enter Try.func6, Try.ntmps6
    go_wp2_with fail
    refine (toIntS_c _ xs _ hr' (by omega)).mono ?_
    rintro e w1 ⟨v1, rfl, hs1, hb1⟩
    go_wp2_with fail
    refine (RoomTriedS_c _ xs p _ hs1.rd).mono ?_
    rintro e w2 ⟨r, rfl, hres, hb2⟩
    have HR := hide hres
    clear hres
    go_wp2_with fail
    refine (toIntS_c _ xs _ (Rd.below hr' (by (repeat (first | exact Below.refl _ _ | assumption | refine Below.setCell ?_ (by first | (simp; done) | omega | (simp; omega) | (simp at *; omega)) _ | refine Below.drew ?_ | refine below_drewN ?_ _ | refine below_alloc' ?_ _ | refine below_to' ?_ (by assumption))))) (by omega)).mono ?_
    rintro e w3 ⟨x0, rfl, hs3, hb3⟩
    go_wp2_with fail
    refine (RoomTriedI_c _ xs p _ hs3.rd).mono ?_
    rintro e w4 ⟨r', rfl, hres, hb4⟩
    obtain rfl := hres.eq HR.out
    clear hres
    go_wp2_with fail
    refine (toIntS_c _ xs _ (Rd.below hr' (by (repeat (first | exact Below.refl _ _ | assumption | refine Below.setCell ?_ (by first | (simp; done) | omega | (simp; omega) | (simp at *; omega)) _ | refine Below.drew ?_ | refine below_drewN ?_ _ | refine below_alloc' ?_ _ | refine below_to' ?_ (by assumption))))) (by omega)).mono ?_
    rintro e w6 ⟨v6, rfl, hs6, hb6⟩
    go_wp2_with fail
    refine (eqIntS_c _ _ xs xs true _ (Rd.below hs3.rd (by (repeat (first | exact Below.refl _ _ | assumption | refine Below.setCell ?_ (by first | (simp; done) | omega | (simp; omega) | (simp at *; omega)) _ | refine Below.drew ?_ | refine below_drewN ?_ _ | refine below_alloc' ?_ _ | refine below_to' ?_ (by assumption))))) hs6.rd (by simp)).mono ?_
    rintro e w7 ⟨rfl, hb7⟩
    go_wp2_with fail
    go_ret
    refine ⟨rfl, ?_⟩
    (repeat (first | exact Below.refl _ _ | assumption | refine Below.setCell ?_ (by first | (simp; done) | omega | (simp; omega) | (simp at *; omega)) _ | refine Below.drew ?_ | refine below_drewN ?_ _ | refine below_alloc' ?_ _ | refine below_to' ?_ (by assumption)))
end Go.Proofs.Ytgcpglefkkpdjaa
