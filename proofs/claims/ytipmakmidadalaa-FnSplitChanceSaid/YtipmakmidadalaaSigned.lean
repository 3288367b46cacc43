/-
  Contracts: SignedRanks of the program and of its reference: both are the sums of twice the ranks of the numbers above 0, and of those below 0.
-/
import Derived.Test.YtipmakmidadalaaRank
import Derived.Deep.RegionLaw
namespace Go.Proofs.Ytipmakmidadalaa
open Go.RowKit

/-- The numbers that are not 0; their sizes. -/
def nzL (xs : List Int) : List Int := xs.filter fun x => decide (x ≠ 0)
def absL (xs : List Int) : List Int := (nzL xs).map fun x => max x (-x)
theorem nzL_take_in {xs : List Int} {k : Nat} (hk : k < xs.length) (h : xs[k] ≠ 0) : nzL (xs.take (k + 1)) = nzL (xs.take k) ++ [xs[k]] := by
  rw [List.take_succ_eq_append_getElem hk, nzL, List.filter_append]; simp [nzL, h]
theorem nzL_take_out {xs : List Int} {k : Nat} (hk : k < xs.length) (h : xs[k] = 0) : nzL (xs.take (k + 1)) = nzL (xs.take k) := by
  rw [List.take_succ_eq_append_getElem hk, nzL, List.filter_append]; simp [nzL, h]
theorem absL_take_in {xs : List Int} {k : Nat} (hk : k < xs.length) (h : xs[k] ≠ 0) : absL (xs.take (k + 1)) = absL (xs.take k) ++ [max xs[k] (-xs[k])] := by
  rw [absL, nzL_take_in hk h, List.map_append]; rfl
theorem absL_take_out {xs : List Int} {k : Nat} (hk : k < xs.length) (h : xs[k] = 0) : absL (xs.take (k + 1)) = absL (xs.take k) := by
  rw [absL, nzL_take_out hk h]; rfl
theorem nzL_len (xs : List Int) : (nzL xs).length ≤ xs.length := List.length_filter_le _ _
theorem absL_len (xs : List Int) : (absL xs).length = (nzL xs).length := by simp [absL]

/-- The sum of those of the rs, up to k, whose mate in ss is above 0 (or not). -/
def partUp (p : Bool) (ss rs : List Int) (k : Nat) : Int := sumL (((ss.zip rs).take k).map fun q => if decide (0 < q.1) = p then q.2 else 0)
theorem partUp_zero (p : Bool) (ss rs : List Int) : partUp p ss rs 0 = 0 := by simp [partUp, sumL]
theorem partUp_succ (p : Bool) {ss rs : List Int} {k : Nat} (h1 : k < ss.length) (h2 : k < rs.length) : partUp p ss rs (k + 1) = partUp p ss rs k + if decide (0 < ss[k]) = p then rs[k] else 0 := by
  have hk : k < (ss.zip rs).length := by rw [List.length_zip]; omega
  simp only [partUp]
  rw [List.take_succ_eq_append_getElem hk, List.map_append, List.map_singleton, sumL_snoc, List.getElem_zip]
theorem partUp_bd (p : Bool) {m : Int} {ss rs : List Int} (h : ∀ r ∈ rs, 0 ≤ r ∧ r ≤ m) (hm : 0 ≤ m) (hl : ss.length = rs.length) : ∀ k : Nat, 0 ≤ partUp p ss rs k ∧ partUp p ss rs k ≤ m * k := by
  intro k
  induction k with
  | zero => simp [partUp_zero]
  | succ k ih =>
    have e : m * ((k + 1 : Nat) : Int) = m * k + m := by rw [Int.natCast_add, Int.mul_add]; simp
    rw [e]
    by_cases hk : k < ss.length
    · have h2 : k < rs.length := by omega
      rw [partUp_succ p hk h2]
      have := h _ (List.getElem_mem h2)
      split <;> omega
    · have hz : (ss.zip rs).length ≤ k := by rw [List.length_zip]; omega
      have : partUp p ss rs (k + 1) = partUp p ss rs k := by simp only [partUp]; rw [List.take_of_length_le hz, List.take_of_length_le (by omega)]
      omega
/-- Both sums. -/
def signedUp (p : Bool) (xs : List Int) : Int := if okData xs then partUp p (nzL xs) (rankL (absL xs)) (nzL xs).length else -1

theorem sgn_pos (x : Int) : (0 < sgn x) ↔ 0 < x := by unfold sgn; split <;> (try split) <;> omega
theorem partUp_sgn (p : Bool) (ss rs : List Int) (k : Nat) : partUp p (ss.map sgn) rs k = partUp p ss rs k := by
  simp only [partUp]
  rw [List.zip_map_left, ← List.map_take, List.map_map]
  congr 1
  apply List.map_congr_left
  intro q _
  simp [sgn_pos]

/-- Two slices of the call's own do not share a block. -/
def Apart (s z : Value) : Prop := ∀ g, s.ownBlock = some g → z.ownBlock ≠ some g
theorem Apart.symm {s z : Value} (h : Apart s z) : Apart z s := fun g hz hs => h g hs hz
theorem Apart.grow {s s' z : Value} {n : Nat} (h : Apart s z) (hs : s'.ownBlock = s.ownBlock ∨ s'.ownBlock = some n) (hz : ∀ g, z.ownBlock = some g → g < n) : Apart s' z := by
  intro g hg hzg
  rcases hs with e | e
  · exact h g (e ▸ hg) hzg
  · have := hz g hzg
    rw [e] at hg
    simp at hg
    omega
theorem Apart.ne {s z : Value} (h : Apart s z) : z.ownBlock = none ∨ z.ownBlock ≠ s.ownBlock := by
  cases hz : z.ownBlock with
  | none => exact .inl rfl
  | some g => exact .inr fun e => h g e.symm hz

/-- append(out, x) as one step of a region that draws. -/
theorem step_push_int {P : Program} {e t : TypeId} (w : World) {ops : Array Oper} {o : Oper} {a : Act} {K : Act → World → Prop} {Q : Exit → Act → World → Prop} {Els : Prop} (hg : o.guard = none) (s x : Operand)
    (ho : o.op = .call { callee := .builtin .append, args := #[s, x], argTypes := #[t, t] }) (E : IntsOf P t e) (B : Nat) (v : Value) (xs : List Int) (u : Int) (e' : TypeId) (c : Nat)
    (hs : a.eval s = v) (hx : a.eval x = .slice (some ⟨w.heap.size, 0, none⟩) 1 c) (hown : Own w B e v xs) (hB : B ≤ w.heap.size) (hn : xs.length ≤ 1000000000)
    (hK : ∀ v' w', Own w' B e v' (xs ++ [u]) → Below B w w' → w.grownBy w' v.ownBlock → (v'.ownBlock = v.ownBlock ∨ v'.ownBlock = some (w.heap.size + 1)) → w.heap.size < w'.heap.size → K (a.put o.dst v') w') :
    if Region.wanted o (yielded ops a.tmps) = true then Oper.wp P o a (w.alloc (.cells #[.int .i64 u] e')) K Q else Els := by
  have hw : Region.wanted o (yielded ops a.tmps) = true := by simp [Region.wanted, hg]
  rw [if_pos hw]
  obtain ⟨i0, hi, hz0, hz1, hz2⟩ := info_parts E.info
  obtain ⟨v', w', hrun, h1, h2, h3, h4⟩ := run_append_own_at (P := P) (w.alloc (.cells #[.int .i64 u] e')) B t o.type e i0 (.int .i64 0) 1 8 E.slice hi hz0 hz1 hz2 rfl (by decide) v xs.length (xs.map (Value.int .i64)) (hown.alloc _)
    ⟨w.heap.size, 0, none⟩ 1 c [.int .i64 u] rfl (by
      intro j y hj
      match j, hj with
      | 0, hj => simp at hj; subst hj; rw [show (⟨w.heap.size, 0, none⟩ : Addr).add 0 = ⟨w.heap.size, 0, none⟩ from rfl]; exact cell_of_row _ w.heap.size 0 #[.int .i64 u] e' (0, 0) (heap_alloc_new w _)) (by intro y hy; simp at hy; subst hy; rfl)
    (by unfold maxLen; omega) (by omega) (Nat.le_trans hB (by rw [size_alloc']; exact Nat.le_succ _))
  have hg' : w.grownBy w' v.ownBlock := ⟨h2.os, h2.tape, h2.output, Nat.le_trans (by simp) h2.size, fun k hk hne => (h2.block k (Nat.lt_of_lt_of_le hk (by rw [size_alloc']; exact Nat.le_succ _)) hne).trans (Below.heap_alloc w _ k hk)⟩
  unfold Oper.wp execOp
  simp only [ho, resolve, invoke, builtin, Sem.run_bind, Sem.run_pure, Result.andThen_ok, List.map_toArray, List.map_cons, List.map_nil, hs, hx, hrun]
  refine hK v' w' ?_ ⟨hg'.os, hg'.tape, hg'.output, hg'.size, fun k hk => hg'.block k (by omega) (fun e => by have := World.ownsRow.lt hown k e.symm; omega)⟩ hg' (by simpa using h4) ?_
  · unfold Own
    rw [List.length_append, List.map_append]
    exact h1
  · have := h2.size
    simp at this
    omega

set_option maxHeartbeats 1000000 in
theorem SignedS_c (v : Value) (xs : List Int) (w : World) (hr : Rd w v xs) :
    Calls Try.prog 12 #[v] w fun e w' => e = .returned (.tuple #[.int .i64 (signedUp true xs), .int .i64 (signedUp false xs)]) ∧ Below w.heap.size w w' := by
  have hr' := hr
  by_cases hok : okData xs = true
  · obtain ⟨hall, hlen⟩ := okData_all hok
    obtain ⟨A, c, rfl, hc, hm, hcell⟩ := hr
    go_enter Try.func12, Try.ntmps12
    go_wp2_with fail
    refine (validData_c _ xs true _ hr' hok).mono ?_
    rintro e w' ⟨rfl, rfl⟩
    go_wp2_with fail
    go_loopw [4, 5, 6] (fun s z i wr => ∃ k : Nat, k ≤ xs.length ∧ i = .int .i64 k ∧ Own wr w.heap.size 3 s (nzL (xs.take k)) ∧ Own wr w.heap.size 3 z (absL (xs.take k)) ∧ Apart s z ∧ Below w.heap.size w wr) (fun _ _ i _ => xs.length - (intOf i).toNat)
    case atStart =>
      refine ⟨0, by omega, rfl, ?_, lit_own [] rfl (by simp) rfl (by simp) (by simp), ?_, by (repeat (first | exact Below.refl _ _ | assumption | refine Below.setCell ?_ (by first | (simp; done) | omega | (simp; omega) | (simp at *; omega)) _ | refine Below.drew ?_ | refine below_drewN ?_ _ | refine below_alloc' ?_ _ | refine below_to' ?_ (by assumption)))⟩
      · exact (lit_own [] rfl rfl rfl (by simp) (Nat.le_refl _)).alloc _
      · intro g; simp [Value.ownBlock]; omega
    case round =>
      obtain ⟨k, hk, rfl, howns, hownz, hne, hbel⟩ := hrel
      by_cases hlt : k < xs.length
      · obtain ⟨g, off, rfl, hg, hcl⟩ := hcell (by omega)
        have hck : wr.cell? ⟨g, off + k, none⟩ = some (.int .i64 xs[k]) := by rw [hbel.cell hg, hcl k hlt, getD_lt hlt]
        have hxk := allB_get hall hlt
        have hsz := hbel.size
        have hl1 : (nzL (xs.take k)).length ≤ 1000 := by have := nzL_len (xs.take k); simp at this; omega
        have hl2 : (absL (xs.take k)).length ≤ 1000 := by rw [absL_len]; exact hl1
        by_cases h0 : xs[k] = 0
        · have h0' : (xs[k] != 0) = false := by simp [h0]
          have HN := hide (nzL_take_out hlt h0)
          have HA := hide (absL_take_out hlt h0)
          clear h0 hcl hcell hall hok
          go_wp2_with fail
          go_roundw
          case rel => exact ⟨k + 1, by omega, by go_num, by rw [HN.out]; exact howns, by rw [HA.out]; exact hownz, hne, hbel⟩
          case measure => simp [intOf]; omega
        · have h0' : (xs[k] != 0) = true := by simp [h0]
          have HN := hide (nzL_take_in hlt h0)
          have HA := hide (absL_take_in hlt h0)
          have hi : (k : Int) < (xs.length : Int) := by omega
          clear h0 hcl hcell hall hok
          go_wp2_with (at_builtin; refine wpList_push_int _ rfl (.tmp 27) (.tmp 32) rfl ints w.heap.size _ _ _ _ 1 rfl rfl howns hsz (by omega) ?_; intro v5 w5 hown5 hb5 hg5 hat5 hk5 hlt5)
          have hownz5 := hownz.keep hg5 hne.ne
          have hap5 : Apart v5 _ := hne.grow (n := wr.heap.size + 1) hat5 (fun g hz => by have := World.ownsRow.lt hownz g hz; omega)
          have hsz5 := (hbel.trans hb5).size
          have hc5 : w5.cell? ⟨g, off + k, none⟩ = some (.int .i64 xs[k]) := by rw [hb5.cell (by simpa using hg)]; exact hck
          have hbq : Below w.heap.size w w5.drew := Below.drew (hbel.trans hb5)
          have hqz := hownz5.drew
          have hqs := hown5.drew
          have hqc : w5.drew.cell? ⟨g, off + k, none⟩ = some (.int .i64 xs[k]) := hc5
          have hqn : w5.drew.heap.size = w5.heap.size := rfl
          have HM : Hid (max xs[k] (-xs[k]) = if xs[k] < -xs[k] then -xs[k] else xs[k]) := (max_if _ _).symm
          have hneg : IntKind.i64.wrap (-xs[k]) = -xs[k] := IntWalk.i64_in _ (by omega)
          by_cases hmx : xs[k] < -xs[k]
          all_goals
            go_wp2_with fail
            go_region_law (refine step_push_int w5.drew rfl (.tmp 34) (.tmp 45) rfl ints w.heap.size _ _ _ _ 1 (by simp [Act.eval, Act.put]) (by simp [Act.eval, Act.put]) hqz hsz5 (by omega) ?_; intro v6 w6 hown6 hb6 hg6 hat6 hlt6)
            all_goals go_wp2_with fail
            all_goals
              refine ⟨⟨k + 1, by omega, by go_num, by rw [HN.out]; exact hqs.keep hg6 hap5.symm.ne, ?_, (hap5.symm.grow (n := w5.heap.size + 1) hat6 (fun g hz => by have := World.ownsRow.lt hqs g hz; simp at this; omega)).symm, hbq.trans hb6⟩, by simp [intOf]; omega⟩
              rw [HA.out, HM.out]
              first | exact hown6 | (rw [if_pos hmx]; exact hown6) | (rw [if_neg (by omega)]; exact hown6)
      · obtain rfl : k = xs.length := by omega
        rw [List.take_length] at howns hownz
        have hsz := hbel.size
        have hlz : (absL xs).length ≤ 10 := by have := nzL_len xs; rw [absL_len]; omega
        have hrl : (rankL (absL xs)).length = (nzL xs).length := by rw [rankL_len, absL_len]
        have hbd : ∀ r ∈ rankL (absL xs), 0 ≤ r ∧ r ≤ 100 := fun r h => by have := rankL_bd h; omega
        have hln := nzL_len xs
        have hPT : Hid (signedUp true xs = partUp true (nzL xs) (rankL (absL xs)) (nzL xs).length) := by show _ = _; rw [signedUp, if_pos hok]
        have hPF : Hid (signedUp false xs = partUp false (nzL xs) (rankL (absL xs)) (nzL xs).length) := by show _ = _; rw [signedUp, if_pos hok]
        clear hok hall hcell
        obtain ⟨R, hR⟩ : ∃ R, R = rankL (absL xs) := ⟨_, rfl⟩
        rw [← hR] at hrl hbd hPT hPF
        go_wp2_with fail
        refine (ranksS_c _ (absL xs) _ hownz.sl.rd (by omega)).mono ?_
        rintro e w1 ⟨v1, rfl, hsr, hb1⟩
        rw [← hR] at hsr
        have hs1 := (howns.sl.rd).below hb1
        obtain ⟨A1, c1, rfl, hc1, hm1, hcell1⟩ := hsr
        obtain ⟨A2, c2, rfl, hc2, hm2, hcell2⟩ := hs1
        clear hR hc hm
        go_wp2_with fail
        go_loop [8, 9, 10] (fun a b i => ∃ k : Nat, k ≤ (nzL xs).length ∧ i = .int .i64 k ∧ a = .int .i64 (partUp true (nzL xs) R k) ∧ b = .int .i64 (partUp false (nzL xs) R k)) (fun _ _ i => (nzL xs).length - (intOf i).toNat)
        case atStart => exact ⟨0, Nat.zero_le _, rfl, by rw [partUp_zero], by rw [partUp_zero]⟩
        case round =>
          obtain ⟨k, hk, rfl, rfl, rfl⟩ := hrel
          by_cases hlt : k < (nzL xs).length
          · have hlt2 : k < R.length := by omega
            obtain ⟨g1, off1, rfl, _, hg1, hcl1, _⟩ := hcell1 (by omega)
            obtain ⟨g2, off2, rfl, hg2, hcl2⟩ := hcell2 (by omega)
            have hck1 : w1.cell? ⟨g1, off1 + k, none⟩ = some (.int .i64 R[k]) := by rw [hcl1 k hlt2, getD_lt hlt2]
            have hck2 : w1.cell? ⟨g2, off2 + k, none⟩ = some (.int .i64 (nzL xs)[k]) := by rw [hcl2 k hlt, getD_lt hlt]
            have hr1 := hbd _ (List.getElem_mem hlt2)
            have hP1 := partUp_bd true hbd (by omega) hrl.symm k
            have hP2 := partUp_bd false hbd (by omega) hrl.symm k
            have HU := hide (partUp_succ true hlt hlt2)
            have HD := hide (partUp_succ false hlt hlt2)
            have HRL := hide hrl
            clear hcl1 hcl2 hcell1 hcell2 hbd hrl
            by_cases hp : 0 < (nzL xs)[k]
            · go_wp2
              go_round
              case rel => exact ⟨k + 1, by omega, by go_num, by rw [HU.out]; simp [hp], by rw [HD.out]; simp [hp]⟩
              case measure => simp [intOf]; omega
            · go_wp2
              go_round
              case rel => exact ⟨k + 1, by omega, by go_num, by rw [HU.out]; simp [hp], by rw [HD.out]; simp [hp]⟩
              case measure => simp [intOf]; omega
          · obtain rfl : k = (nzL xs).length := by omega
            go_wp2
            go_ret2
            rw [hPT.out, hPF.out]
            exact ⟨rfl, by (repeat (first | exact Below.refl _ _ | assumption | refine Below.setCell ?_ (by first | (simp; done) | omega | (simp; omega) | (simp at *; omega)) _ | refine Below.drew ?_ | refine below_drewN ?_ _ | refine below_alloc' ?_ _ | refine below_to' ?_ (by assumption)))⟩
  · have HP : Hid (signedUp true xs = -1) := by show _ = _; rw [signedUp, if_neg hok]
    have HQ : Hid (signedUp false xs = -1) := by show _ = _; rw [signedUp, if_neg hok]
    obtain ⟨A, c, rfl, hc, hm, hcell⟩ := hr
    clear hcell
    go_enter Try.func12, Try.ntmps12
    go_wp2_with fail
    refine (validData_c _ xs false _ hr' (by simpa using hok)).mono ?_
    rintro e w' ⟨rfl, rfl⟩
    go_wp2_with fail
    go_ret2
    rw [HP.out, HQ.out]
    exact ⟨rfl, Below.refl _ _⟩
end Go.Proofs.Ytipmakmidadalaa
