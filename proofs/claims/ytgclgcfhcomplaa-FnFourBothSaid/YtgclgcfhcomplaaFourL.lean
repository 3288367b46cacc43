/-
  Contracts: the tables with the same sums, in the program (like, FoursLike) and in its reference.
-/
import Derived.Test.YtgclgcfhcomplaaFourP
namespace Go.Proofs.Ytgclgcfhcomplaa
open Go.RowKit

/-- t is the type of slices of the type e of four cells. -/
structure FoursOf (P : Program) (t e : TypeId) (z : Value) : Prop where
  slice : P.underlying t = some (.slice e)
  info : (P.info? e).map (fun i => (i.zero, i.size, i.bytes)) = some (some z, 4, 32)
  four : z.cells.size = 4

/-- append(out, x), x of four cells, that has just been laid in a block of its own. -/
theorem wpList_push_four {P : Program} {e t : TypeId} (w : World) {ops : Array Oper} {rest : List Oper} {o : Oper} {a : Act} {Q : Exit → Act → World → Prop} (hg : o.guard = none) (s x : Operand)
    (ho : o.op = .call { callee := .builtin .append, args := #[s, x], argTypes := #[t, t] }) {z : Value} (E : FoursOf P t e z) (B : Nat) (v : Value) (n : Nat) (vs us : List Value) (hu4 : us.length = 4) (hu : ∀ u ∈ us, u.oneCell' = true) (e' : TypeId) (c : Nat) (cs : Array Value) (hcs : cs = us.toArray)
    (G : Nat) (hG : G = w.heap.size) (hs : a.eval s = v) (hx : a.eval x = .slice (some ⟨G, 0, none⟩) 1 c) (hown : w.ownsRow B e 4 v n vs) (hB : B ≤ w.heap.size) (hn : n ≤ 1000000)
    (hK : ∀ v' w', w'.ownsRow B e 4 v' (n + 1) (vs ++ us) → Below B w w' → w.heap.size < w'.heap.size → wpList P ops Q rest (a.put o.dst v') w') : wpList P ops Q (o :: rest) a (w.alloc (.cells cs e')) := by
  subst hcs hG
  obtain ⟨i0, hi, hz0, hz1, hz2⟩ := info_parts E.info
  obtain ⟨v', w', hrun, h1, h2, h3, h4⟩ := run_append_own_at (P := P) (w.alloc (.cells us.toArray e')) B t o.type e i0 z 4 32 E.slice hi hz0 hz1 hz2 E.four (by decide) v n vs (World.ownsRow.alloc hown _)
    ⟨w.heap.size, 0, none⟩ 1 c us (by omega) (by
      intro j y hj
      have hadd : (⟨w.heap.size, 0, none⟩ : Addr).add j = ⟨w.heap.size, j, none⟩ := by
        unfold Addr.add; split
        · next h0 => subst h0; rfl
        · simp
      rw [hadd, cell_of_row _ w.heap.size j us.toArray e' (0, 0) (heap_alloc_new w _)]
      simpa using hj) hu
    (by unfold maxLen; omega) (by omega) (Nat.le_trans hB (by rw [size_alloc']; exact Nat.le_succ _))
  have hg' : w.grownBy w' v.ownBlock := ⟨h2.os, h2.tape, h2.output, Nat.le_trans (by simp) h2.size, fun k hk hne => (h2.block k (Nat.lt_of_lt_of_le hk (by rw [size_alloc']; exact Nat.le_succ _)) hne).trans (Below.heap_alloc w _ k hk)⟩
  refine wpList_plain hg fun K hK' => ?_
  unfold Oper.wp execOp
  simp only [ho, resolve, invoke, builtin, Sem.run_bind, Sem.run_pure, Result.andThen_ok, List.map_toArray, List.map_cons, List.map_nil, hs, hx, hrun]
  refine hK' _ _ (hK v' w' h1 ⟨hg'.os, hg'.tape, hg'.output, hg'.size, fun k hk => hg'.block k (by omega) (fun e => by have := World.ownsRow.lt hown k e.symm; omega)⟩ ?_)
  have := h2.size
  simp at this
  omega

theorem foursOf : FoursOf Try.prog 53 24 (.agg #[.int .i64 (0), .int .i64 (0), .int .i64 (0), .int .i64 (0)]) := ⟨Try.underlying53, by kernel_rfl, rfl⟩

theorem ownsRow_low {w : World} {B B' n m : Nat} {e : TypeId} {v : Value} {vs : List Value} (h : w.ownsRow B e m v n vs) (hb : B' ≤ B) : w.ownsRow B' e m v n vs := by
  obtain ⟨hl, h0 | ⟨g, cap, cur, hv, hB, hr⟩⟩ := h
  · exact ⟨hl, .inl h0⟩
  · exact ⟨hl, .inr ⟨g, cap, cur, hv, by omega, hr⟩⟩
/-- The cells of the tables with these first numbers. -/
def tabV (a b c d : Nat) (x : Int) : List Value := [.int .i64 x, .int .i64 ((a : Int) + b - x), .int .i64 ((a : Int) + c - x), .int .i64 ((d : Int) - a + x)]
def tabsV (a b c d : Nat) (xs : List Int) : List Value := xs.flatMap (tabV a b c d)
theorem tabsV_snoc (a b c d : Nat) (xs : List Int) (x : Int) : tabsV a b c d (xs ++ [x]) = tabsV a b c d xs ++ tabV a b c d x := by simp [tabsV]
theorem tabsV_get (a b c d : Nat) : ∀ (xs : List Int) (i j : Nat), i < xs.length → j < 4 → (tabsV a b c d xs)[4 * i + j]? = (tabV a b c d (atL xs i))[j]? := by
  intro xs
  induction xs with
  | nil => intro i j h _; simp at h
  | cons x xs ih =>
    intro i j hi hj
    have hl : (tabV a b c d x).length = 4 := rfl
    rw [show tabsV a b c d (x :: xs) = tabV a b c d x ++ tabsV a b c d xs from rfl]
    cases i with
    | zero => rw [List.getElem?_append_left (by omega)]; simp [atL]
    | succ i =>
      rw [List.getElem?_append_right (by omega), hl, show 4 * (i + 1) + j - 4 = 4 * i + j from by omega, ih i j (by simpa using hi) hj]
      simp [atL]

set_option maxHeartbeats 2000000 in
theorem FoursS_c (a b c d : Int) (w : World) : Calls Try.prog 15 #[.agg #[.int .i64 (a), .int .i64 (b), .int .i64 (c), .int .i64 (d)]] w fun e w' => ∃ v, e = .returned v ∧ Sl w' w.heap.size v (fourR a b c d) ∧ Below w.heap.size w w' := by
  obtain ⟨W, hW, hbW, hWs, hW0, hW1, hW2, hW3⟩ : ∃ W, w.alloc (.cells #[.int .i64 a, .int .i64 b, .int .i64 c, .int .i64 d] 24) = W ∧ Below w.heap.size w W ∧ W.heap.size = w.heap.size + 1 ∧
      W.cell? ⟨w.heap.size, 0, none⟩ = some (.int .i64 a) ∧ W.cell? ⟨w.heap.size, 1, none⟩ = some (.int .i64 b) ∧ W.cell? ⟨w.heap.size, 2, none⟩ = some (.int .i64 c) ∧ W.cell? ⟨w.heap.size, 3, none⟩ = some (.int .i64 d) :=
    ⟨_, rfl, (Below.refl _ _).alloc (Nat.le_refl _) _, by simp, by simp, by simp, by simp, by simp⟩
  cases hok : okFour a b c d
  · have HX := hide (fourR_bad hok)
    have HK := hide hok
    clear hok
    go_enter Try.func15, Try.ntmps15
    go_wp2_with fail
    refine (fourS_c a b c d false _ HK.out).mono ?_
    rintro e w2 ⟨rfl, hb2⟩
    go_wp2_with fail
    go_ret
    exact ⟨_, rfl, by rw [HX.out]; exact Sl.nil _ _, hbW.trans (hb2.mono hbW.size)⟩
  · obtain ⟨⟨g1, g2⟩, ⟨g3, g4⟩, ⟨g5, g6⟩, g7, g8⟩ := okFour_iff.1 hok
    obtain ⟨a, rfl⟩ := Int.eq_ofNat_of_zero_le g1
    obtain ⟨b, rfl⟩ := Int.eq_ofNat_of_zero_le g3
    obtain ⟨c, rfl⟩ := Int.eq_ofNat_of_zero_le g5
    obtain ⟨d, rfl⟩ := Int.eq_ofNat_of_zero_le g7
    have HX := hide (fourR_ok hok)
    have HK := hide hok
    clear hok
    go_enter Try.func15, Try.ntmps15
    go_wp2_with fail
    refine (fourS_c a b c d true _ HK.out).mono ?_
    rintro e w2 ⟨rfl, hb2⟩
    have hs2 := hb2.size
    go_wp2_with fail
    go_loopw [3, 4] (fun o x wr => ∃ k : Nat, k ≤ a + b + 1 ∧ x = .int .i64 k ∧ Own wr W.heap.size 3 o (rowL (a - d) (cntF a c d k)) ∧ Below W.heap.size W wr) (fun _ x _ => a + b + 1 - (intOf x).toNat)
    case atStart => exact ⟨0, by omega, rfl, by rw [cntF_zero]; exact lit_own [] rfl rfl rfl (by simp) hs2, by (repeat (first | exact Below.refl _ _ | assumption | refine Below.setCell ?_ (by first | (simp; done) | omega | (simp; omega) | (simp at *; omega)) _ | refine Below.drew ?_ | refine below_drewN ?_ _ | refine below_alloc' ?_ _ | refine below_to' ?_ (by assumption)))⟩
    case round =>
      obtain ⟨k, hk, rfl, hown, hbel⟩ := hrel
      have hw0 : wr.cell? ⟨w.heap.size, 0, none⟩ = _ := (hbel.cell (p := ⟨w.heap.size, 0, none⟩) (by show w.heap.size < _; omega)).trans hW0
      have hw1 : wr.cell? ⟨w.heap.size, 1, none⟩ = _ := (hbel.cell (p := ⟨w.heap.size, 1, none⟩) (by show w.heap.size < _; omega)).trans hW1
      have hw2 : wr.cell? ⟨w.heap.size, 2, none⟩ = _ := (hbel.cell (p := ⟨w.heap.size, 2, none⟩) (by show w.heap.size < _; omega)).trans hW2
      have hw3 : wr.cell? ⟨w.heap.size, 3, none⟩ = _ := (hbel.cell (p := ⟨w.heap.size, 3, none⟩) (by show w.heap.size < _; omega)).trans hW3
      have hbw : Below w.heap.size w wr := hbW.trans (hbel.mono hbW.size)
      by_cases hlt : k ≤ a + b
      · have HS := hide (rowF_step a c d k)
        have hlen := rowL_len (a - d) (cntF a c d k)
        have hcl : cntF a c d k ≤ 20 := by simp only [cntF]; omega
        have HKp : Hid (decide (0 ≤ (k : Int) ∧ 0 ≤ (b : Int) + a - k ∧ 0 ≤ (c : Int) + a - k ∧ 0 ≤ (d : Int) - a + k) = keepF a c d k) := by
          show _ = _
          rw [keepF, Bool.eq_iff_iff]
          simp
          omega
        obtain ⟨r, hr⟩ : ∃ r, keepF a c d k = r := ⟨_, rfl⟩
        rw [hr] at HS HKp
        clear hr
        obtain ⟨xs, hxs⟩ : ∃ xs, rowL (a - d) (cntF a c d k) = xs := ⟨_, rfl⟩
        rw [hxs] at HS hown hlen
        clear hxs
        go_wp2_with fail
        refine (shifted_c _ _ _ _ _ _ (by omega) (by omega) (by omega) (by omega) (by omega)).mono ?_
        rintro e w3 ⟨rfl, hb3⟩
        go_wp2_with fail
        refine (whole_c _ _ _ _ r _ HKp.out).mono ?_
        rintro e w4 ⟨rfl, hb4⟩
        have hb34 : Below wr.heap.size wr w4 := below_to' hb3 hb4
        have hown4 := hown.below hb34
        have hsz4 := (hbel.trans (hb34.mono hbel.size)).size
        cases r
        · go_wp2_with fail
          go_roundw
          case rel => exact ⟨k + 1, by omega, by go_num, by rw [HS.out]; simpa using hown4, hbel.trans (hb34.mono hbel.size)⟩
          case measure => simp [intOf]; omega
        · go_wp2_with (at_builtin; refine wpList_push_int _ rfl (.tmp 22) (.tmp 24) rfl ints W.heap.size _ xs (k : Int) _ 1 rfl rfl hown4 hsz4 (by omega) ?_; intro v5 w5 hown5 hb5 hg5 hat5 hk5 hlt5)
          go_roundw
          case rel => exact ⟨k + 1, by omega, by go_num, by rw [HS.out]; simpa using hown5, (hbel.trans (hb34.mono hbel.size)).trans hb5⟩
          case measure => simp [intOf]; omega
      · obtain rfl : k = a + b + 1 := by omega
        go_wp2_with fail
        go_ret
        exact ⟨_, rfl, by rw [HX.out]; exact hown.sl.low (by omega), hbw⟩

set_option maxHeartbeats 2000000 in
theorem like_c (a b c d : Nat) (w : World) (ha : a ≤ 8) (hb : b ≤ 8) (hc : c ≤ 8) (hd : d ≤ 8) : Calls Try.prog 49 #[.agg #[.int .i64 (a), .int .i64 (b), .int .i64 (c), .int .i64 (d)]] w fun e w' =>
    ∃ v, e = .returned v ∧ w'.ownsRow w.heap.size 24 4 v (lenF a b c d) (tabsV a b c d (rowL (a - d) (lenF a b c d))) ∧ Below w.heap.size w w' := by
  obtain ⟨W, hW, hbW, hWs, hW0, hW1, hW2, hW3⟩ : ∃ W, w.alloc (.cells #[.int .i64 (a : Int), .int .i64 (b : Int), .int .i64 (c : Int), .int .i64 (d : Int)] 24) = W ∧ Below w.heap.size w W ∧ W.heap.size = w.heap.size + 1 ∧
      W.cell? ⟨w.heap.size, 0, none⟩ = some (.int .i64 a) ∧ W.cell? ⟨w.heap.size, 1, none⟩ = some (.int .i64 b) ∧ W.cell? ⟨w.heap.size, 2, none⟩ = some (.int .i64 c) ∧ W.cell? ⟨w.heap.size, 3, none⟩ = some (.int .i64 d) :=
    ⟨_, rfl, (Below.refl _ _).alloc (Nat.le_refl _) _, by simp, by simp, by simp, by simp, by simp⟩
  go_enter Try.func49, Try.ntmps49
  go_wp2_with fail
  go_loopw [3, 4, 5] (fun o x p wr => ∃ k : Nat, k ≤ a + b + 1 ∧ x = .int .i64 k ∧ wr.ownsRow W.heap.size 24 4 o (cntF a c d k) (tabsV a b c d (rowL (a - d) (cntF a c d k))) ∧ Below W.heap.size W wr) (fun _ x _ _ => a + b + 1 - (intOf x).toNat)
  case atStart => exact ⟨0, by omega, rfl, by rw [cntF_zero]; exact World.ownsRow_nil _ _ _ _, Below.refl _ _⟩
  case round =>
    obtain ⟨k, hk, rfl, hown, hbel⟩ := hrel
    have hw0 : wr.cell? ⟨w.heap.size, 0, none⟩ = _ := (hbel.cell (p := ⟨w.heap.size, 0, none⟩) (by show w.heap.size < _; omega)).trans hW0
    have hw1 : wr.cell? ⟨w.heap.size, 1, none⟩ = _ := (hbel.cell (p := ⟨w.heap.size, 1, none⟩) (by show w.heap.size < _; omega)).trans hW1
    have hw2 : wr.cell? ⟨w.heap.size, 2, none⟩ = _ := (hbel.cell (p := ⟨w.heap.size, 2, none⟩) (by show w.heap.size < _; omega)).trans hW2
    have hw3 : wr.cell? ⟨w.heap.size, 3, none⟩ = _ := (hbel.cell (p := ⟨w.heap.size, 3, none⟩) (by show w.heap.size < _; omega)).trans hW3
    have hbw : Below w.heap.size w wr := hbW.trans (hbel.mono hbW.size)
    by_cases hlt : k ≤ a + b
    · have HS := hide (rowF_step a c d k)
      have hcl : cntF a c d k ≤ 20 := by simp only [cntF]; omega
      have HC : Hid (cntF a c d (k + 1) = cntF a c d k + (if keepF a c d k then 1 else 0)) := by
        have h := congrArg List.length (rowF_step a c d k)
        rw [rowL_len, List.length_append, rowL_len] at h
        show _ = _
        rw [h]
        split <;> rfl
      have hTS : tabsV a b c d (rowL (a - d) (cntF a c d k) ++ [(k : Int)]) = tabsV a b c d (rowL (a - d) (cntF a c d k)) ++ tabV a b c d k := tabsV_snoc _ _ _ _ _ _
      have hTV : tabV a b c d k = [.int .i64 k, .int .i64 ((a : Int) + b - k), .int .i64 ((a : Int) + c - k), .int .i64 ((d : Int) - a + k)] := rfl
      rw [hTV] at hTS
      obtain ⟨xs, hxs⟩ : ∃ xs, rowL (a - d) (cntF a c d k) = xs := ⟨_, rfl⟩
      obtain ⟨vs, hvs⟩ : ∃ vs, tabsV a b c d xs = vs := ⟨_, rfl⟩
      obtain ⟨n, hn⟩ : ∃ n, cntF a c d k = n := ⟨_, rfl⟩
      rw [hxs] at HS hown hTS
      rw [hvs] at hown hTS
      rw [hn] at hcl HC hown
      have HV := hide hvs
      have HT := hide hTS
      clear hxs hvs hn hTS hTV
      by_cases h1 : (k : Int) ≤ (a : Int) + c
      · by_cases h2 : (a : Int) ≤ (d : Int) + k
        · have hK : keepF a c d k = true := by simp [keepF]; omega
          rw [hK] at HS HC
          clear hK
          go_wp2_with (at_builtin; refine wpList_push_four (wr.alloc _) rfl (.tmp 46) (.tmp 48) rfl foursOf W.heap.size _ n vs [.int .i64 k, .int .i64 ((a : Int) + b - k), .int .i64 ((a : Int) + c - k), .int .i64 ((d : Int) - a + k)] rfl (by simp [Value.oneCell']) _ 1 _ rfl (wr.heap.size + 1) (by simp) rfl rfl (World.ownsRow.alloc hown _) (by simp; have := hbel.size; omega) (by omega) ?_; intro v5 w5 hown5 hb5 hlt5)
          go_roundw
          case rel => exact ⟨k + 1, by omega, by go_num, by rw [HS.out, HC.out, if_pos rfl, if_pos rfl, HT.out]; exact hown5, (hbel.alloc hbel.size _).trans hb5⟩
          case measure => simp [intOf]; omega
        · have hK : keepF a c d k = false := by simp [keepF]; omega
          rw [hK] at HS HC
          clear hK
          go_wp2_with fail
          go_roundw
          case rel => exact ⟨k + 1, by omega, by go_num, by rw [HS.out, HC.out]; simpa [HV.out] using World.ownsRow.alloc hown _, hbel.alloc hbel.size _⟩
          case measure => simp [intOf]; omega
      · have hK : keepF a c d k = false := by simp [keepF]; omega
        rw [hK] at HS HC
        clear hK
        go_wp2_with fail
        go_roundw
        case rel => exact ⟨k + 1, by omega, by go_num, by rw [HS.out, HC.out]; simpa [HV.out] using World.ownsRow.alloc hown _, hbel.alloc hbel.size _⟩
        case measure => simp [intOf]; omega
    · obtain rfl : k = a + b + 1 := by omega
      go_wp2_with fail
      go_ret
      exact ⟨_, rfl, ownsRow_low hown (by omega), hbw⟩
end Go.Proofs.Ytgclgcfhcomplaa
