/-
  Contracts: what data are (at most ten numbers of size at most 200), the sign of a number, sums, and twice the ranks, in the program and in its reference.
-/
import Derived.Test.YtipmakmidadalaaIn
namespace Go.Proofs.Ytipmakmidadalaa
open Go.RowKit

def okData (xs : List Int) : Bool := allB (-200) 200 xs && decide (xs.length ≤ 10)
theorem okData_all {xs : List Int} (h : okData xs = true) : allB (-200) 200 xs = true ∧ xs.length ≤ 10 := by simpa [okData] using h

set_option maxHeartbeats 400000 in
theorem validData_c (v : Value) (xs : List Int) (b : Bool) (w : World) (hr : Rd w v xs) (hb : okData xs = b) :
    Calls Try.prog 40 #[v] w fun e w' => e = .returned (.bool b) ∧ w = w' := by
  obtain ⟨A, c, rfl, hc, hm, hcell⟩ := hr
  go_enter Try.func40, Try.ntmps40
  go_wp2
  go_loop [3] (fun i => ∃ k : Nat, k ≤ xs.length ∧ i = .int .i64 k ∧ allB (-200) 200 (xs.take k) = true) (fun i => xs.length - (intOf i).toNat)
  case atStart => exact ⟨0, Nat.zero_le _, rfl, rfl⟩
  case round =>
    obtain ⟨k, hk, rfl, hall⟩ := hrel
    by_cases hlt : k < xs.length
    · obtain ⟨g, off, rfl, hg, hcl⟩ := hcell (by omega)
      have hck : w.cell? ⟨g, off + k, none⟩ = some (.int .i64 xs[k]) := by rw [hcl k hlt, getD_lt hlt]
      clear hcl hcell
      have HA := hide hall
      have HB := hide hb
      clear hall hb
      by_cases h1 : -200 ≤ xs[k] ∧ xs[k] ≤ 200
      · obtain ⟨h1, h2⟩ := h1
        go_wp2_with (go_at_call 66; refine (inRange_c true _ _ _ _ (by simp; omega)).mono ?_; rintro e w' ⟨rfl, rfl⟩)
        go_round
        case rel => exact ⟨k + 1, by omega, by go_num, allB_take_succ hlt HA.out h1 h2⟩
        case measure => simp [intOf]; omega
      · go_wp2_with (go_at_call 66; refine (inRange_c false _ _ _ _ (by simp; omega)).mono ?_; rintro e w' ⟨rfl, rfl⟩)
        go_ret
        refine ⟨ret_bool ?_, rfl⟩
        rw [← HB.out, okData, allB_no hlt (by omega)]
        rfl
    · have hfin : Hid (decide ((xs.length : Int) ≤ 10) = b) := by
        obtain rfl : k = xs.length := by omega
        rw [List.take_length] at hall
        show _ = _
        rw [← hb, okData, hall, Bool.true_and]
        congr 1; simp; omega
      have HB := hide hb
      clear hb hall
      by_cases h10 : xs.length ≤ 10
      all_goals
        go_wp2
        go_ret
        exact ⟨ret_bool (by first | (rw [← hfin.out]; done) | (rw [← hfin.out]; simp; done) | (rw [← hfin.out]; simp; omega)), rfl⟩

set_option maxHeartbeats 400000 in
theorem ValidData_c (v : Value) (xs : List Int) (b : Bool) (w : World) (hr : Rd w v xs) (hb : okData xs = b) :
    Calls Try.prog 42 #[v] w fun e w' => e = .returned (.bool b) ∧ Below w.heap.size w w' := by
  have hr' := hr
  obtain ⟨A, c, rfl, hc, hm, hcell⟩ := hr
  clear hcell
  by_cases hl : xs.length ≤ 10
  · have HB : Hid (allB (-200) 200 xs = b) := by
      show _ = _
      rw [← hb, okData]
      simp [hl]
    clear hb
    go_enter Try.func42, Try.ntmps42
    go_wp2_with (go_at_call 67; refine (allIn_c _ xs (-200) 200 b _ hr' HB.out).mono ?_; rintro e w' ⟨rfl, hb1⟩)
    go_ret
    exact ⟨rfl, by assumption⟩
  · have HB : Hid (b = false) := by
      show _ = _
      rw [← hb, okData]
      simp
      omega
    clear hb
    go_enter Try.func42, Try.ntmps42
    go_wp2
    go_ret
    exact ⟨ret_bool HB.out.symm, Below.refl _ _⟩

/-- A contract of a callee that leaves the world as it is, for a region that draws. -/
theorem quiet_eq {P : Program} {f : FuncId} {args : Array Value} {w : World} {n : Nat} {v : Value} (h : Calls P f args (w.drewN n) fun e w' => e = .returned v ∧ w.drewN n = w') :
    Calls P f args (w.drewN n) fun e w'' => e = .returned v ∧ ∃ m, w'' = w.drewN m := h.mono fun _ _ ⟨he, hm⟩ => ⟨he, n, hm.symm⟩

/-- The sign of a number. -/
def sgn (n : Int) : Int := if 0 < n then 1 else if n < 0 then -1 else 0
theorem sgn_bd (n : Int) : -1 ≤ sgn n ∧ sgn n ≤ 1 := by unfold sgn; split <;> (try split) <;> omega

set_option maxHeartbeats 400000 in
theorem signI_c (n : Int) (w : World) (hn : -1000000 ≤ n ∧ n ≤ 1000000) : Calls Try.prog 43 #[.int .i64 n] w fun e w' => e = .returned (.int .i64 (sgn n)) ∧ w = w' := by
  by_cases h1 : 0 < n
  all_goals by_cases h2 : n < 0
  all_goals
    go_enter Try.func43, Try.ntmps43
    go_wp2
    go_ret
    exact ⟨ret_int (by simp only [sgn]; repeat split <;> omega), rfl⟩

set_option maxHeartbeats 400000 in
theorem signS_c (n : Int) (w : World) (hn : -1000000 ≤ n ∧ n ≤ 1000000) : Calls Try.prog 68 #[.int .i64 n] w fun e w' => e = .returned (.int .i64 (sgn n)) ∧ w = w' := by
  by_cases h1 : 0 < n
  all_goals by_cases h2 : n < 0
  all_goals
    go_enter Try.func68, Try.ntmps68
    go_wp2
    go_ret
    exact ⟨ret_int (by simp only [sgn]; repeat split <;> omega), rfl⟩

/-- What a number adds to twice the rank of another one. -/
def oneRank (v u : Int) : Int := if u < v then 2 else if u = v then 1 else 0
/-- Twice the rank of v among ys, less one. -/
def rankIn (v : Int) (ys : List Int) : Int := sumL (ys.map (oneRank v))
theorem rankIn_snoc (v : Int) (ys : List Int) (y : Int) : rankIn v (ys ++ [y]) = rankIn v ys + oneRank v y := by simp [rankIn, sumL_snoc]
theorem rankIn_take {v : Int} {xs : List Int} {k : Nat} (hk : k < xs.length) : rankIn v (xs.take (k + 1)) = rankIn v (xs.take k) + oneRank v xs[k] := by
  rw [List.take_succ_eq_append_getElem hk, rankIn_snoc]
theorem rankIn_bd (v : Int) (xs : List Int) : ∀ k : Nat, 0 ≤ rankIn v (xs.take k) ∧ rankIn v (xs.take k) ≤ 2 * k := by
  intro k
  induction k with
  | zero => simp [rankIn, sumL]
  | succ k ih =>
    by_cases hk : k < xs.length
    · rw [rankIn_take hk]
      have : 0 ≤ oneRank v xs[k] ∧ oneRank v xs[k] ≤ 2 := by unfold oneRank; split <;> (try split) <;> omega
      omega
    · rw [List.take_of_length_le (by omega)] at ih ⊢
      omega
/-- Twice the ranks. -/
def rankL (xs : List Int) : List Int := xs.map fun v => rankIn v xs + 1
theorem rankL_len (xs : List Int) : (rankL xs).length = xs.length := by simp [rankL]
theorem rankL_get {xs : List Int} {k : Nat} (hk : k < xs.length) : (rankL xs)[k]'(by rw [rankL_len]; exact hk) = rankIn xs[k] xs + 1 := by simp [rankL]
theorem rankL_bd {xs : List Int} {x : Int} (h : x ∈ rankL xs) : 1 ≤ x ∧ x ≤ 2 * xs.length + 1 := by
  obtain ⟨v, _, rfl⟩ := List.mem_map.1 h
  have := rankIn_bd v xs xs.length
  rw [List.take_length] at this
  omega
def rankTo (xs : List Int) (k : Nat) : List Int := (xs.take k).map fun v => rankIn v xs + 1
theorem rankTo_snoc {xs : List Int} {k : Nat} (hk : k < xs.length) : rankTo xs (k + 1) = rankTo xs k ++ [rankIn xs[k] xs + 1] := by
  simp only [rankTo]
  rw [List.take_succ_eq_append_getElem hk, List.map_append]
  rfl
theorem rankTo_len {xs : List Int} {k : Nat} (hk : k ≤ xs.length) : (rankTo xs k).length = k := by simp [rankTo]; omega
theorem rankTo_all (xs : List Int) : rankTo xs xs.length = rankL xs := by simp [rankTo, rankL]

set_option maxHeartbeats 1000000 in
theorem ranksS_c (v : Value) (xs : List Int) (w : World) (hr : Rd w v xs) (hn : xs.length ≤ 1000) :
    Calls Try.prog 41 #[v] w fun e w' => ∃ v', e = .returned v' ∧ Sl w' w.heap.size v' (rankL xs) ∧ Below w.heap.size w w' := by
  obtain ⟨A, c, rfl, hc, hm, hcell⟩ := hr
  go_enter Try.func41, Try.ntmps41
  go_wp2_with fail
  go_loopw [3, 4] (fun o i wr => ∃ (k : Nat) (O : Value), O = o ∧ k ≤ xs.length ∧ i = .int .i64 k ∧ Own wr w.heap.size 3 O (rankTo xs k) ∧ Below w.heap.size w wr) (fun _ i _ => xs.length - (intOf i).toNat)
  case atStart => exact ⟨0, _, rfl, by omega, rfl, lit_own [] rfl rfl rfl (by simp) (Nat.le_refl _), (by (repeat (first | exact Below.refl _ _ | assumption | refine Below.setCell ?_ (by first | (simp; done) | omega | (simp; omega) | (simp at *; omega)) _ | refine Below.drew ?_ | refine below_drewN ?_ _ | refine below_alloc' ?_ _ | refine below_to' ?_ (by assumption))))⟩
  case round =>
    obtain ⟨k, O, rfl, hk, rfl, hown, hbel⟩ := hrel
    by_cases hlt : k < xs.length
    · obtain ⟨g, off, rfl, hg, hcl⟩ := hcell (by omega)
      have hck : wr.cell? ⟨g, off + k, none⟩ = some (.int .i64 xs[k]) := by rw [hbel.cell hg, hcl k hlt, getD_lt hlt]
      have hsz := hbel.size
      have hlk : (rankTo xs k).length ≤ 1000 := by rw [rankTo_len hk]; omega
      have HT := hide (rankTo_snoc hlt)
      obtain ⟨V, hV⟩ : ∃ V, xs[k] = V := ⟨_, rfl⟩
      rw [hV] at hck HT
      go_wp2_with fail
      go_loopw [5, 6, 7] (fun l s j wr2 => ∃ (m : Nat) (L S : Int), m ≤ xs.length ∧ j = .int .i64 m ∧ l = .int .i64 L ∧ s = .int .i64 S ∧ 2 * L + S = rankIn V (xs.take m) ∧ 0 ≤ L ∧ 0 ≤ S ∧ L ≤ m ∧ S ≤ m ∧ Own wr2 w.heap.size 3 O (rankTo xs k) ∧ Below w.heap.size w wr2) (fun _ _ j _ => xs.length - (intOf j).toNat)
      case atStart => exact ⟨0, 0, 0, by omega, rfl, rfl, rfl, by simp [rankIn, sumL], by omega, by omega, by omega, by omega, hown, hbel⟩
      case round =>
        clear hck
        obtain ⟨m, L, S, hml, rfl, rfl, rfl, hLS, hL0, hS0, hLm, hSm, hown2, hbel2⟩ := hrel
        have hsz2 := hbel2.size
        by_cases hlm : m < xs.length
        · have hcm : wr.cell? ⟨g, off + m, none⟩ = some (.int .i64 xs[m]) := by rw [hbel2.cell hg, hcl m hlm, getD_lt hlm]
          have hck' : wr.cell? ⟨g, off + k, none⟩ = some (.int .i64 V) := by rw [hbel2.cell hg, hcl k hlt, getD_lt hlt, hV]
          have HR := hide (rankIn_take (v := V) hlm)
          have HLS := hide hLS
          have hi : (k : Int) < (xs.length : Int) := by omega
          have hi' : (m : Int) < (xs.length : Int) := by omega
          clear hLS hcl hcell
          by_cases h1 : xs[m] < V
          · have h2 : (xs[m] == V) = false := beq_eq_false_iff_ne.2 (by omega)
            go_wp2_with fail
            go_quiet (fail)
            go_wp2
            go_quiet (fail)
            go_wp2
            go_roundw
            case rel => exact ⟨m + 1, L + 1, S, by omega, by go_num, by go_num, by go_num, by rw [HR.out, ← HLS.out]; simp [oneRank, h1]; omega, by omega, by omega, by omega, by omega, hown2.drewN _, below_drewN hbel2 _⟩
            case measure => simp [intOf]; omega
          · by_cases h2 : xs[m] = V
            · have h2' : (xs[m] == V) = true := beq_iff_eq.2 h2
              clear h2
              go_wp2_with fail
              go_quiet (fail)
              go_wp2
              go_quiet (fail)
              go_wp2
              go_roundw
              case rel => exact ⟨m + 1, L, S + 1, by omega, by go_num, by go_num, by go_num, by rw [HR.out, ← HLS.out]; simp [oneRank, beq_iff_eq.1 h2']; omega, by omega, by omega, by omega, by omega, hown2.drewN _, below_drewN hbel2 _⟩
              case measure => simp [intOf]; omega
            · have h2' : (xs[m] == V) = false := beq_eq_false_iff_ne.2 h2
              go_wp2_with fail
              go_quiet (fail)
              go_wp2
              go_quiet (fail)
              go_wp2
              go_roundw
              case rel => exact ⟨m + 1, L, S, by omega, by go_num, by go_num, by go_num, by rw [HR.out, ← HLS.out, oneRank, if_neg (by omega), if_neg (by simpa using h2')]; omega, by omega, by omega, by omega, by omega, hown2.drewN _, below_drewN hbel2 _⟩
              case measure => simp [intOf]; omega
        · obtain rfl : m = xs.length := by omega
          rw [List.take_length] at hLS
          have HLS := hide hLS
          clear hLS hcl hcell
          go_wp2_with (at_builtin; refine wpList_push_int _ rfl (.tmp 43) (.tmp 49) rfl ints w.heap.size _ _ _ _ 1 rfl rfl hown2 hsz2 (by omega) ?_; intro v5 w5 hown5 hb5 hg5 hat5 hk5 hlt5)
          go_roundw
          case rel => exact ⟨k + 1, _, rfl, by omega, by go_num, by rw [HT.out, ← HLS.out]; exact hown5, hbel2.trans hb5⟩
          case measure => simp [intOf]; omega
    · obtain rfl : k = xs.length := by omega
      rw [rankTo_all] at hown
      go_wp2_with fail
      go_ret
      exact ⟨_, rfl, hown.sl, hbel⟩

def rankUp (xs ys : List Int) (k : Nat) : Prop := ys.length = xs.length ∧ ys.take k = (rankL xs).take k

set_option maxHeartbeats 1000000 in
theorem ranksI_c (v : Value) (xs : List Int) (w : World) (hr : Rd w v xs) (hn : xs.length ≤ 1000) :
    Calls Try.prog 44 #[v] w fun e w' => ∃ v', e = .returned v' ∧ Sl w' w.heap.size v' (rankL xs) ∧ Below w.heap.size w w' := by
  obtain ⟨A, c, rfl, hc, hm, hcell⟩ := hr
  go_enter Try.func44, Try.ntmps44
  go_wp2_with (at_make; refine wpList_make_ints _ rfl (.tmp 9) (.tmp 9) rfl ints xs.length rfl rfl (by omega) ?_; intro w1 hown1 hbel1 hlt1)
  go_loopw [13] (fun i wr => ∃ (k : Nat) (ys : List Int), k ≤ xs.length ∧ i = .int .i64 k ∧ Own wr w.heap.size 3 (.slice (some ⟨w.heap.size, 0, none⟩) xs.length xs.length) ys ∧ ys.length = xs.length ∧ ys.take k = (rankL xs).take k ∧ Below w.heap.size w wr)
    (fun i _ => xs.length - (intOf i).toNat)
  case atStart => exact ⟨0, _, Nat.zero_le _, rfl, hown1, by simp, by simp, hbel1⟩
  case round =>
    obtain ⟨k, ys, hk, rfl, hown, hl, ht, hbel⟩ := hrel
    by_cases hlt : k < xs.length
    · obtain ⟨g, off, rfl, hg, hcl⟩ := hcell (by omega)
      have hck : wr.cell? ⟨g, off + k, none⟩ = some (.int .i64 xs[k]) := by rw [hbel.cell hg, hcl k hlt, getD_lt hlt]
      have hdk := hown.cell (j := k) (by omega)
      have hfk := hown.frozen k
      have hrk : (rankL xs).getD k 0 = rankIn xs[k] xs + 1 := by rw [getD_lt (by rw [rankL_len]; exact hlt), rankL_get hlt]
      have HRK := hide hrk
      have HTK := hide ht
      clear hrk ht
      obtain ⟨V, hV⟩ : ∃ V, xs[k] = V := ⟨_, rfl⟩
      rw [hV] at hck HRK
      have HCL := hide hcl
      clear hcl hcell hV
      go_wp2_with fail
      have hset := hown.set k 1
      go_loopw [23] (fun j wr2 => ∃ (m : Nat) (zs : List Int), m ≤ xs.length ∧ j = .int .i64 m ∧ Own wr2 w.heap.size 3 (.slice (some ⟨w.heap.size, 0, none⟩) xs.length xs.length) zs ∧ zs = ys.set k (rankIn V (xs.take m) + 1) ∧ Below w.heap.size w wr2) (fun j _ => xs.length - (intOf j).toNat)
      case atStart => exact ⟨0, _, by omega, rfl, hset, rfl, hbel.setCell (Nat.le_refl _) _⟩
      case round =>
        obtain ⟨m, zs, hml, rfl, hown2, hzs, hbel2⟩ := hrel
        by_cases hlm : m < xs.length
        · have hcm : wr.cell? ⟨g, off + m, none⟩ = some (.int .i64 xs[m]) := by rw [hbel2.cell hg, HCL.out m hlm, getD_lt hlm]
          have hzk : zs.getD k 0 = rankIn V (xs.take m) + 1 := by rw [hzs]; simp [List.getD, List.getElem?_set_self (show k < ys.length by omega)]
          have hbdm := rankIn_bd V xs m
          obtain ⟨Z, hZ⟩ : ∃ Z, rankIn V (xs.take m) = Z := ⟨_, rfl⟩
          have hzl : zs.length = xs.length := by rw [hzs, List.length_set, hl]
          have hdk2 := hown2.cell (j := k) (by omega)
          have hfk2 := hown2.frozen k
          have HR := hide (rankIn_take (v := V) hlm)
          have HZS := hide hzs
          rw [hzk] at hdk2
          rw [hZ] at hdk2 hbdm
          have HZ := hide hZ
          clear hzk hzs hZ hdk hfk hown hset
          by_cases h1 : xs[m] < V
          · have hs2 := hown2.set k (Z + 1 + 2)
            go_wp2_with fail
            go_roundw
            case rel => exact ⟨m + 1, _, by omega, by go_num, hs2, by rw [HZS.out, List.set_set, HR.out, HZ.out]; congr 1; simp [oneRank, h1]; omega, hbel2.setCell (Nat.le_refl _) _⟩
            case measure => simp [intOf]; omega
          · by_cases h2 : xs[m] = V
            · have h2' : (xs[m] == V) = true := beq_iff_eq.2 h2
              have hs2 := hown2.set k (Z + 1 + 1)
              clear h2
              go_wp2_with fail
              go_roundw
              case rel => exact ⟨m + 1, _, by omega, by go_num, hs2, by rw [HZS.out, List.set_set, HR.out, HZ.out]; congr 1; simp [oneRank, beq_iff_eq.1 h2'], hbel2.setCell (Nat.le_refl _) _⟩
              case measure => simp [intOf]; omega
            · have h2' : (xs[m] == V) = false := beq_eq_false_iff_ne.2 h2
              go_wp2_with fail
              go_roundw
              case rel => exact ⟨m + 1, zs, by omega, by go_num, hown2, by rw [HZS.out, HR.out, HZ.out, oneRank, if_neg (by omega), if_neg (by simpa using h2'), Int.add_zero], hbel2⟩
              case measure => simp [intOf]; omega
        · obtain rfl : m = xs.length := by omega
          rw [List.take_length] at hzs
          have HZS := hide hzs
          clear hzs
          go_wp2_with fail
          go_roundw
          case rel =>
            refine ⟨k + 1, zs, by omega, by go_num, hown2, by rw [HZS.out, List.length_set, hl], ?_, hbel2⟩
            have := take_set_snoc (xs := rankL xs) (ys := ys) (k := k) (by rw [rankL_len]; exact hlt) (by rw [rankL_len]; exact hl) HTK.out
            rw [HRK.out] at this
            rw [HZS.out]
            exact this
          case measure => simp [intOf]; omega
    · obtain rfl : k = xs.length := by omega
      go_wp2_with fail
      go_ret
      have : ys = rankL xs := take_all (by rw [rankL_len]; exact hl) (by rw [rankL_len]; exact ht)
      subst this
      exact ⟨_, rfl, hown.sl, hbel⟩

set_option maxHeartbeats 400000 in
theorem sumS_c (v : Value) (xs : List Int) (w : World) (hr : Rd w v xs) (hn : xs.length ≤ 1000) (hb : allB (-1000000) 1000000 xs = true) :
    Calls Try.prog 55 #[v] w fun e w' => e = .returned (.int .i64 (sumL xs)) ∧ w = w' := by
  obtain ⟨A, c, rfl, hc, hm, hcell⟩ := hr
  go_enter Try.func55, Try.ntmps55
  go_wp2
  go_loop [3, 4] (fun s i => ∃ k : Nat, k ≤ xs.length ∧ i = .int .i64 k ∧ s = .int .i64 (sumL (xs.take k))) (fun _ i => xs.length - (intOf i).toNat)
  case atStart => exact ⟨0, Nat.zero_le _, rfl, rfl⟩
  case round =>
    obtain ⟨k, hk, rfl, rfl⟩ := hrel
    by_cases hlt : k < xs.length
    · obtain ⟨g, off, rfl, hg, hcl⟩ := hcell (by omega)
      have hck : w.cell? ⟨g, off + k, none⟩ = some (.int .i64 xs[k]) := by rw [hcl k hlt, getD_lt hlt]
      have h1 := allB_get hb hlt
      have h2 := sumL_bound (m := 1000000) (by omega) (allB_iff.1 hb) k
      clear hcl hcell hb
      go_wp2
      go_round
      case rel => exact ⟨k + 1, by omega, by go_num, by rw [sumL_take hlt]⟩
      case measure => simp [intOf]; omega
    · go_wp2
      go_ret
      obtain rfl : k = xs.length := by omega
      exact ⟨by simp, rfl⟩

set_option maxHeartbeats 400000 in
theorem sumI_c (v : Value) (xs : List Int) (w : World) (hr : Rd w v xs) (hn : xs.length ≤ 1000) (hb : allB (-1000000) 1000000 xs = true) :
    Calls Try.prog 53 #[v] w fun e w' => e = .returned (.int .i64 (sumL xs)) ∧ w = w' := by
  obtain ⟨A, c, rfl, hc, hm, hcell⟩ := hr
  go_enter Try.func53, Try.ntmps53
  go_wp2
  go_loop [3, 8] (fun s i => ∃ k : Nat, k ≤ xs.length ∧ i = .int .i64 k ∧ s = .int .i64 (sumL (xs.take k))) (fun _ i => xs.length - (intOf i).toNat)
  case atStart => exact ⟨0, Nat.zero_le _, rfl, rfl⟩
  case round =>
    obtain ⟨k, hk, rfl, rfl⟩ := hrel
    by_cases hlt : k < xs.length
    · obtain ⟨g, off, rfl, hg, hcl⟩ := hcell (by omega)
      have hck : w.cell? ⟨g, off + k, none⟩ = some (.int .i64 xs[k]) := by rw [hcl k hlt, getD_lt hlt]
      have h1 := allB_get hb hlt
      have h2 := sumL_bound (m := 1000000) (by omega) (allB_iff.1 hb) k
      clear hcl hcell hb
      go_wp2
      go_round
      case rel => exact ⟨k + 1, by omega, by go_num, by rw [sumL_take hlt]⟩
      case measure => simp [intOf]; omega
    · go_wp2
      go_ret
      obtain rfl : k = xs.length := by omega
      exact ⟨by simp, rfl⟩
end Go.Proofs.Ytipmakmidadalaa
