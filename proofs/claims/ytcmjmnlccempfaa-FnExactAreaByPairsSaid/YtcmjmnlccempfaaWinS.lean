/-
  Contract: twice the wins of one sample over another, by all pairs, in the reference.
-/
import Derived.Test.YtcmjmnlccempfaaData
import Derived.Test.YtcmjmnlccempfaaSum
namespace Go.Proofs.Ytcmjmnlccempfaa
open Go.RowKit

/-- What a number adds to twice the rank of another one. -/
def oneRank (v u : Int) : Int := if u < v then 2 else if u = v then 1 else 0
/-- Twice the rank of v among ys, less one. -/
def rankIn (v : Int) (ys : List Int) : Int := sumL (ys.map (oneRank v))
theorem rankIn_snoc (v : Int) (ys : List Int) (y : Int) : rankIn v (ys ++ [y]) = rankIn v ys + oneRank v y := by simp [rankIn, sumL_snoc]
theorem rankIn_take {v : Int} {xs : List Int} {k : Nat} (hk : k < xs.length) : rankIn v (xs.take (k + 1)) = rankIn v (xs.take k) + oneRank v xs[k] := by
  rw [List.take_succ_eq_append_getElem hk, rankIn_snoc]
theorem rankIn_bd (v : Int) (xs : List Int) : ∀ k : Nat, 0 ≤ rankIn v (xs.take k) ∧ rankIn v (xs.take k) ≤ 2 * k := by
  intro k
  induction k with
  | zero => simp [rankIn, sumL]
  | succ k ih =>
    by_cases hk : k < xs.length
    · rw [rankIn_take hk]
      have : 0 ≤ oneRank v xs[k] ∧ oneRank v xs[k] ≤ 2 := by unfold oneRank; split <;> (try split) <;> omega
      omega
    · rw [List.take_of_length_le (by omega)] at ih ⊢
      omega
theorem oneRank_sgn (v u : Int) : oneRank v u = 1 + sgn (v - u) := by unfold oneRank sgn; repeat (first | omega | split)
def winsL (xs ys : List Int) : Int := sumL (xs.map fun x => rankIn x ys)
theorem winsL_take_bd {xs ys : List Int} (hl : ys.length ≤ 10) (k : Nat) : 0 ≤ sumL ((xs.map fun x => rankIn x ys).take k) ∧ sumL ((xs.map fun x => rankIn x ys).take k) ≤ 20 * k := by
  induction k with
  | zero => simp [sumL_nil]
  | succ k ih =>
    by_cases hk : k < (xs.map fun x => rankIn x ys).length
    · rw [sumL_take hk]
      have h2 := rankIn_bd (xs[k]'(by simpa using hk)) ys ys.length
      rw [List.take_length] at h2
      have e : (xs.map fun x => rankIn x ys)[k] = rankIn (xs[k]'(by simpa using hk)) ys := by simp
      omega
    · rw [List.take_of_length_le (by omega)] at ih ⊢
      omega
theorem winsL_take_succ {xs ys : List Int} {k : Nat} (hk : k < xs.length) : sumL ((xs.map fun x => rankIn x ys).take (k + 1)) = sumL ((xs.map fun x => rankIn x ys).take k) + rankIn xs[k] ys := by
  rw [sumL_take (by simpa using hk)]
  simp

set_option maxHeartbeats 1000000 in
theorem winsS_c (u v : Value) (xs ys : List Int) (w : World) (hx : Rd w u xs) (hy : Rd w v ys) (hax : okData xs = true) (hay : okData ys = true) :
    Calls Try.prog 38 #[u, v] w fun e w' => e = .returned (.int .i64 (winsL xs ys)) ∧ Below w.heap.size w w' := by
  obtain ⟨hall1, hlen1⟩ := okData_all hax
  obtain ⟨hall2, hlen2⟩ := okData_all hay
  obtain ⟨A, c, rfl, hc, hm, hcell⟩ := hx
  obtain ⟨A2, c2, rfl, hc2, hm2, hcell2⟩ := hy
  clear hax hay
  go_enter Try.func38, Try.ntmps38
  go_wp2_with fail
  go_loopw [5, 6] (fun s i wr => ∃ k : Nat, k ≤ xs.length ∧ i = .int .i64 k ∧ s = .int .i64 (sumL ((xs.map fun x => rankIn x ys).take k)) ∧ Below w.heap.size w wr) (fun _ i _ => xs.length - (intOf i).toNat)
  case atStart => exact ⟨0, Nat.zero_le _, rfl, rfl, Below.refl _ _⟩
  case round =>
    obtain ⟨k, hk, rfl, rfl, hbel⟩ := hrel
    by_cases hlt : k < xs.length
    · obtain ⟨g, off, rfl, hg, hcl⟩ := hcell (by omega)
      have hxk := allB_get hall1 hlt
      have hS := winsL_take_bd (xs := xs) hlen2 k
      have HS := hide (winsL_take_succ (ys := ys) hlt)
      have hcw : w.cell? ⟨g, off + k, none⟩ = some (.int .i64 xs[k]) := by rw [hcl k hlt, getD_lt hlt]
      obtain ⟨V, hV⟩ : ∃ V, xs[k] = V := ⟨_, rfl⟩
      obtain ⟨S, hS'⟩ : ∃ S, sumL ((xs.map fun x => rankIn x ys).take k) = S := ⟨_, rfl⟩
      rw [hV] at hxk hcw HS
      rw [hS'] at hS HS ⊢
      have HCW := hide hcw
      clear hcell hcl hV hS' hcw
      go_wp2_with fail
      go_loopw [5, 7] (fun s j wr2 => ∃ m : Nat, m ≤ ys.length ∧ j = .int .i64 m ∧ s = .int .i64 (S + rankIn V (ys.take m)) ∧ Below w.heap.size w wr2) (fun _ j _ => ys.length - (intOf j).toNat)
      case atStart => exact ⟨0, Nat.zero_le _, rfl, by simp [rankIn, sumL_nil], hbel⟩
      case round =>
        obtain ⟨m, hml, rfl, rfl, hbel2⟩ := hrel
        by_cases hlm : m < ys.length
        · obtain ⟨g2, off2, rfl, hg2, hcl2⟩ := hcell2 (by omega)
          have hck : wr.cell? ⟨g, off + k, none⟩ = some (.int .i64 V) := (hbel2.cell hg).trans HCW.out
          have hcm : wr.cell? ⟨g2, off2 + m, none⟩ = some (.int .i64 ys[m]) := by rw [hbel2.cell hg2, hcl2 m hlm, getD_lt hlm]
          have hym := allB_get hall2 hlm
          have hR := rankIn_bd V ys m
          have HR : Hid (rankIn V (ys.take (m + 1)) = rankIn V (ys.take m) + (1 + sgn (V - ys[m]))) := by show _ = _; rw [rankIn_take hlm, oneRank_sgn]
          have hsg := sgn_bd (V - ys[m])
          obtain ⟨Z, hZ⟩ : ∃ Z, rankIn V (ys.take m) = Z := ⟨_, rfl⟩
          rw [hZ] at hR HR ⊢
          have hi1 : (k : Int) < (xs.length : Int) := by omega
          have hi2 : (m : Int) < (ys.length : Int) := by omega
          have e1 : IntKind.i64.wrap (V - ys[m]) = V - ys[m] := IntWalk.i64_in _ (by omega)
          have e2 : IntKind.i64.wrap (S + Z + sgn (V - ys[m])) = S + Z + sgn (V - ys[m]) := IntWalk.i64_in _ (by omega)
          have e3 : IntKind.i64.wrap (S + Z + sgn (V - ys[m]) + 1) = S + Z + sgn (V - ys[m]) + 1 := IntWalk.i64_in _ (by omega)
          clear hcl2 hcell2 hZ
          go_wp2_with fail
          go_quiet ((go_at_call 56; exact quiet_eq (signS_c _ _ (by omega))))
          go_wp2
          go_roundw
          case rel => exact ⟨m + 1, by omega, by go_num, by rw [HR.out]; congr 1; omega, below_drewN hbel2 _⟩
          case measure => simp [intOf]; omega
        · obtain rfl : m = ys.length := by omega
          rw [List.take_length]
          go_wp2_with fail
          go_roundw
          case rel => exact ⟨k + 1, by omega, by go_num, by rw [HS.out], hbel2⟩
          case measure => simp [intOf]; omega
    · obtain rfl : k = xs.length := by omega
      have HT : Hid (sumL ((xs.map fun x => rankIn x ys).take xs.length) = winsL xs ys) := by
        show _ = _
        rw [List.take_of_length_le (by simp)]
        rfl
      rw [HT.out]
      go_wp2_with fail
      go_ret
      exact ⟨rfl, hbel⟩

end Go.Proofs.Ytcmjmnlccempfaa
