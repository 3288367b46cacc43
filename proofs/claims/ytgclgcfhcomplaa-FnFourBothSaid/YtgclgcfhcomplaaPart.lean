/-
  Contracts: the ways of hits that may be, for whatever function tells which may; tries; TailChance.
-/
import Derived.Test.YtgclgcfhcomplaaTail
import Derived.Test.YtgclgcfhcomplaaHar
namespace Go.Proofs.Ytgclgcfhcomplaa
open Go.RowKit

/-- The ways of those numbers of hits, up to n, that may be. -/
def partN (may : Nat → Bool) (n : Nat) (u w : Int) (m : Nat) : Int := sumTo (fun h => if may h then termN n h u w else 0) m
theorem partN_succ (may : Nat → Bool) (n : Nat) (u w : Int) (m : Nat) : partN may n u w (m + 1) = partN may n u w m + if may m then termN n m u w else 0 := rfl
theorem partN_bd (may : Nat → Bool) {n : Nat} {u w : Int} (hu : 0 ≤ u) (hw : 0 ≤ w) (hs : u + w ≤ 12) (hn : n ≤ 10) (m : Nat) (hm : m ≤ n + 1) : 0 ≤ partN may n u w m ∧ partN may n u w m ≤ 61917364224 * m := by
  have hp := powN_bd12 (x := u + w) (by omega) (n := n) hn
  have h : ∀ k, k < m → 0 ≤ (if may k then termN n k u w else 0) ∧ (if may k then termN n k u w else 0) ≤ 61917364224 := fun k hk => by
    have := termN_bd hu hw hs hn k (by omega)
    split <;> omega
  exact ⟨sumTo_zero_le fun k hk => (h k hk).1, (sumTo_bd (f := fun h => if may h then termN n h u w else 0) (m := 61917364224) (n := m) fun k hk => by have := h k hk; omega).2⟩

set_option maxHeartbeats 2000000 in
theorem part_c (F : FuncId) (C : Array Value) (may : Nat → Bool) (n : Nat) (u v : Int) (w : World) (hn : n ≤ 10) (hu : 0 ≤ u) (huv : u ≤ v) (hv : v ≤ 12)
    (hcf : ∀ (args : Array Value) (w : World), (callFunc F args).run Try.prog w = .ok (.enter F args) w)
    (hmay : ∀ (h : Nat) (w' : World), h ≤ n → Below w.heap.size w w' → Calls Try.prog F (#[.int .i64 h] ++ C) w' fun e w'' => e = .returned (.bool (may h)) ∧ Below w'.heap.size w' w'') :
    Calls Try.prog 58 #[.int .i64 n, .int .i64 u, .int .i64 v, .func (.func F) #[] C] w fun e w' => e = .returned (.int .i64 (partN may n u (v - u) (n + 1))) ∧ Below w.heap.size w w' := by
  have HM := hide hmay
  clear hmay
  go_enter Try.func58, Try.ntmps58
  go_wp2_with fail
  go_loopw [9, 10] (fun o i wr => ∃ h : Nat, h ≤ n + 1 ∧ i = .int .i64 h ∧ o = .int .i64 (partN may n u (v - u) h) ∧ Below w.heap.size w wr) (fun _ i _ => n + 1 - (intOf i).toNat)
  case atStart => exact ⟨0, Nat.zero_le _, rfl, rfl, Below.refl _ _⟩
  case round =>
    obtain ⟨h, hh, rfl, rfl, hbel⟩ := hrel
    by_cases hlt : h ≤ n
    · have hS := partN_bd may (u := u) (w := v - u) hu (by omega) (by omega) hn h (by omega)
      have hT := termN_bd (u := u) (w := v - u) hu (by omega) (by omega) hn h hlt
      have hP := powN_bd12 (x := u + (v - u)) (by omega) (n := n) hn
      have HS := hide (partN_succ may n u (v - u) h)
      obtain ⟨S, hS'⟩ : ∃ S, partN may n u (v - u) h = S := ⟨_, rfl⟩
      obtain ⟨T, hT'⟩ : ∃ T, termN n h u (v - u) = T := ⟨_, rfl⟩
      obtain ⟨P, hP'⟩ : ∃ P, powN (u + (v - u)) n = P := ⟨_, rfl⟩
      obtain ⟨b, hb⟩ : ∃ b, may h = b := ⟨_, rfl⟩
      rw [hS', hT', hb] at HS
      rw [hS'] at hS ⊢
      rw [hT', hP'] at hT
      rw [hP'] at hP
      have HB := hide hb
      have HT := hide hT'
      clear hS' hT' hP' hb
      go_wp2_with fail
      refine (HM.out h _ hlt hbel).mono ?_
      rw [HB.out]
      rintro e w2 ⟨rfl, hb2⟩
      have hbel2 := hbel.trans (hb2.mono hbel.size)
      cases b
      · go_wp2_with fail
        go_roundw
        case rel => exact ⟨h + 1, by omega, by go_num, by rw [HS.out]; simp, hbel2⟩
        case measure => simp [intOf]; omega
      · go_wp2_with fail
        refine (exactI_c n h u v _ hn hlt hu huv hv).mono ?_
        rw [HT.out]
        rintro e w3 ⟨rfl, rfl⟩
        go_wp2_with fail
        go_roundw
        case rel => exact ⟨h + 1, by omega, by go_num, by rw [HS.out]; simp, hbel2⟩
        case measure => simp [intOf]; omega
    · obtain rfl : h = n + 1 := by omega
      obtain ⟨S, hS'⟩ : ∃ S, partN may n u (v - u) (n + 1) = S := ⟨_, rfl⟩
      rw [hS']
      have HS := hide hS'
      clear hS'
      go_wp2_with fail
      go_ret
      exact ⟨ret_int HS.out.symm, hbel⟩

/-- Tries: n in 0..10, v in 1..12, u in 0..v. -/
def okTries (n u v : Int) : Bool := (decide (0 ≤ n) && decide (n ≤ 10)) && ((decide (1 ≤ v) && decide (v ≤ 12)) && (decide (0 ≤ u) && decide (u ≤ v)))
theorem okTries_iff {n u v : Int} : okTries n u v = true ↔ (0 ≤ n ∧ n ≤ 10) ∧ (1 ≤ v ∧ v ≤ 12) ∧ 0 ≤ u ∧ u ≤ v := by simp [okTries]

set_option maxHeartbeats 1000000 in
theorem triesI_c (n u v : Int) (b : Bool) (w : World) (hb : okTries n u v = b) :
    Calls Try.prog 69 #[.int .i64 n, .int .i64 u, .int .i64 v] w fun e w' => e = .returned (.bool b) ∧ w = w' := by
  subst hb
  obtain ⟨x, hx⟩ : ∃ x, (decide (0 ≤ n) && decide (n ≤ 10)) = x := ⟨_, rfl⟩
  obtain ⟨y, hy⟩ : ∃ y, (decide (1 ≤ v) && decide (v ≤ 12)) = y := ⟨_, rfl⟩
  obtain ⟨z, hz⟩ : ∃ z, (decide (0 ≤ u) && decide (u ≤ v)) = z := ⟨_, rfl⟩
  have HB : Hid (okTries n u v = (x && (y && z))) := by show _ = _; rw [okTries, hx, hy, hz]
  have HX := hide hx
  have HY := hide hy
  have HZ := hide hz
  clear hx hy hz
  cases x
  · go_enter Try.func69, Try.ntmps69
    go_wp2_with fail
    refine (in_c false _ _ _ _ HX.out).mono ?_
    rintro e w' ⟨rfl, rfl⟩
    go_wp2_with fail
    go_ret
    exact ⟨ret_bool HB.out.symm, rfl⟩
  · cases y
    · go_enter Try.func69, Try.ntmps69
      go_wp2_with fail
      refine (in_c true _ _ _ _ HX.out).mono ?_
      rintro e w' ⟨rfl, rfl⟩
      go_wp2_with fail
      refine (in_c false _ _ _ _ HY.out).mono ?_
      rintro e w' ⟨rfl, rfl⟩
      go_wp2_with fail
      go_ret
      exact ⟨ret_bool HB.out.symm, rfl⟩
    · go_enter Try.func69, Try.ntmps69
      go_wp2_with fail
      refine (in_c true _ _ _ _ HX.out).mono ?_
      rintro e w' ⟨rfl, rfl⟩
      go_wp2_with fail
      refine (in_c true _ _ _ _ HY.out).mono ?_
      rintro e w' ⟨rfl, rfl⟩
      go_wp2_with fail
      refine (in_c z _ _ _ _ HZ.out).mono ?_
      rintro e w' ⟨rfl, rfl⟩
      go_wp2_with fail
      go_ret
      exact ⟨ret_bool HB.out.symm, rfl⟩

set_option maxHeartbeats 1000000 in
theorem triesS_c (n u v : Int) (b : Bool) (w : World) (hb : okTries n u v = b) :
    Calls Try.prog 66 #[.int .i64 n, .int .i64 u, .int .i64 v] w fun e w' => e = .returned (.bool b) ∧ w = w' := by
  subst hb
  obtain ⟨x, hx⟩ : ∃ x, (decide (0 ≤ n) && decide (n ≤ 10)) = x := ⟨_, rfl⟩
  obtain ⟨y, hy⟩ : ∃ y, (decide (1 ≤ v) && decide (v ≤ 12)) = y := ⟨_, rfl⟩
  obtain ⟨z, hz⟩ : ∃ z, (decide (0 ≤ u) && decide (u ≤ v)) = z := ⟨_, rfl⟩
  have HB : Hid (okTries n u v = (x && (y && z))) := by show _ = _; rw [okTries, hx, hy, hz]
  have HX := hide hx
  have HY := hide hy
  have HZ := hide hz
  clear hx hy hz
  cases x
  · go_enter Try.func66, Try.ntmps66
    go_wp2_with fail
    refine (inRange_c false _ _ _ _ HX.out).mono ?_
    rintro e w' ⟨rfl, rfl⟩
    go_wp2_with fail
    go_ret
    exact ⟨ret_bool HB.out.symm, rfl⟩
  · cases y
    · go_enter Try.func66, Try.ntmps66
      go_wp2_with fail
      refine (inRange_c true _ _ _ _ HX.out).mono ?_
      rintro e w' ⟨rfl, rfl⟩
      go_wp2_with fail
      refine (inRange_c false _ _ _ _ HY.out).mono ?_
      rintro e w' ⟨rfl, rfl⟩
      go_wp2_with fail
      go_ret
      exact ⟨ret_bool HB.out.symm, rfl⟩
    · go_enter Try.func66, Try.ntmps66
      go_wp2_with fail
      refine (inRange_c true _ _ _ _ HX.out).mono ?_
      rintro e w' ⟨rfl, rfl⟩
      go_wp2_with fail
      refine (inRange_c true _ _ _ _ HY.out).mono ?_
      rintro e w' ⟨rfl, rfl⟩
      go_wp2_with fail
      refine (inRange_c z _ _ _ _ HZ.out).mono ?_
      rintro e w' ⟨rfl, rfl⟩
      go_wp2_with fail
      go_ret
      exact ⟨ret_bool HB.out.symm, rfl⟩

/-- A level: b in 1..100, a in 0..b. -/
def okLevel (a b : Int) : Bool := (decide (1 ≤ b) && decide (b ≤ 100)) && (decide (0 ≤ a) && decide (a ≤ b))
theorem okLevel_iff {a b : Int} : okLevel a b = true ↔ (1 ≤ b ∧ b ≤ 100) ∧ 0 ≤ a ∧ a ≤ b := by simp [okLevel]

set_option maxHeartbeats 1000000 in
theorem levelI_c (p q : Int) (b : Bool) (w : World) (hb : okLevel p q = b) :
    Calls Try.prog 57 #[.int .i64 p, .int .i64 q] w fun e w' => e = .returned (.bool b) ∧ w = w' := by
  subst hb
  obtain ⟨y, hy⟩ : ∃ y, (decide (1 ≤ q) && decide (q ≤ 100)) = y := ⟨_, rfl⟩
  obtain ⟨z, hz⟩ : ∃ z, (decide (0 ≤ p) && decide (p ≤ q)) = z := ⟨_, rfl⟩
  have HB : Hid (okLevel p q = (y && z)) := by show _ = _; rw [okLevel, hy, hz]
  have HY := hide hy
  have HZ := hide hz
  clear hy hz
  cases y
  · go_enter Try.func57, Try.ntmps57
    go_wp2_with fail
    refine (in_c false _ _ _ _ HY.out).mono ?_
    rintro e w' ⟨rfl, rfl⟩
    go_wp2_with fail
    go_ret
    exact ⟨ret_bool HB.out.symm, rfl⟩
  · go_enter Try.func57, Try.ntmps57
    go_wp2_with fail
    refine (in_c true _ _ _ _ HY.out).mono ?_
    rintro e w' ⟨rfl, rfl⟩
    go_wp2_with fail
    refine (in_c z _ _ _ _ HZ.out).mono ?_
    rintro e w' ⟨rfl, rfl⟩
    go_wp2_with fail
    go_ret
    exact ⟨ret_bool HB.out.symm, rfl⟩

set_option maxHeartbeats 1000000 in
theorem levelS_c (p q : Int) (b : Bool) (w : World) (hb : okLevel p q = b) :
    Calls Try.prog 62 #[.int .i64 p, .int .i64 q] w fun e w' => e = .returned (.bool b) ∧ w = w' := by
  subst hb
  obtain ⟨y, hy⟩ : ∃ y, (decide (1 ≤ q) && decide (q ≤ 100)) = y := ⟨_, rfl⟩
  obtain ⟨z, hz⟩ : ∃ z, (decide (0 ≤ p) && decide (p ≤ q)) = z := ⟨_, rfl⟩
  have HB : Hid (okLevel p q = (y && z)) := by show _ = _; rw [okLevel, hy, hz]
  have HY := hide hy
  have HZ := hide hz
  clear hy hz
  cases y
  · go_enter Try.func62, Try.ntmps62
    go_wp2_with fail
    refine (inRange_c false _ _ _ _ HY.out).mono ?_
    rintro e w' ⟨rfl, rfl⟩
    go_wp2_with fail
    go_ret
    exact ⟨ret_bool HB.out.symm, rfl⟩
  · go_enter Try.func62, Try.ntmps62
    go_wp2_with fail
    refine (inRange_c true _ _ _ _ HY.out).mono ?_
    rintro e w' ⟨rfl, rfl⟩
    go_wp2_with fail
    refine (inRange_c z _ _ _ _ HZ.out).mono ?_
    rintro e w' ⟨rfl, rfl⟩
    go_wp2_with fail
    go_ret
    exact ⟨ret_bool HB.out.symm, rfl⟩
end Go.Proofs.Ytgclgcfhcomplaa
