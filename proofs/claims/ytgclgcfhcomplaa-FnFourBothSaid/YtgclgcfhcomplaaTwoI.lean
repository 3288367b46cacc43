/-
  Contracts: the functions that TwoSides of the program hands on.
-/
import Derived.Test.YtgclgcfhcomplaaTwoS
namespace Go.Proofs.Ytgclgcfhcomplaa
open Go.RowKit

/-- A contract of a callee that leaves the world as it is, for a region that draws. -/
theorem quiet_eq {P : Program} {f : FuncId} {args : Array Value} {w : World} {n : Nat} {v : Value} (h : Calls P f args (w.drewN n) fun e w' => e = .returned v ∧ w.drewN n = w') :
    Calls P f args (w.drewN n) fun e w'' => e = .returned v ∧ ∃ m, w'' = w.drewN m := h.mono fun _ _ ⟨he, hm⟩ => ⟨he, n, hm.symm⟩

theorem callFuncTwo1 (args : Array Value) (w : World) : (callFunc 73 args).run Try.prog w = .ok (.enter 73 args) w := by kernel_rfl
theorem callFuncTwo2 (args : Array Value) (w : World) : (callFunc 74 args).run Try.prog w = .ok (.enter 74 args) w := by kernel_rfl
theorem callFuncTwo4 (args : Array Value) (w : World) : (callFunc 76 args).run Try.prog w = .ok (.enter 76 args) w := by kernel_rfl
theorem callFuncTwo5 (args : Array Value) (w : World) : (callFunc 78 args).run Try.prog w = .ok (.enter 78 args) w := by kernel_rfl

set_option maxHeartbeats 400000 in
theorem two1_c (h : Nat) (k : Int) (p : Nat) (w : World) (hp : w.cell? ⟨p, 0, none⟩ = some (.int .i64 k)) :
    Calls Try.prog 73 #[.int .i64 h, .pointer (some ⟨p, 0, none⟩)] w fun e w' => e = .returned (.bool (decide (k ≤ h))) ∧ Below w.heap.size w w' := by
  go_enter Try.func73, Try.ntmps73
  go_wp2
  go_ret
  exact ⟨rfl, Below.refl _ _⟩

set_option maxHeartbeats 400000 in
theorem two2_c (h : Nat) (k : Int) (p : Nat) (w : World) (hp : w.cell? ⟨p, 0, none⟩ = some (.int .i64 k)) :
    Calls Try.prog 74 #[.int .i64 h, .pointer (some ⟨p, 0, none⟩)] w fun e w' => e = .returned (.bool (decide ((h : Int) ≤ k))) ∧ Below w.heap.size w w' := by
  go_enter Try.func74, Try.ntmps74
  go_wp2
  go_ret
  exact ⟨rfl, Below.refl _ _⟩

/-- How far so many hits are off, as the program reckons it. -/
def farI (n : Nat) (u v : Int) (h : Nat) : Int := max ((n : Int) * v * h - (n : Int) * n * u) (-((n : Int) * v * h - (n : Int) * n * u))

set_option maxHeartbeats 1000000 in
theorem two3_c (n h : Nat) (u v : Int) (p q r : Nat) (w : World) (hn : n ≤ 10) (hh : h ≤ 10) (hu : 0 ≤ u ∧ u ≤ 12) (hv : 0 ≤ v ∧ v ≤ 12)
    (hp : w.cell? ⟨p, 0, none⟩ = some (.int .i64 n)) (hq : w.cell? ⟨q, 0, none⟩ = some (.int .i64 v)) (hr : w.cell? ⟨r, 0, none⟩ = some (.int .i64 u)) :
    Calls Try.prog 75 #[.int .i64 h, .pointer (some ⟨p, 0, none⟩), .pointer (some ⟨q, 0, none⟩), .pointer (some ⟨r, 0, none⟩)] w fun e w' => e = .returned (.int .i64 (farI n u v h)) ∧ w = w' := by
  have m1 := mul_pos_bd (a := (n : Int)) (b := v) (m := 10) (n := 12) (by omega) hv
  have m2 := mul_pos_bd (a := (n : Int)) (b := (n : Int)) (m := 10) (n := 10) (by omega) (by omega)
  have m3 := mul_pos_bd (a := (n : Int) * v) (b := (h : Int)) (m := 120) (n := 10) (by omega) (by omega)
  have m4 := mul_pos_bd (a := (n : Int) * n) (b := u) (m := 100) (n := 12) (by omega) hu
  have HF : Hid (farI n u v h = max ((n : Int) * v * h - (n : Int) * n * u) (-((n : Int) * v * h - (n : Int) * n * u))) := rfl
  by_cases c : (n : Int) * v * h - (n : Int) * n * u < -((n : Int) * v * h - (n : Int) * n * u)
  all_goals
    go_enter Try.func75, Try.ntmps75
    go_wp2
    go_ret
    exact ⟨ret_int (by rw [HF.out]; omega), rfl⟩

set_option maxRecDepth 100000 in
set_option maxHeartbeats 1000000 in
theorem two4_c (n h k : Nat) (u v : Int) (p q r s : Nat) (w : World) (hn : n ≤ 10) (hh : h ≤ n) (hk : k ≤ n) (hu : 0 ≤ u) (huv : u ≤ v) (hv : v ≤ 12)
    (hp : w.cell? ⟨p, 0, none⟩ = some (.int .i64 n)) (hq : w.cell? ⟨q, 0, none⟩ = some (.int .i64 u)) (hr : w.cell? ⟨r, 0, none⟩ = some (.int .i64 v)) (hs : w.cell? ⟨s, 0, none⟩ = some (.int .i64 k)) :
    Calls Try.prog 76 #[.int .i64 h, .pointer (some ⟨p, 0, none⟩), .pointer (some ⟨q, 0, none⟩), .pointer (some ⟨r, 0, none⟩), .pointer (some ⟨s, 0, none⟩)] w fun e w' => e = .returned (.bool (likelyP n k u v h)) ∧ ∃ m, w' = w.drewN m := by
  have HB : Hid (likelyP n k u v h = decide (termN n h u (v - u) ≤ termN n k u (v - u))) := rfl
  have c1 := fun w => exactI_c n h u v w hn hh hu huv hv
  have c2 := fun w => exactI_c n k u v w hn hk hu huv hv
  obtain ⟨T, hT⟩ : ∃ L, termN n h u (v - u) = L := ⟨_, rfl⟩
  obtain ⟨TK, hTK⟩ : ∃ L, termN n k u (v - u) = L := ⟨_, rfl⟩
  rw [hT, hTK] at HB
  rw [hT] at c1
  rw [hTK] at c2
  have C1 := hide c1
  have C2 := hide c2
  clear hT hTK c1 c2
  go_enter Try.func76, Try.ntmps76
  go_wp2_with fail
  go_quiet ((go_at_call 77; first | with_reducible exact quiet_eq (C1.out _) | with_reducible exact quiet_eq (C2.out _)))
  go_wp2
  go_ret
  exact ⟨ret_bool HB.out.symm, _, rfl⟩
end Go.Proofs.Ytgclgcfhcomplaa
