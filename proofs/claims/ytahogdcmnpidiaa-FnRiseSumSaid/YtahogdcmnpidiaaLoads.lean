/-
  Contracts: numbers with weights, and their means, in the program and in its reference.
-/
import Derived.Test.YtahogdcmnpidiaaSq
namespace Go.Proofs.Ytahogdcmnpidiaa
open Go.RowKit

/-- Numbers with weights. -/
def okLoads (xs ws : List Int) : Bool := (decide (1 ≤ (xs.length : Int)) && decide ((xs.length : Int) ≤ 8)) && (decide (xs.length = ws.length) && (allB (-30) 30 xs && allB 1 5 ws))
theorem okLoads_all {xs ws : List Int} (h : okLoads xs ws = true) : 1 ≤ xs.length ∧ xs.length ≤ 8 ∧ xs.length = ws.length ∧ allB (-30) 30 xs = true ∧ allB 1 5 ws = true := by
  simp only [okLoads, Bool.and_eq_true, decide_eq_true_eq] at h
  obtain ⟨⟨h1, h2⟩, h3, h4, h5⟩ := h
  exact ⟨by omega, by omega, h3, h4, h5⟩
theorem okLoads_yes {xs ws : List Int} (h1 : 1 ≤ xs.length) (h2 : xs.length ≤ 8) (h3 : xs.length = ws.length) (h4 : allB (-30) 30 xs = true) (h5 : allB 1 5 ws = true) : okLoads xs ws = true := by
  simp only [okLoads, Bool.and_eq_true, decide_eq_true_eq]
  exact ⟨⟨by omega, by omega⟩, h3, h4, h5⟩

set_option maxHeartbeats 1000000 in
theorem ValidLoadsI_c (u v : Value) (xs ws : List Int) (r : Bool) (w : World) (hx : Rd w u xs) (hy : Rd w v ws) (hr : okLoads xs ws = r) :
    Calls Try.prog 48 #[u, v] w fun e w' => e = .returned (.bool r) ∧ Below w.heap.size w w' := by
  obtain ⟨A, c, rfl, hc, hm, _⟩ := id hx
  obtain ⟨A2, c2, rfl, hc2, hm2, _⟩ := id hy
  cases hin : (decide (1 ≤ (xs.length : Int)) && decide ((xs.length : Int) ≤ 8))
  · obtain rfl : r = false := by rw [← hr, okLoads, hin]; simp
    clear hr
    go_enter Try.func48, Try.ntmps48
    go_wp2_with fail
    refine (in_c false _ _ _ _ hin).mono ?_
    rintro e w1 ⟨rfl, rfl⟩
    go_wp2_with fail
    go_ret
    exact ⟨rfl, Below.refl _ _⟩
  by_cases hl : (ws.length : Int) = (xs.length : Int)
  · have hlb : ((ws.length : Int) == (xs.length : Int)) = true := beq_iff_eq.2 hl
    have hl' : xs.length = ws.length := by omega
    cases hax : allB (-30) 30 xs
    · obtain rfl : r = false := by rw [← hr, okLoads, hax]; simp
      clear hr hl hl'
      go_enter Try.func48, Try.ntmps48
      go_wp2_with fail
      refine (in_c true _ _ _ _ hin).mono ?_
      rintro e w1 ⟨rfl, rfl⟩
      go_wp2_with fail
      refine (allIn_c _ xs (-30) 30 false _ hx hax).mono ?_
      rintro e w2 ⟨rfl, hb2⟩
      go_wp2_with fail
      go_ret
      exact ⟨rfl, hb2⟩
    · have hay : allB 1 5 ws = r := by rw [← hr, okLoads, hin, hax]; simp [hl']
      clear hr hl hl'
      go_enter Try.func48, Try.ntmps48
      go_wp2_with fail
      refine (in_c true _ _ _ _ hin).mono ?_
      rintro e w1 ⟨rfl, rfl⟩
      go_wp2_with fail
      refine (allIn_c _ xs (-30) 30 true _ hx hax).mono ?_
      rintro e w2 ⟨rfl, hb2⟩
      go_wp2_with fail
      refine (allIn_c _ ws 1 5 r _ (hy.below hb2) hay).mono ?_
      rintro e w3 ⟨rfl, hb3⟩
      go_wp2_with fail
      go_ret
      exact ⟨rfl, by (repeat (first | exact Below.refl _ _ | assumption | refine Below.setCell ?_ (by first | (simp; done) | omega | (simp; omega) | (simp at *; omega)) _ | refine Below.drew ?_ | refine below_drewN ?_ _ | refine below_alloc' ?_ _ | refine below_to' ?_ (by assumption)))⟩
  · have hlb : ((ws.length : Int) == (xs.length : Int)) = false := beq_eq_false_iff_ne.2 hl
    obtain rfl : r = false := by rw [← hr, okLoads, decide_eq_false (show ¬ xs.length = ws.length by omega)]; simp
    clear hr hl
    go_enter Try.func48, Try.ntmps48
    go_wp2_with fail
    refine (in_c true _ _ _ _ hin).mono ?_
    rintro e w1 ⟨rfl, rfl⟩
    go_wp2_with fail
    go_ret
    exact ⟨rfl, Below.refl _ _⟩

set_option maxHeartbeats 1000000 in
theorem validLoadsS_c (u v : Value) (xs ws : List Int) (r : Bool) (w : World) (hx : Rd w u xs) (hy : Rd w v ws) (hr : okLoads xs ws = r) :
    Calls Try.prog 45 #[u, v] w fun e w' => e = .returned (.bool r) ∧ w = w' := by
  obtain ⟨A, c, rfl, hc, hm, _⟩ := id hx
  obtain ⟨A2, c2, rfl, hc2, hm2, _⟩ := id hy
  have hA1 := hx.at
  have hA2 := hy.at
  have HR := hide hr
  clear hr hx hy
  go_enter Try.func45, Try.ntmps45
  go_wp2_with fail
  go_loop [5] (fun i => ∃ k : Nat, k ≤ ws.length ∧ i = .int .i64 k ∧ Hid (∀ i, i < k → 1 ≤ atL ws i ∧ atL ws i ≤ 5)) (fun i => ws.length - (intOf i).toNat)
  case atStart => exact ⟨0, Nat.zero_le _, rfl, fun i hi => by omega⟩
  case round =>
    obtain ⟨k, hk, rfl, hall⟩ := hrel
    by_cases hlt : k < ws.length
    · obtain ⟨g2, off2, rfl, hg2, hcl2⟩ := hA2 (by omega)
      have hc1 := hcl2 k hlt
      cases h1 : (decide (1 ≤ atL ws k) && decide (atL ws k ≤ 5))
      · have HF : Hid (r = false) := by show _ = _; rw [← HR.out, okLoads, allB_bad hlt h1]; simp
        have H1 := hide h1
        obtain ⟨x, hxe⟩ : ∃ x, atL ws k = x := ⟨_, rfl⟩
        rw [hxe] at hc1 H1
        clear hcl2 hA1 hA2 hxe h1
        go_wp2_with fail
        refine (inRange_c false _ _ _ _ H1.out).mono ?_
        rintro e w1 ⟨rfl, rfl⟩
        go_wp2_with fail
        go_ret
        exact ⟨ret_bool HF.out.symm, rfl⟩
      · have HN : Hid (∀ i, i < k + 1 → 1 ≤ atL ws i ∧ atL ws i ≤ 5) := fun i hi => by
          by_cases e : i = k
          · subst e; simp at h1; omega
          · exact hall.out i (by omega)
        have H1 := hide h1
        obtain ⟨x, hxe⟩ : ∃ x, atL ws k = x := ⟨_, rfl⟩
        rw [hxe] at hc1 H1
        clear hcl2 hA1 hA2 hxe h1
        go_wp2_with fail
        refine (inRange_c true _ _ _ _ H1.out).mono ?_
        rintro e w1 ⟨rfl, rfl⟩
        go_wp2_with fail
        go_round
        case rel => exact ⟨k + 1, by omega, by go_num, HN⟩
        case measure => simp [intOf]; omega
    · have hke : k = ws.length := by omega
      have HW : Hid (allB 1 5 ws = true) := allB_of_at fun i hi => hall.out i (by omega)
      have hd : ¬ (k : Int) < (ws.length : Int) := by omega
      clear hall hke hA2
      go_wp2_with fail
      go_loop [6] (fun i => ∃ k : Nat, k ≤ xs.length ∧ i = .int .i64 k ∧ Hid (∀ i, i < k → -30 ≤ atL xs i ∧ atL xs i ≤ 30)) (fun i => xs.length - (intOf i).toNat)
      case atStart => exact ⟨0, Nat.zero_le _, rfl, fun i hi => by omega⟩
      case round =>
        obtain ⟨k, hk, rfl, hall⟩ := hrel
        by_cases hlt : k < xs.length
        · obtain ⟨g2, off2, rfl, hg2, hcl2⟩ := hA1 (by omega)
          have hc1 := hcl2 k hlt
          cases h1 : (decide (-30 ≤ atL xs k) && decide (atL xs k ≤ 30))
          · have HF : Hid (r = false) := by show _ = _; rw [← HR.out, okLoads, allB_bad hlt h1]; simp
            have H1 := hide h1
            obtain ⟨x, hxe⟩ : ∃ x, atL xs k = x := ⟨_, rfl⟩
            rw [hxe] at hc1 H1
            clear hcl2 hA1 hxe h1
            go_wp2_with fail
            refine (inRange_c false _ _ _ _ H1.out).mono ?_
            rintro e w1 ⟨rfl, rfl⟩
            go_wp2_with fail
            go_ret
            exact ⟨ret_bool HF.out.symm, rfl⟩
          · have HN : Hid (∀ i, i < k + 1 → -30 ≤ atL xs i ∧ atL xs i ≤ 30) := fun i hi => by
              by_cases e : i = k
              · subst e; simp at h1; omega
              · exact hall.out i (by omega)
            have H1 := hide h1
            obtain ⟨x, hxe⟩ : ∃ x, atL xs k = x := ⟨_, rfl⟩
            rw [hxe] at hc1 H1
            clear hcl2 hA1 hxe h1
            go_wp2_with fail
            refine (inRange_c true _ _ _ _ H1.out).mono ?_
            rintro e w1 ⟨rfl, rfl⟩
            go_wp2_with fail
            go_round
            case rel => exact ⟨k + 1, by omega, by go_num, HN⟩
            case measure => simp [intOf]; omega
        · have hke : k = xs.length := by omega
          have hd : ¬ (k : Int) < (xs.length : Int) := by omega
          have HX : Hid (allB (-30) 30 xs = true) := allB_of_at fun i hi => hall.out i (by omega)
          by_cases hl : (xs.length : Int) = (ws.length : Int)
          · have hlb : ((xs.length : Int) == (ws.length : Int)) = true := beq_iff_eq.2 hl
            have HF : Hid ((decide (1 ≤ (xs.length : Int)) && decide ((xs.length : Int) ≤ 8)) = r) := by
              show _ = _
              rw [← HR.out, okLoads, HW.out, HX.out, decide_eq_true (show xs.length = ws.length by omega)]
              simp
            clear hA1 hl hke hall
            go_wp2_with fail
            refine (inRange_c r _ _ _ _ HF.out).mono ?_
            rintro e w1 ⟨rfl, rfl⟩
            go_wp2_with fail
            go_ret
            exact ⟨rfl, rfl⟩
          · have hlb : ((xs.length : Int) == (ws.length : Int)) = false := beq_eq_false_iff_ne.2 hl
            have HF : Hid (r = false) := by show _ = _; rw [← HR.out, okLoads, decide_eq_false (show ¬ xs.length = ws.length by omega)]; simp
            clear hA1 hl hke hall
            go_wp2_with fail
            go_ret
            exact ⟨ret_bool HF.out.symm, rfl⟩

/-- The sum of n numbers from i on, each times its weight; the sum of their weights; their mean. -/
def upTo (xs ws : List Int) (i n : Nat) : Int := sumTo (fun j => atL xs (i + j) * atL ws (i + j)) n
def dnTo (ws : List Int) (i n : Nat) : Int := sumTo (fun j => atL ws (i + j)) n
def meanR (xs ws : List Int) (i n : Nat) : Rat := qf (upTo xs ws i n) (dnTo ws i n)
theorem upTo_succ (xs ws : List Int) (i n : Nat) : upTo xs ws i (n + 1) = upTo xs ws i n + atL xs (i + n) * atL ws (i + n) := rfl
theorem dnTo_succ (ws : List Int) (i n : Nat) : dnTo ws i (n + 1) = dnTo ws i n + atL ws (i + n) := rfl
theorem upTo_bd {xs ws : List Int} (h1 : allB (-30) 30 xs = true) (h2 : allB 1 5 ws = true) {i n : Nat} (hx : i + n ≤ xs.length) (hw : i + n ≤ ws.length) : -(150 * (n : Int)) ≤ upTo xs ws i n ∧ upTo xs ws i n ≤ 150 * n :=
  sumTo_bd fun j hj => sq_le' (m := 30) (n := 5) (allB_at h1 (by omega)) (by have := allB_at h2 (j := i + j) (by omega); omega)
theorem dnTo_bd {ws : List Int} (h2 : allB 1 5 ws = true) {i n : Nat} (hw : i + n ≤ ws.length) : (n : Int) ≤ dnTo ws i n ∧ dnTo ws i n ≤ 5 * n := by
  have h1 := sumTo_le (f := fun _ => 1) (g := fun j => atL ws (i + j)) (n := n) fun j hj => (allB_at h2 (by omega)).1
  have h3 := sumTo_le (f := fun j => atL ws (i + j)) (g := fun _ => 5) (n := n) fun j hj => (allB_at h2 (by omega)).2
  rw [sumTo_const] at h1 h3
  exact ⟨by show _ ≤ sumTo _ n; omega, h3⟩
theorem mean_sm {xs ws : List Int} (h1 : allB (-30) 30 xs = true) (h2 : allB 1 5 ws = true) {i n : Nat} (hn : 1 ≤ n) (hn8 : n ≤ 8) (hx : i + n ≤ xs.length) (hw : i + n ≤ ws.length) : Sm (meanR xs ws i n) := by
  have b1 := upTo_bd h1 h2 hx hw
  have b2 := dnTo_bd h2 hw
  exact (FB.qf (D := dnTo ws i n) (M := 1200) (m := upTo xs ws i n) (by omega)).sm (by omega) (by omega) (by omega)

set_option maxHeartbeats 2000000 in
theorem meanS_c (u v : Value) (xs ws : List Int) (i n : Nat) (K : Int) (w : World) (hx : Rd w u xs) (hy : Rd w v ws) (h1 : allB (-30) 30 xs = true) (h2 : allB 1 5 ws = true) (hn : 1 ≤ n) (hn8 : n ≤ 8) (hin : i + n ≤ xs.length) (hiw : i + n ≤ ws.length) (hi8 : i ≤ 8) (hK : K = (i : Int) + n - 1) :
    Calls Try.prog 46 #[u, v, .int .i64 i, .int .i64 K] w fun e w' => e = .returned (.agg #[.int .i64 (meanR xs ws i n).num, .int .i64 ((meanR xs ws i n).den : Int)]) ∧ Below w.heap.size w w' := by
  obtain ⟨A, c, rfl, hc, hm, _⟩ := id hx
  obtain ⟨A2, c2, rfl, hc2, hm2, _⟩ := id hy
  have hU := fun k (hk : k ≤ n) => upTo_bd h1 h2 (i := i) (n := k) (by omega) (by omega)
  have hD := fun k (hk : k ≤ n) => dnTo_bd h2 (i := i) (n := k) (by omega)
  have hAX := fun k (hk : k < xs.length) => allB_at h1 hk
  have hAW := fun k (hk : k < ws.length) => allB_at h2 hk
  have F : Hid (∀ w, Calls Try.prog 56 #[.int .i64 (upTo xs ws i n), .int .i64 (dnTo ws i n)] w fun e w' => e = .returned (.agg #[.int .i64 (meanR xs ws i n).num, .int .i64 ((meanR xs ws i n).den : Int)]) ∧ Below w.heap.size w w') := fun w =>
    fracS_c (upTo xs ws i n) (dnTo ws i n) w (by have := hU n (Nat.le_refl _); omega) (by have := hD n (Nat.le_refl _); omega) (by have := hD n (Nat.le_refl _); omega)
  obtain ⟨r, hr⟩ : ∃ r, meanR xs ws i n = r := ⟨_, rfl⟩
  rw [hr] at F ⊢
  obtain ⟨W, hW, hbW, hWs, HR⟩ : ∃ W, w.alloc (.cells #[.int .i64 0, .int .i64 0] 31) = W ∧ Below w.heap.size w W ∧ w.heap.size < W.heap.size ∧ ∀ wz, Below W.heap.size W wz → wz.cell? ⟨w.heap.size, 0, none⟩ = some (.int .i64 0) ∧ wz.cell? ⟨w.heap.size, 1, none⟩ = some (.int .i64 0) ∧ wz.frozen? ⟨w.heap.size, 0, none⟩ = false ∧ wz.frozen? ⟨w.heap.size, 1, none⟩ = false := by
    refine ⟨_, rfl, by (repeat (first | exact Below.refl _ _ | assumption | refine Below.setCell ?_ (by first | (simp; done) | omega | (simp; omega) | (simp at *; omega)) _ | refine Below.drew ?_ | refine below_drewN ?_ _ | refine below_alloc' ?_ _ | refine below_to' ?_ (by assumption))), by simp, fun wz hz => ⟨?_, ?_, ?_, ?_⟩⟩
    all_goals first | (rw [hz.cell (by simp; try omega)]; simp [go_sem]; done) | (rw [hz.frozen (by simp; try omega)]; simp [go_sem]; done)
  have HR := hide HR
  have hxW := hx.below hbW
  have hyW := hy.below hbW
  have HK := hide hK
  clear hr h1 h2 hK hx hy
  go_enter Try.func46, Try.ntmps46
  go_wp2_with fail
  go_loopw [9, 10, 11] (fun a b x wr => ∃ k : Nat, k ≤ n ∧ x = .int .i64 ((i : Int) + k) ∧ a = .int .i64 (upTo xs ws i k) ∧ b = .int .i64 (dnTo ws i k) ∧ Below W.heap.size W wr) (fun _ _ x _ => i + n - (intOf x).toNat)
  case atStart => exact ⟨0, by omega, by simp, rfl, rfl, Below.refl _ _⟩
  case round =>
    obtain ⟨k, hk, rfl, rfl, rfl, hbel⟩ := hrel
    by_cases hlt : k < n
    · obtain ⟨g, off, rfl, hg, hcl⟩ := hxW.at (by omega)
      obtain ⟨g2, off2, rfl, hg2, hcl2⟩ := hyW.at (by omega)
      have hc1 : wr.cell? ⟨g, off + (i + k), none⟩ = some (.int .i64 (atL xs (i + k))) := (hbel.cell (p := ⟨g, off + (i + k), none⟩) hg).trans (hcl (i + k) (by omega))
      have hc2 : wr.cell? ⟨g2, off2 + (i + k), none⟩ = some (.int .i64 (atL ws (i + k))) := (hbel.cell (p := ⟨g2, off2 + (i + k), none⟩) hg2).trans (hcl2 (i + k) (by omega))
      have B1 := hU k hk
      have B2 := hD k hk
      have C1 := hU (k + 1) hlt
      have C2 := hD (k + 1) hlt
      have HA1 := hide (upTo_succ xs ws i k)
      have HA2 := hide (dnTo_succ ws i k)
      rw [HA1.out] at C1
      rw [HA2.out] at C2
      have X1 := hAX (i + k) (by omega)
      have Y1 := hAW (i + k) (by omega)
      have M1 := sq_le' (m := 30) (n := 5) X1 (y := atL ws (i + k)) (by omega)
      obtain ⟨x, hxe⟩ : ∃ x, atL xs (i + k) = x := ⟨_, rfl⟩
      obtain ⟨y, hye⟩ : ∃ x, atL ws (i + k) = x := ⟨_, rfl⟩
      obtain ⟨p, hpe⟩ : ∃ x, upTo xs ws i k = x := ⟨_, rfl⟩
      obtain ⟨q, hqe⟩ : ∃ x, dnTo ws i k = x := ⟨_, rfl⟩
      rw [hxe] at hc1 X1 M1 C1 HA1
      rw [hye] at hc2 Y1 M1 C1 C2 HA1 HA2
      rw [hpe] at B1 C1 HA1 ⊢
      rw [hqe] at B2 C2 HA2 ⊢
      have hle : (i : Int) + k ≤ K := by have := HK.out; omega
      have i1 : (i : Int) + k < (xs.length : Int) := by omega
      have i2 : (i : Int) + k < (ws.length : Int) := by omega
      have i0 : (0 : Int) ≤ (i : Int) + k := by omega
      have iN : ((i : Int) + k).toNat = i + k := by omega
      have e1 : IntKind.i64.wrap (x * y) = x * y := IntWalk.i64_in _ (by omega)
      have e3 : IntKind.i64.wrap (p + x * y) = p + x * y := IntWalk.i64_in _ (by omega)
      have hK8 : K ≤ 100 := by have := HK.out; omega
      clear hxe hye hpe hqe hcl hcl2 M1 C1 hU hD hAX hAW
      go_wp2_with fail
      go_quiet (fail)
      go_wp2_with fail
      clear e1 e3
      go_roundw
      case rel => exact ⟨k + 1, by omega, by go_num, by rw [HA1.out], by rw [HA2.out], by (repeat (first | exact Below.refl _ _ | assumption | refine Below.setCell ?_ (by first | (simp; done) | omega | (simp; omega) | (simp at *; omega)) _ | refine Below.drew ?_ | refine below_drewN ?_ _ | refine below_alloc' ?_ _ | refine below_to' ?_ (by assumption)))⟩
      case measure => simp [intOf]; omega
    · obtain rfl : k = n := by omega
      have hgt : ¬ (i : Int) + k ≤ K := by have := HK.out; omega
      have hz := hbel.size
      obtain ⟨P, hP⟩ : ∃ P, upTo xs ws i k = P := ⟨_, rfl⟩
      obtain ⟨D, hD'⟩ : ∃ P, dnTo ws i k = P := ⟨_, rfl⟩
      rw [hP, hD'] at F ⊢
      clear hU hD hAX hAW hP hD'
      go_wp2_with fail
      refine (F.out _).mono ?_
      rintro e wf ⟨rfl, hbf⟩
      have hbz := hbel.trans (hbf.mono hbel.size)
      obtain ⟨m1, m2, m3, m4⟩ := HR.out _ hbz
      have hbw := hbW.trans (hbz.mono hbW.size)
      have hs1 : w.heap.size < wf.heap.size := by have := hbz.size; omega
      go_wp2_with fail
      refine bodyPost_ret (v := .agg #[.int .i64 (r).num, .int .i64 ((r).den : Int)]) (by simp [results, Try.results46, go_sem, m1, m2]) rfl ⟨rfl, ?_⟩
      (repeat (first | exact Below.refl _ _ | assumption | refine Below.setCell ?_ (by first | (simp; done) | omega | (simp; omega) | (simp at *; omega)) _ | refine Below.drew ?_ | refine below_drewN ?_ _ | refine below_alloc' ?_ _ | refine below_to' ?_ (by assumption)))
set_option maxHeartbeats 2000000 in
theorem meanI_c (u v : Value) (xs ws : List Int) (i n : Nat) (K : Int) (w : World) (hx : Rd w u xs) (hy : Rd w v ws) (h1 : allB (-30) 30 xs = true) (h2 : allB 1 5 ws = true) (hn : 1 ≤ n) (hn8 : n ≤ 8) (hin : i + n ≤ xs.length) (hiw : i + n ≤ ws.length) (hi8 : i ≤ 8) (hK : K = (i : Int) + n - 1) :
    Calls Try.prog 49 #[u, v, .int .i64 i, .int .i64 K] w fun e w' => e = .returned (.agg #[.int .i64 (meanR xs ws i n).num, .int .i64 ((meanR xs ws i n).den : Int)]) ∧ Below w.heap.size w w' := by
  obtain ⟨A, c, rfl, hc, hm, _⟩ := id hx
  obtain ⟨A2, c2, rfl, hc2, hm2, _⟩ := id hy
  have hU := fun k (hk : k ≤ n) => upTo_bd h1 h2 (i := i) (n := k) (by omega) (by omega)
  have hD := fun k (hk : k ≤ n) => dnTo_bd h2 (i := i) (n := k) (by omega)
  have hAX := fun k (hk : k < xs.length) => allB_at h1 hk
  have hAW := fun k (hk : k < ws.length) => allB_at h2 hk
  have F : Hid (∀ w, Calls Try.prog 84 #[.int .i64 (upTo xs ws i n), .int .i64 (dnTo ws i n)] w fun e w' => e = .returned (.agg #[.int .i64 (meanR xs ws i n).num, .int .i64 ((meanR xs ws i n).den : Int)]) ∧ Below w.heap.size w w') := fun w =>
    frac_c (upTo xs ws i n) (dnTo ws i n) w (by have := hU n (Nat.le_refl _); omega) (by have := hD n (Nat.le_refl _); omega) (by have := hD n (Nat.le_refl _); omega)
  obtain ⟨r, hr⟩ : ∃ r, meanR xs ws i n = r := ⟨_, rfl⟩
  rw [hr] at F ⊢
  obtain ⟨W, hW, hbW, hWs, HR⟩ : ∃ W, w.alloc (.cells #[.int .i64 0, .int .i64 0] 31) = W ∧ Below w.heap.size w W ∧ w.heap.size < W.heap.size ∧ ∀ wz, Below W.heap.size W wz → wz.cell? ⟨w.heap.size, 0, none⟩ = some (.int .i64 0) ∧ wz.cell? ⟨w.heap.size, 1, none⟩ = some (.int .i64 0) ∧ wz.frozen? ⟨w.heap.size, 0, none⟩ = false ∧ wz.frozen? ⟨w.heap.size, 1, none⟩ = false := by
    refine ⟨_, rfl, by (repeat (first | exact Below.refl _ _ | assumption | refine Below.setCell ?_ (by first | (simp; done) | omega | (simp; omega) | (simp at *; omega)) _ | refine Below.drew ?_ | refine below_drewN ?_ _ | refine below_alloc' ?_ _ | refine below_to' ?_ (by assumption))), by simp, fun wz hz => ⟨?_, ?_, ?_, ?_⟩⟩
    all_goals first | (rw [hz.cell (by simp; try omega)]; simp [go_sem]; done) | (rw [hz.frozen (by simp; try omega)]; simp [go_sem]; done)
  have HR := hide HR
  have hxW := hx.below hbW
  have hyW := hy.below hbW
  have HK := hide hK
  clear hr h1 h2 hK hx hy
  go_enter Try.func49, Try.ntmps49
  go_wp2_with fail
  go_loopw [9, 10, 11] (fun a b x wr => ∃ k : Nat, k ≤ n ∧ x = .int .i64 ((i : Int) + k) ∧ a = .int .i64 (upTo xs ws i k) ∧ b = .int .i64 (dnTo ws i k) ∧ Below W.heap.size W wr) (fun _ _ x _ => i + n - (intOf x).toNat)
  case atStart => exact ⟨0, by omega, by simp, rfl, rfl, Below.refl _ _⟩
  case round =>
    obtain ⟨k, hk, rfl, rfl, rfl, hbel⟩ := hrel
    by_cases hlt : k < n
    · obtain ⟨g, off, rfl, hg, hcl⟩ := hxW.at (by omega)
      obtain ⟨g2, off2, rfl, hg2, hcl2⟩ := hyW.at (by omega)
      have hc1 : wr.cell? ⟨g, off + (i + k), none⟩ = some (.int .i64 (atL xs (i + k))) := (hbel.cell (p := ⟨g, off + (i + k), none⟩) hg).trans (hcl (i + k) (by omega))
      have hc2 : wr.cell? ⟨g2, off2 + (i + k), none⟩ = some (.int .i64 (atL ws (i + k))) := (hbel.cell (p := ⟨g2, off2 + (i + k), none⟩) hg2).trans (hcl2 (i + k) (by omega))
      have B1 := hU k hk
      have B2 := hD k hk
      have C1 := hU (k + 1) hlt
      have C2 := hD (k + 1) hlt
      have HA1 := hide (upTo_succ xs ws i k)
      have HA2 := hide (dnTo_succ ws i k)
      rw [HA1.out] at C1
      rw [HA2.out] at C2
      have X1 := hAX (i + k) (by omega)
      have Y1 := hAW (i + k) (by omega)
      have M1 := sq_le' (m := 30) (n := 5) X1 (y := atL ws (i + k)) (by omega)
      obtain ⟨x, hxe⟩ : ∃ x, atL xs (i + k) = x := ⟨_, rfl⟩
      obtain ⟨y, hye⟩ : ∃ x, atL ws (i + k) = x := ⟨_, rfl⟩
      obtain ⟨p, hpe⟩ : ∃ x, upTo xs ws i k = x := ⟨_, rfl⟩
      obtain ⟨q, hqe⟩ : ∃ x, dnTo ws i k = x := ⟨_, rfl⟩
      rw [hxe] at hc1 X1 M1 C1 HA1
      rw [hye] at hc2 Y1 M1 C1 C2 HA1 HA2
      rw [hpe] at B1 C1 HA1 ⊢
      rw [hqe] at B2 C2 HA2 ⊢
      have hle : (i : Int) + k ≤ K := by have := HK.out; omega
      have i1 : (i : Int) + k < (xs.length : Int) := by omega
      have i2 : (i : Int) + k < (ws.length : Int) := by omega
      have i0 : (0 : Int) ≤ (i : Int) + k := by omega
      have iN : ((i : Int) + k).toNat = i + k := by omega
      have e1 : IntKind.i64.wrap (x * y) = x * y := IntWalk.i64_in _ (by omega)
      have e3 : IntKind.i64.wrap (p + x * y) = p + x * y := IntWalk.i64_in _ (by omega)
      have hK8 : K ≤ 100 := by have := HK.out; omega
      clear hxe hye hpe hqe hcl hcl2 M1 C1 hU hD hAX hAW
      go_wp2_with fail
      go_quiet (fail)
      go_wp2_with fail
      clear e1 e3
      go_roundw
      case rel => exact ⟨k + 1, by omega, by go_num, by rw [HA1.out], by rw [HA2.out], by (repeat (first | exact Below.refl _ _ | assumption | refine Below.setCell ?_ (by first | (simp; done) | omega | (simp; omega) | (simp at *; omega)) _ | refine Below.drew ?_ | refine below_drewN ?_ _ | refine below_alloc' ?_ _ | refine below_to' ?_ (by assumption)))⟩
      case measure => simp [intOf]; omega
    · obtain rfl : k = n := by omega
      have hgt : ¬ (i : Int) + k ≤ K := by have := HK.out; omega
      have hz := hbel.size
      obtain ⟨P, hP⟩ : ∃ P, upTo xs ws i k = P := ⟨_, rfl⟩
      obtain ⟨D, hD'⟩ : ∃ P, dnTo ws i k = P := ⟨_, rfl⟩
      rw [hP, hD'] at F ⊢
      clear hU hD hAX hAW hP hD'
      go_wp2_with fail
      refine (F.out _).mono ?_
      rintro e wf ⟨rfl, hbf⟩
      have hbz := hbel.trans (hbf.mono hbel.size)
      obtain ⟨m1, m2, m3, m4⟩ := HR.out _ hbz
      have hbw := hbW.trans (hbz.mono hbW.size)
      have hs1 : w.heap.size < wf.heap.size := by have := hbz.size; omega
      go_wp2_with fail
      refine bodyPost_ret (v := .agg #[.int .i64 (r).num, .int .i64 ((r).den : Int)]) (by simp [results, Try.results49, go_sem, m1, m2]) rfl ⟨rfl, ?_⟩
      (repeat (first | exact Below.refl _ _ | assumption | refine Below.setCell ?_ (by first | (simp; done) | omega | (simp; omega) | (simp at *; omega)) _ | refine Below.drew ?_ | refine below_drewN ?_ _ | refine below_alloc' ?_ _ | refine below_to' ?_ (by assumption)))
end Go.Proofs.Ytahogdcmnpidiaa
