/-
  Contracts: LeastRoom, of the reference and of the program; the statement FnExactLeastRoom.
-/
import Derived.Test.YtgcpglefkkpdjaaFew
namespace Go.Proofs.Ytgcpglefkkpdjaa
open Go.RowKit

theorem fw60 {xs : List Int} (hok : okSteps xs = true) {p : Int} (hp : 1 ≤ p) : ((fw (60 : Nat) xs xs.length).length : Int) ≤ p := by
  rw [fw_wide (okSteps_all hok).1 (by omega) _ (Nat.le_refl _)]
  simpa using hp

set_option maxHeartbeats 400000 in
theorem roomNeeded_c (v : Value) (xs : List Int) (p : Int) (w : World) (hr : Rd w v xs) (hok : okSteps xs = true) (hp : 1 ≤ p ∧ p ≤ 8) :
    Calls Try.prog 49 #[v, .int .i64 p] w fun e w' => ∃ r : Nat, e = .returned (.int .i64 r) ∧ IsLR xs p r ∧ r ≤ 60 ∧ Below w.heap.size w w' := by
  obtain ⟨hp1, hp2⟩ := hp
  have H60 := hide (fw60 hok hp1)
  have HO := hide hok
  clear hok
  go_enter Try.func49, Try.ntmps49
  go_wp2_with fail
  go_loopw [5] (fun i wr => ∃ r : Nat, r ≤ 60 ∧ i = .int .i64 r ∧ (∀ r' : Nat, r' < r → p < ((fw r' xs xs.length).length : Int)) ∧ Below w.heap.size w wr) (fun i _ => 61 - (intOf i).toNat)
  case atStart => exact ⟨0, by omega, rfl, fun r' h => absurd h (by omega), Below.refl _ _⟩
  case round =>
    obtain ⟨r, hr60, rfl, hall, hbel⟩ := hrel
    have HA := hide hall
    clear hall
    go_wp2_with fail
    refine (FewestPiecesS_yes v xs r _ (hr.below hbel) HO.out hr60).mono ?_
    rintro e w1 ⟨v1, rfl, hs1, hb1⟩
    obtain ⟨A1, c1, rfl, hc1, hm1, _⟩ := hs1
    have hln := ints'_len (fw r xs xs.length)
    have hfl := fw_len r xs xs.length
    obtain ⟨len, hlen⟩ : ∃ n, n = (fw r xs xs.length).length := ⟨_, rfl⟩
    rw [← hlen] at hln hfl
    rw [hln]
    have HL := hide hlen
    clear hln hlen
    by_cases hle : (len : Int) ≤ p
    · have hfl2 : len ≤ 9 := by have := okSteps_all HO.out; omega
      go_wp2_with fail
      go_ret
      exact ⟨r, rfl, ⟨by rw [← HL.out]; exact hle, HA.out⟩, hr60, (by (repeat (first | exact Below.refl _ _ | assumption | refine Below.setCell ?_ (by first | (simp; done) | omega | (simp; omega) | (simp at *; omega)) _ | refine Below.drew ?_ | refine below_drewN ?_ _ | refine below_alloc' ?_ _ | refine below_to' ?_ (by assumption))))⟩
    · have hr59 : r < 60 := by
        rcases Nat.lt_or_ge r 60 with h | h
        · exact h
        · obtain rfl : r = 60 := by omega
          have := H60.out
          rw [← HL.out] at this
          omega
      have hfl2 : len ≤ 9 := by have := okSteps_all HO.out; omega
      go_wp2_with fail
      go_roundw
      case rel =>
        refine ⟨r + 1, by omega, by go_num, fun r' h => ?_, (by (repeat (first | exact Below.refl _ _ | assumption | refine Below.setCell ?_ (by first | (simp; done) | omega | (simp; omega) | (simp at *; omega)) _ | refine Below.drew ?_ | refine below_drewN ?_ _ | refine below_alloc' ?_ _ | refine below_to' ?_ (by assumption))))⟩
        by_cases h2 : r' = r
        · subst h2; rw [← HL.out]; omega
        · exact HA.out r' (by omega)
      case measure => simp [intOf]; omega

set_option maxHeartbeats 400000 in
theorem cutValid_c (v : Value) (xs : List Int) (p : Int) (b : Bool) (w : World) (hr : Rd w v xs) (hb : (okSteps xs && (decide (1 ≤ p) && decide (p ≤ 8))) = b) :
    Calls Try.prog 50 #[v, .int .i64 p] w fun e w' => e = .returned (.bool b) ∧ Below w.heap.size w w' := by
  cases hok : okSteps xs
  · rw [hok] at hb
    have HB := hide hb
    have HO := hide hok
    clear hok hb
    go_enter Try.func50, Try.ntmps50
    go_wp2_with fail
    refine (rowValid_c _ xs false _ hr HO.out).mono ?_
    rintro e w1 ⟨rfl, hb1⟩
    go_wp2_with fail
    go_ret
    exact ⟨ret_bool HB.out, hb1⟩
  · rw [hok, Bool.true_and] at hb
    have HB := hide hb
    have HO := hide hok
    clear hok hb
    go_enter Try.func50, Try.ntmps50
    go_wp2_with fail
    refine (rowValid_c _ xs true _ hr HO.out).mono ?_
    rintro e w1 ⟨rfl, hb1⟩
    go_wp2_with fail
    refine (in_c b _ _ _ _ HB.out).mono ?_
    rintro e w' ⟨rfl, rfl⟩
    go_wp2_with fail
    go_ret
    exact ⟨rfl, hb1⟩

/-- What LeastRoom returns. -/
def ResLR (xs : List Int) (p r : Int) : Prop := if okSteps xs = true ∧ 1 ≤ p ∧ p ≤ 8 then ∃ n : Nat, r = n ∧ IsLR xs p n ∧ n ≤ 60 else r = -1
theorem ResLR.eq {xs : List Int} {p r r' : Int} (h : ResLR xs p r) (h' : ResLR xs p r') : r = r' := by
  unfold ResLR at h h'
  split at h
  · next hc =>
    rw [if_pos hc] at h'
    obtain ⟨n, rfl, h1, _⟩ := h
    obtain ⟨n', rfl, h2, _⟩ := h'
    rw [h1.eq h2]
  · next hc =>
    rw [if_neg hc] at h'
    omega

set_option maxHeartbeats 400000 in
theorem LeastRoomS_c (v : Value) (xs : List Int) (p : Int) (w : World) (hr : Rd w v xs) :
    Calls Try.prog 23 #[v, .int .i64 p] w fun e w' => ∃ r : Int, e = .returned (.int .i64 r) ∧ ResLR xs p r ∧ Below w.heap.size w w' := by
  cases hok : okSteps xs
  · have HR : Hid (ResLR xs p (-1)) := by unfold ResLR; show ite _ _ _; rw [if_neg (by rw [hok]; simp)]
    have HO := hide hok
    clear hok
    go_enter Try.func23, Try.ntmps23
    go_wp2_with fail
    refine (validSteps_c _ xs false _ hr HO.out).mono ?_
    rintro e w1 ⟨rfl, rfl⟩
    go_wp2_with fail
    go_ret
    exact ⟨_, rfl, HR.out, Below.refl _ _⟩
  · have HO := hide hok
    by_cases hp : 1 ≤ p ∧ p ≤ 8
    · have HR : Hid (∀ n : Nat, IsLR xs p n → n ≤ 60 → ResLR xs p n) := fun n h1 h2 => by unfold ResLR; rw [if_pos ⟨hok, hp⟩]; exact ⟨n, rfl, h1, h2⟩
      clear hok
      go_enter Try.func23, Try.ntmps23
      go_wp2_with fail
      refine (validSteps_c _ xs true _ hr HO.out).mono ?_
      rintro e w1 ⟨rfl, rfl⟩
      go_wp2_with fail
      refine (inRange_c true _ _ _ _ (by simp; omega)).mono ?_
      rintro e w1 ⟨rfl, rfl⟩
      go_wp2_with fail
      refine (roomNeeded_c v xs p _ hr HO.out hp).mono ?_
      rintro e w1 ⟨r, rfl, h1, h2, hb1⟩
      have HX := hide (HR.out r h1 h2)
      clear h1
      go_wp2_with fail
      go_ret
      exact ⟨_, rfl, HX.out, hb1⟩
    · have HR : Hid (ResLR xs p (-1)) := by unfold ResLR; show ite _ _ _; rw [if_neg (by rintro ⟨_, h⟩; exact hp h)]
      clear hok
      go_enter Try.func23, Try.ntmps23
      go_wp2_with fail
      refine (validSteps_c _ xs true _ hr HO.out).mono ?_
      rintro e w1 ⟨rfl, rfl⟩
      go_wp2_with fail
      refine (inRange_c false _ _ _ _ (by simp; omega)).mono ?_
      rintro e w1 ⟨rfl, rfl⟩
      go_wp2_with fail
      go_ret
      exact ⟨_, rfl, HR.out, Below.refl _ _⟩

set_option maxHeartbeats 400000 in
theorem LeastRoomI_c (v : Value) (xs : List Int) (p : Int) (w : World) (hr : Rd w v xs) :
    Calls Try.prog 24 #[v, .int .i64 p] w fun e w' => ∃ r : Int, e = .returned (.int .i64 r) ∧ ResLR xs p r ∧ Below w.heap.size w w' := by
  by_cases hc : okSteps xs = true ∧ 1 ≤ p ∧ p ≤ 8
  · have HR : Hid (∀ n : Nat, IsLR xs p n → n ≤ 60 → ResLR xs p n) := fun n h1 h2 => by unfold ResLR; rw [if_pos hc]; exact ⟨n, rfl, h1, h2⟩
    obtain ⟨hok, hp1, hp2⟩ := hc
    have HO := hide hok
    have H60 := hide (fw60 hok hp1)
    obtain ⟨hall, hl1, hl2⟩ := okSteps_all hok
    have HA := hide hall
    clear hok hall
    go_enter Try.func24, Try.ntmps24
    go_wp2_with fail
    refine (cutValid_c v xs p true _ hr (by rw [HO.out]; simp; omega)).mono ?_
    rintro e w1 ⟨rfl, hb1⟩
    go_wp2_with fail
    go_loopw [5] (fun i wr => ∃ r : Nat, r ≤ 60 ∧ i = .int .i64 r ∧ (∀ r' : Nat, r' < r → p < ((fw r' xs xs.length).length : Int)) ∧ Below w.heap.size w wr) (fun i _ => 61 - (intOf i).toNat)
    case atStart => exact ⟨0, by omega, rfl, fun r' h => absurd h (by omega), hb1⟩
    case round =>
      obtain ⟨r, hr60, rfl, hall, hbel⟩ := hrel
      have HA2 := hide hall
      clear hall
      go_wp2_with fail
      refine (fewest_c v xs r _ (hr.below hbel) HA.out hl1 hl2).mono ?_
      rintro e w2 ⟨v1, rfl, hs1, hb2⟩
      obtain ⟨A1, c1, rfl, hc1, hm1, _⟩ := hs1
      have hln := ints'_len (fw r xs xs.length)
      have hfl := fw_len r xs xs.length
      obtain ⟨len, hlen⟩ : ∃ n, n = (fw r xs xs.length).length := ⟨_, rfl⟩
      rw [← hlen] at hln hfl
      rw [hln]
      have HL := hide hlen
      clear hln hlen
      by_cases hle : (len : Int) ≤ p
      · go_wp2_with fail
        go_ret
        exact ⟨r, rfl, HR.out r ⟨by rw [← HL.out]; exact hle, HA2.out⟩ hr60, (by (repeat (first | exact Below.refl _ _ | assumption | refine Below.setCell ?_ (by first | (simp; done) | omega | (simp; omega) | (simp at *; omega)) _ | refine Below.drew ?_ | refine below_drewN ?_ _ | refine below_alloc' ?_ _ | refine below_to' ?_ (by assumption))))⟩
      · have hr59 : r < 60 := by
          rcases Nat.lt_or_ge r 60 with h | h
          · exact h
          · obtain rfl : r = 60 := by omega
            have := H60.out
            rw [← HL.out] at this
            omega
        go_wp2_with fail
        go_roundw
        case rel =>
          refine ⟨r + 1, by omega, by go_num, fun r' h => ?_, (by (repeat (first | exact Below.refl _ _ | assumption | refine Below.setCell ?_ (by first | (simp; done) | omega | (simp; omega) | (simp at *; omega)) _ | refine Below.drew ?_ | refine below_drewN ?_ _ | refine below_alloc' ?_ _ | refine below_to' ?_ (by assumption))))⟩
          by_cases h2 : r' = r
          · subst h2; rw [← HL.out]; omega
          · exact HA2.out r' (by omega)
        case measure => simp [intOf]; omega
  · have HR : Hid (ResLR xs p (-1)) := by unfold ResLR; show ite _ _ _; rw [if_neg hc]
    have HC : Hid ((okSteps xs && (decide (1 ≤ p) && decide (p ≤ 8))) = false) := by
      show _ = _
      cases h : okSteps xs
      · rfl
      · simp; intro h1; rcases Int.lt_or_le 8 p with h2 | h2
        · exact h2
        · exact absurd ⟨h, h1, h2⟩ hc
    clear hc
    go_enter Try.func24, Try.ntmps24
    go_wp2_with fail
    refine (cutValid_c v xs p false _ hr HC.out).mono ?_
    rintro e w1 ⟨rfl, hb1⟩
    go_wp2_with fail
    go_ret
    exact ⟨_, rfl, HR.out, hb1⟩

set_option maxHeartbeats 1000000 in
theorem FnExactLeastRoom_c (v : Value) (xs : List Int) (p : Int) (w : World) (hr : Rd w v xs) :
    Calls Try.prog 5 #[v, .int .i64 p] w fun e w' => e = .returned (.bool true) ∧ Below w.heap.size w w' := by
  have hr' := hr
  obtain ⟨A, c, rfl, hc, hm, _⟩ := hr
  by_cases hl : 1048576 < xs.length
  · go_enter Try.func5, Try.ntmps5
    go_wp2
    go_ret
    exact ⟨rfl, Below.refl _ _⟩
  · go_enter Try.func5, Try.ntmps5
    go_wp2_with fail
    refine (toIntS_c _ xs _ hr' (by omega)).mono ?_
    rintro e w1 ⟨v1, rfl, hs1, hb1⟩
    go_wp2_with fail
    refine (LeastRoomS_c _ xs p _ hs1.rd).mono ?_
    rintro e w2 ⟨r, rfl, hres, hb2⟩
    have HR := hide hres
    clear hres
    go_wp2_with fail
    refine (toIntS_c _ xs _ (Rd.below hr' (by (repeat (first | exact Below.refl _ _ | assumption | refine Below.setCell ?_ (by first | (simp; done) | omega | (simp; omega) | (simp at *; omega)) _ | refine Below.drew ?_ | refine below_drewN ?_ _ | refine below_alloc' ?_ _ | refine below_to' ?_ (by assumption))))) (by omega)).mono ?_
    rintro e w3 ⟨x0, rfl, hs3, hb3⟩
    go_wp2_with fail
    refine (LeastRoomI_c _ xs p _ hs3.rd).mono ?_
    rintro e w4 ⟨r', rfl, hres, hb4⟩
    obtain rfl := hres.eq HR.out
    clear hres
    go_wp2_with fail
    refine (toIntS_c _ xs _ (Rd.below hr' (by (repeat (first | exact Below.refl _ _ | assumption | refine Below.setCell ?_ (by first | (simp; done) | omega | (simp; omega) | (simp at *; omega)) _ | refine Below.drew ?_ | refine below_drewN ?_ _ | refine below_alloc' ?_ _ | refine below_to' ?_ (by assumption))))) (by omega)).mono ?_
    rintro e w6 ⟨v6, rfl, hs6, hb6⟩
    go_wp2_with fail
    refine (eqIntS_c _ _ xs xs true _ (Rd.below hs3.rd (by (repeat (first | exact Below.refl _ _ | assumption | refine Below.setCell ?_ (by first | (simp; done) | omega | (simp; omega) | (simp at *; omega)) _ | refine Below.drew ?_ | refine below_drewN ?_ _ | refine below_alloc' ?_ _ | refine below_to' ?_ (by assumption))))) hs6.rd (by simp)).mono ?_
    rintro e w7 ⟨rfl, hb7⟩
    go_wp2_with fail
    go_ret
    refine ⟨rfl, ?_⟩
    (repeat (first | exact Below.refl _ _ | assumption | refine Below.setCell ?_ (by first | (simp; done) | omega | (simp; omega) | (simp at *; omega)) _ | refine Below.drew ?_ | refine below_drewN ?_ _ | refine below_alloc' ?_ _ | refine below_to' ?_ (by assumption)))
end Go.Proofs.Ytgcpglefkkpdjaa
