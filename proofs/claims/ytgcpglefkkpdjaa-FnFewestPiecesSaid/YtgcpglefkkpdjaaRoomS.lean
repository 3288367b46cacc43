/-
  Contracts: RoomTried of the reference.
-/
import Derived.Test.YtgcpglefkkpdjaaFew
import Derived.Test.YtgcpglefkkpdjaaCutQ
namespace Go.Proofs.Ytgcpglefkkpdjaa
open Go.RowKit

/-- What has been found of the pieces that begin at i and end before k. -/
def Found (xs : List Int) (i k : Nat) (p b : Int) : Prop :=
  (b = -1 ∧ ∀ k', i < k' → k' < k → ¬ (k' = xs.length ∨ 1 < p)) ∨
  (0 ≤ b ∧ b ≤ 60 ∧ Feas (xs.drop i) p b ∧ ∀ k', i < k' → k' < k → (k' = xs.length ∨ 1 < p) → ∀ r, sprd xs i k' ≤ r → Feas (xs.drop k') (p - 1) r → b ≤ r)
/-- The least room of the numbers from i on: 0 behind the end. -/
def RFrom (xs : List Int) (i : Nat) (p r : Int) : Prop := (0 ≤ r ∧ r ≤ 60) ∧ if i = xs.length then r = 0 else IsRT (xs.drop i) p r

theorem RFrom.feas {xs : List Int} {k : Nat} {p r : Int} (hp : 1 ≤ p) (h : RFrom xs k (p - 1) r) : Feas (xs.drop k) (p - 1) r ∧ ∀ r', 0 ≤ r' → Feas (xs.drop k) (p - 1) r' → r ≤ r' := by
  obtain ⟨_, h⟩ := h
  split at h
  · next e =>
    subst h
    rw [e, List.drop_length]
    exact ⟨feas_nil _ _ (by omega), fun r' h0 _ => h0⟩
  · exact ⟨h.1, fun r' _ hf => h.2 r' hf⟩
theorem Found.step {xs : List Int} {i k : Nat} {p b r x : Int} (hall : allB (-30) 30 xs = true) (hik : i < k) (hk : k ≤ xs.length) (hp : 1 ≤ p) (h : Found xs i k p b) (hr : RFrom xs k (p - 1) r) (hx : x = max (sprd xs i k) r) :
    0 ≤ x ∧ x ≤ 60 ∧ Found xs i (k + 1) p (if b < 0 ∨ x < b then x else b) := by
  have hs := sprd_bounds hall hik hk
  obtain ⟨hf, hm⟩ := hr.feas hp
  have h0 := hr.1
  have hfx : Feas (xs.drop i) p x := feas_mk hik hk (by omega) (hf.mono (Int.le_refl _) (by omega))
  refine ⟨by omega, by omega, ?_⟩
  have hnew : ∀ r', sprd xs i k ≤ r' → Feas (xs.drop k) (p - 1) r' → x ≤ r' := fun r' h1 h2 => by have := hm r' (by omega) h2; omega
  rcases h with ⟨rfl, hno⟩ | ⟨hb0, hb60, hbf, hbm⟩
  · rw [if_pos (.inl (by omega))]
    refine .inr ⟨by omega, by omega, hfx, fun k' h1 h2 h3 r' h4 h5 => ?_⟩
    by_cases e : k' = k
    · subst e; exact hnew r' h4 h5
    · exact absurd h3 (hno k' h1 (by omega))
  · right
    split
    · next hlt =>
      refine ⟨by omega, by omega, hfx, fun k' h1 h2 h3 r' h4 h5 => ?_⟩
      by_cases e : k' = k
      · subst e; exact hnew r' h4 h5
      · have := hbm k' h1 (by omega) h3 r' h4 h5; omega
    · next hlt =>
      refine ⟨hb0, hb60, hbf, fun k' h1 h2 h3 r' h4 h5 => ?_⟩
      by_cases e : k' = k
      · subst e; have := hnew r' h4 h5; omega
      · exact hbm k' h1 (by omega) h3 r' h4 h5
theorem Found.skip {xs : List Int} {i k : Nat} {p b : Int} (hc : ¬ (k = xs.length ∨ 1 < p)) (h : Found xs i k p b) : Found xs i (k + 1) p b := by
  rcases h with ⟨rfl, hno⟩ | ⟨hb0, hb60, hbf, hbm⟩
  · refine .inl ⟨rfl, fun k' h1 h2 => ?_⟩
    by_cases e : k' = k
    · subst e; exact hc
    · exact hno k' h1 (by omega)
  · refine .inr ⟨hb0, hb60, hbf, fun k' h1 h2 h3 => ?_⟩
    by_cases e : k' = k
    · subst e; exact absurd h3 hc
    · exact hbm k' h1 (by omega) h3
theorem Found.done {xs : List Int} {i : Nat} {p b : Int} (hi : i < xs.length) (h : Found xs i (xs.length + 1) p b) : RFrom xs i p b := by
  rcases h with ⟨rfl, hno⟩ | ⟨hb0, hb60, hbf, hbm⟩
  · exact absurd (.inl rfl) (hno xs.length hi (by omega))
  · refine ⟨⟨hb0, hb60⟩, ?_⟩
    rw [if_neg (by omega)]
    refine ⟨hbf, fun r' hf => ?_⟩
    obtain ⟨k, h1, h2, h3, h4, h5⟩ := feas_cons hi hf
    exact hbm k h1 (by omega) h3 r' h4 h5

set_option maxHeartbeats 2000000 in
theorem roomFrom_c (xs : List Int) (hall : allB (-30) 30 xs = true) (hn : xs.length ≤ 8) : ∀ (d : Nat) (v : Value) (i : Nat) (p : Int) (w : World), xs.length - i ≤ d → Rd w v xs → i ≤ xs.length → (i = xs.length ∨ 1 ≤ p) → -100 ≤ p ∧ p ≤ 100 →
    Calls Try.prog 51 #[v, .int .i64 i, .int .i64 p] w fun e w' => ∃ r : Int, e = .returned (.int .i64 r) ∧ RFrom xs i p r ∧ Below w.heap.size w w' := by
  intro d
  induction d with
  | zero =>
    intro v i p w hd hr hi hp hpb
    obtain rfl : i = xs.length := by omega
    obtain ⟨A, c, rfl, hc, hm, _⟩ := hr
    have HR : Hid (RFrom xs xs.length p 0) := ⟨by omega, by rw [if_pos rfl]⟩
    go_enter Try.func51, Try.ntmps51
    go_wp2_with fail
    go_ret
    exact ⟨0, rfl, HR.out, Below.refl _ _⟩
  | succ d ih =>
    intro v i p w hd hr hi hp hpb
    by_cases hin : i = xs.length
    · subst hin
      obtain ⟨A, c, rfl, hc, hm, _⟩ := hr
      have HR : Hid (RFrom xs xs.length p 0) := ⟨by omega, by rw [if_pos rfl]⟩
      go_enter Try.func51, Try.ntmps51
      go_wp2_with fail
      go_ret
      exact ⟨0, rfl, HR.out, Below.refl _ _⟩
    · have hil : i < xs.length := by omega
      have hp1 : 1 ≤ p := by omega
      have hr' := hr
      obtain ⟨A, c, rfl, hc, hm, hcell⟩ := hr
      obtain ⟨g, off, rfl, hg, hcl⟩ := hcell (by omega)
      have hci : w.cell? ⟨g, off + i, none⟩ = some (.int .i64 xs[i]) := by rw [hcl i hil, getD_lt hil]
      have hb0 : ((i : Int) == (xs.length : Int)) = false := beq_eq_false_iff_ne.2 (by omega)
      have HC := hide hcl
      have HI := hide ih
      have HA := hide hall
      clear hcl hcell ih hall hp hin
      go_enter Try.func51, Try.ntmps51
      go_wp2_with fail
      go_loopw [7, 8, 9, 10] (fun b lo hi kk wr => ∃ (k : Nat) (bv l h : Int), i < k ∧ k ≤ xs.length + 1 ∧ kk = .int .i64 k ∧ b = .int .i64 bv ∧ lo = .int .i64 l ∧ hi = .int .i64 h ∧ Found xs i k p bv ∧ (k ≤ xs.length → l = minL (seg xs i k) ∧ h = maxL (seg xs i k)) ∧ Below w.heap.size w wr)
        (fun _ _ _ kk _ => xs.length + 1 - (intOf kk).toNat)
      case atStart =>
        refine ⟨i + 1, -1, xs[i], xs[i], by omega, by omega, by go_num, rfl, rfl, rfl, .inl ⟨rfl, fun k' h1 h2 => by omega⟩, fun _ => ?_, Below.refl _ _⟩
        rw [seg_single hil]
        exact ⟨rfl, rfl⟩
      case round =>
        obtain ⟨k, bv, l, h, hik, hk, rfl, rfl, rfl, rfl, hf, hlh, hbel⟩ := hrel
        by_cases hlt : k ≤ xs.length
        · obtain ⟨hl, hh⟩ := hlh hlt
          have hsb := sprd_bounds HA.out hik hlt
          have hlb := minL_bounds (seg_allB HA.out i k) (seg_ne hik hlt)
          rw [← hl, ← hh] at hlb
          have hsp : sprd xs i k = h - l := by rw [sprd, ← hl, ← hh]
          rw [hsp] at hsb
          have HX := hide (And.intro hf (And.intro hsp (And.intro hl hh)))
          clear hf hsp hl hh hlh
          have hbv : -1 ≤ bv ∧ bv ≤ 60 := by rcases HX.out.1 with ⟨h1, _⟩ | ⟨h1, h2, _⟩ <;> omega
          by_cases hkn : k = xs.length
          · have hbt : ((k : Int) == (xs.length : Int)) = true := beq_iff_eq.2 (by omega)
            have hge : xs.length ≤ k := by omega
            have HKN := hide hkn
            clear hkn
            go_wp2_with fail
            refine (HI.out _ k (p - 1) _ (by have := HKN.out; omega) (hr'.below hbel) hlt (.inl HKN.out) (by omega)).mono ?_
            rintro e w1 ⟨r, rfl, hres, hb1⟩
            have hr0 : r = 0 := by have := hres.2; rwa [if_pos HKN.out] at this
            have HST := hide (Found.step HA.out hik hlt hp1 HX.out.1 hres rfl)
            rw [HX.out.2.1] at HST
            clear hres
            subst hr0
            rcases (show bv < 0 ∨ (0 ≤ bv ∧ h - l < bv) ∨ (0 ≤ bv ∧ bv ≤ h - l) from by omega) with q1 | ⟨q1, q2⟩ | ⟨q1, q2⟩
            all_goals
              go_wp2_with fail
              go_roundw
              case rel =>
                have h4 := HST.out.2.2
                refine ⟨k + 1, _, _, _, by omega, by omega, by go_num, rfl, rfl, rfl, ?_, ?_, (by (repeat (first | exact Below.refl _ _ | assumption | refine Below.setCell ?_ (by first | (simp; done) | omega | (simp; omega) | (simp at *; omega)) _ | refine Below.drew ?_ | refine below_drewN ?_ _ | refine below_alloc' ?_ _ | refine below_to' ?_ (by assumption))))⟩
                · first | (rw [if_neg (by omega)] at h4; exact h4) | (rw [if_pos (by omega), Int.max_eq_left (by omega)] at h4; exact h4) | (rw [if_pos (by omega), Int.max_eq_right (by omega)] at h4; exact h4)
                · exact fun h5 => absurd h5 (by omega)
              case measure => simp [intOf]; omega
          · have hbf : ((k : Int) == (xs.length : Int)) = false := beq_eq_false_iff_ne.2 (by omega)
            have hkl : k < xs.length := by omega
            have hck : wr.cell? ⟨g, off + k, none⟩ = some (.int .i64 xs[k]) := by rw [hbel.cell hg, HC.out k hkl, getD_lt hkl]
            have HMM : Hid (minL (seg xs i (k + 1)) = min l xs[k] ∧ maxL (seg xs i (k + 1)) = max h xs[k]) := ⟨by rw [seg_succ (by omega) hkl, minL_snoc (seg_ne hik hlt), ← HX.out.2.2.1], by rw [seg_succ (by omega) hkl, maxL_snoc (seg_ne hik hlt), ← HX.out.2.2.2]⟩
            clear hkn
            by_cases hp2 : 1 < p
            · go_wp2_with fail
              refine (HI.out _ k (p - 1) _ (by omega) (hr'.below hbel) hlt (.inr (by omega)) (by omega)).mono ?_
              rintro e w1 ⟨r, rfl, hres, hb1⟩
              have hrb := hres.1
              have hck1 : w1.cell? ⟨g, off + k, none⟩ = some (.int .i64 xs[k]) := by rw [hb1.cell (p := ⟨g, off + k, none⟩) (Nat.lt_of_lt_of_le hg hbel.size)]; exact hck
              have HST := hide (Found.step HA.out hik hlt hp1 HX.out.1 hres rfl)
              rw [HX.out.2.1] at HST
              clear hres
              rcases (show (h - l < r ∧ bv < 0) ∨ (h - l < r ∧ 0 ≤ bv ∧ r < bv) ∨ (h - l < r ∧ 0 ≤ bv ∧ bv ≤ r) ∨ (r ≤ h - l ∧ bv < 0) ∨ (r ≤ h - l ∧ 0 ≤ bv ∧ h - l < bv) ∨ (r ≤ h - l ∧ 0 ≤ bv ∧ bv ≤ h - l) from by omega) with ⟨q1, q2⟩ | ⟨q1, q2, q3⟩ | ⟨q1, q2, q3⟩ | ⟨q1, q2⟩ | ⟨q1, q2, q3⟩ | ⟨q1, q2, q3⟩
              all_goals
                go_wp2_with fail
                go_roundw
                case rel =>
                  have h4 := HST.out.2.2
                  refine ⟨k + 1, _, _, _, by omega, by omega, by go_num, rfl, rfl, rfl, ?_, ?_, (by (repeat (first | exact Below.refl _ _ | assumption | refine Below.setCell ?_ (by first | (simp; done) | omega | (simp; omega) | (simp at *; omega)) _ | refine Below.drew ?_ | refine below_drewN ?_ _ | refine below_alloc' ?_ _ | refine below_to' ?_ (by assumption))))⟩
                  · first | (rw [if_neg (by omega)] at h4; exact h4) | (rw [if_pos (by omega), Int.max_eq_left (by omega)] at h4; exact h4) | (rw [if_pos (by omega), Int.max_eq_right (by omega)] at h4; exact h4)
                  · exact fun _ => ⟨by rw [HMM.out.1, min_if], by rw [HMM.out.2, max_if]⟩
                case measure => simp [intOf]; omega
            · have HST := hide (Found.skip (k := k) (by omega) HX.out.1)
              go_wp2_with fail
              go_roundw
              case rel => exact ⟨k + 1, _, _, _, by omega, by omega, by go_num, rfl, rfl, rfl, HST.out, fun _ => ⟨by rw [HMM.out.1, min_if], by rw [HMM.out.2, max_if]⟩, hbel⟩
              case measure => simp [intOf]; omega
        · obtain rfl : k = xs.length + 1 := by omega
          have HD := hide (hf.done hil)
          clear hf hlh
          go_wp2_with fail
          go_ret
          exact ⟨bv, rfl, HD.out, hbel⟩

/-- What RoomTried returns. -/
def ResRT (xs : List Int) (p r : Int) : Prop := if okSteps xs = true ∧ 1 ≤ p ∧ p ≤ 8 then IsRT xs p r ∧ 0 ≤ r ∧ r ≤ 60 else r = -1
theorem ResRT.eq {xs : List Int} {p r r' : Int} (h : ResRT xs p r) (h' : ResRT xs p r') : r = r' := by
  unfold ResRT at h h'
  split at h
  · next hc => rw [if_pos hc] at h'; exact h.1.eq h'.1
  · next hc => rw [if_neg hc] at h'; omega
theorem ResRT.no {xs : List Int} {p : Int} (hc : ¬ (okSteps xs = true ∧ 1 ≤ p ∧ p ≤ 8)) : ResRT xs p (-1) := by unfold ResRT; rw [if_neg hc]

set_option maxHeartbeats 400000 in
theorem RoomTriedS_c (v : Value) (xs : List Int) (p : Int) (w : World) (hr : Rd w v xs) :
    Calls Try.prog 25 #[v, .int .i64 p] w fun e w' => ∃ r : Int, e = .returned (.int .i64 r) ∧ ResRT xs p r ∧ Below w.heap.size w w' := by
  cases hok : okSteps xs
  · have HR := hide (ResRT.no (xs := xs) (p := p) (by rw [hok]; simp))
    have HO := hide hok
    clear hok
    go_enter Try.func25, Try.ntmps25
    go_wp2_with fail
    refine (validSteps_c _ xs false _ hr HO.out).mono ?_
    rintro e w1 ⟨rfl, rfl⟩
    go_wp2_with fail
    go_ret
    exact ⟨_, rfl, HR.out, Below.refl _ _⟩
  · have HO := hide hok
    obtain ⟨hall, hl1, hl2⟩ := okSteps_all hok
    have HA := hide hall
    clear hok hall
    by_cases hp : 1 ≤ p ∧ p ≤ 8
    · go_enter Try.func25, Try.ntmps25
      go_wp2_with fail
      refine (validSteps_c _ xs true _ hr HO.out).mono ?_
      rintro e w1 ⟨rfl, rfl⟩
      go_wp2_with fail
      refine (inRange_c true _ _ _ _ (by simp; omega)).mono ?_
      rintro e w1 ⟨rfl, rfl⟩
      go_wp2_with fail
      refine (roomFrom_c xs HA.out hl2 xs.length v 0 p _ (by omega) hr (by omega) (.inr hp.1) (by omega)).mono ?_
      rintro e w1 ⟨r, rfl, h1, hb1⟩
      have HX : Hid (ResRT xs p r) := by
        obtain ⟨h2, h3⟩ := h1
        rw [if_neg (by omega), List.drop_zero] at h3
        unfold ResRT
        show ite _ _ _
        rw [if_pos ⟨HO.out, hp⟩]
        exact ⟨h3, h2⟩
      clear h1
      go_wp2_with fail
      go_ret
      exact ⟨_, rfl, HX.out, hb1⟩
    · have HR := hide (ResRT.no (xs := xs) (p := p) (fun h => hp h.2))
      go_enter Try.func25, Try.ntmps25
      go_wp2_with fail
      refine (validSteps_c _ xs true _ hr HO.out).mono ?_
      rintro e w1 ⟨rfl, rfl⟩
      go_wp2_with fail
      refine (inRange_c false _ _ _ _ (by simp; omega)).mono ?_
      rintro e w1 ⟨rfl, rfl⟩
      go_wp2_with fail
      go_ret
      exact ⟨_, rfl, HR.out, Below.refl _ _⟩
end Go.Proofs.Ytgcpglefkkpdjaa
