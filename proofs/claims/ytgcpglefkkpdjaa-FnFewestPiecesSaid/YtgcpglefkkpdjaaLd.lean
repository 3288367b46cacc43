/-
  The statements FnRoomTried and FnLeastRoom: for every code they return true and write nothing that was there.
-/
import Derived.Test.YtgcpglefkkpdjaaRoomI
import Derived.Test.YtgcpglefkkpdjaaRoomLaw
import Derived.Test.YtgcpglefkkpdjaaHelp
import Derived.Test.YtgcpglefkkpdjaaDraws9
namespace Go.Proofs.Ytgcpglefkkpdjaa
open Go.RowKit

theorem okSteps_rev (xs : List Int) : okSteps xs.reverse = okSteps xs := by rw [okSteps, okSteps, okSteps_rev', List.length_reverse]
theorem ResRT.rev {xs : List Int} {p r r' : Int} (h : ResRT xs p r) (h' : ResRT xs.reverse p r') : r' = r := by
  unfold ResRT at h h'
  rw [okSteps_rev] at h'
  split at h
  · next hc => rw [if_pos hc] at h'; exact h'.1.eq (isRT_rev h.1)
  · next hc => rw [if_neg hc] at h'; omega
theorem ResRT.more {xs : List Int} {p r r' : Int} (h : ResRT xs p r) (h0 : 0 ≤ r) (h' : ResRT xs (p + 1) r') : r' ≤ r := by
  unfold ResRT at h h'
  split at h
  · next hc =>
    split at h'
    · exact h'.1.2 _ (h.1.1.mono (by omega) (Int.le_refl _))
    · omega
  · omega

set_option maxHeartbeats 1000000 in
theorem FnRoomTried_c (A : Option Addr) (n c : Nat) (bs : List Int) (w : World) (hl : bs.length = n) (hnc : n ≤ c) (hc : c ≤ 9223372036854775807) (hr : Rd8 w w.heap.size A bs) :
    Calls Try.prog 8 #[.slice A n c] w fun e w' => e = .returned (.bool true) ∧ Below w.heap.size w w' := by
  by_cases hbig : 1048576 < n
  · go_enter Try.func8, Try.ntmps8
    go_wp2
    go_ret
    exact ⟨rfl, Below.refl _ _⟩
  · go_enter Try.func8, Try.ntmps8
    go_wp2_with fail
    refine (DrawRoomTried_c A n c bs _ hl hnc hc hr).mono ?_
    rintro e w1 ⟨v, xs, p, rfl, hsl, hxl, hp1, hp2, hb1⟩
    have hrd := hsl.rd
    go_wp2_with fail
    refine (RoomTriedI_c _ xs p _ hrd).mono ?_
    rintro e w2 ⟨r, rfl, hres, hb2⟩
    have HR := hide hres
    clear hres
    go_wp2_with fail
    refine (RoomTriedS_c _ xs p _ (Rd.below hrd (by (repeat (first | exact Below.refl _ _ | assumption | refine Below.setCell ?_ (by first | (simp; done) | omega | (simp; omega) | (simp at *; omega)) _ | refine Below.drew ?_ | refine below_drewN ?_ _ | refine below_alloc' ?_ _ | refine below_to' ?_ (by assumption)))))).mono ?_
    rintro e w3 ⟨r', rfl, hres, hb3⟩
    obtain rfl := HR.out.eq hres
    clear hres
    by_cases h0 : r < 0
    · go_wp2_with fail
      refine (RoomTriedS_c _ xs p _ (Rd.below hrd (by (repeat (first | exact Below.refl _ _ | assumption | refine Below.setCell ?_ (by first | (simp; done) | omega | (simp; omega) | (simp at *; omega)) _ | refine Below.drew ?_ | refine below_drewN ?_ _ | refine below_alloc' ?_ _ | refine below_to' ?_ (by assumption)))))).mono ?_
      rintro e w4 ⟨r', rfl, hres, hb4⟩
      obtain rfl := HR.out.eq hres
      clear hres
      go_wp2_with fail
      go_ret
      refine ⟨ret_bool (by simp), ?_⟩
      (repeat (first | exact Below.refl _ _ | assumption | refine Below.setCell ?_ (by first | (simp; done) | omega | (simp; omega) | (simp at *; omega)) _ | refine Below.drew ?_ | refine below_drewN ?_ _ | refine below_alloc' ?_ _ | refine below_to' ?_ (by assumption)))
    · go_wp2_with fail
      refine (turned_c _ xs _ (Rd.below hrd (by (repeat (first | exact Below.refl _ _ | assumption | refine Below.setCell ?_ (by first | (simp; done) | omega | (simp; omega) | (simp at *; omega)) _ | refine Below.drew ?_ | refine below_drewN ?_ _ | refine below_alloc' ?_ _ | refine below_to' ?_ (by assumption))))) (by omega)).mono ?_
      rintro e w4 ⟨v4, rfl, hs4, hb4⟩
      go_wp2_with fail
      refine (RoomTriedI_c _ xs.reverse p _ hs4.rd).mono ?_
      rintro e w5 ⟨r', rfl, hres, hb5⟩
      obtain rfl := HR.out.rev hres
      clear hres
      go_wp2_with fail
      refine (RoomTriedI_c _ xs (p + 1) _ (Rd.below hrd (by (repeat (first | exact Below.refl _ _ | assumption | refine Below.setCell ?_ (by first | (simp; done) | omega | (simp; omega) | (simp at *; omega)) _ | refine Below.drew ?_ | refine below_drewN ?_ _ | refine below_alloc' ?_ _ | refine below_to' ?_ (by assumption)))))).mono ?_
      rintro e w6 ⟨r', rfl, hres, hb6⟩
      have hle := HR.out.more (by omega) hres
      clear hres
      go_wp2_with fail
      go_ret
      refine ⟨ret_bool (by simp [hle]), ?_⟩
      (repeat (first | exact Below.refl _ _ | assumption | refine Below.setCell ?_ (by first | (simp; done) | omega | (simp; omega) | (simp at *; omega)) _ | refine Below.drew ?_ | refine below_drewN ?_ _ | refine below_alloc' ?_ _ | refine below_to' ?_ (by assumption)))

theorem ResLR.rt {xs : List Int} {p r r' : Int} (h : ResLR xs p r) (h0 : 0 ≤ r) (h' : ResRT xs p r') : r' = r := by
  unfold ResLR at h
  unfold ResRT at h'
  split at h
  · next hc =>
    rw [if_pos hc] at h'
    obtain ⟨n, rfl, h1, _⟩ := h
    exact h'.1.eq (lr_rt (okSteps_all hc.1).2.1 h1)
  · omega
theorem isRT_one {xs : List Int} {r : Int} (hn : 0 < xs.length) (h : IsRT xs 1 r) : r = maxL xs - minL xs := by
  have h1 := h.2 (maxL xs - minL xs) ⟨[xs], by simp, by simp, fun l hl => by
    simp only [List.mem_singleton] at hl
    subst hl
    exact ⟨by rintro rfl; simp at hn, Int.le_refl _⟩⟩
  obtain ⟨k, _, _, k3, k4, _⟩ := feas_cons (i := 0) hn (by simpa using h.1)
  have : k = xs.length := by omega
  subst this
  rw [sprd, seg_all] at k4
  omega
theorem isRT_many {xs : List Int} {p r : Int} (hp : (xs.length : Int) ≤ p) (h0 : 0 ≤ r) (h : IsRT xs p r) : r = 0 := by
  have h1 := h.2 0 ⟨xs.map fun x => [x], by simp [List.flatten_eq_flatMap, List.flatMap_map], by simpa using hp, fun l hl => by
    obtain ⟨x, _, rfl⟩ := List.mem_map.1 hl
    simp [maxL, minL]⟩
  omega
/-- What a least room must be, as the statement asks. -/
theorem ResLR.facts {xs : List Int} {p r : Int} (h : ResLR xs p r) (h0 : 0 ≤ r) : okSteps xs = true ∧ 1 ≤ p ∧ p ≤ 8 ∧ (p ≤ 1 → r = maxL xs - minL xs) ∧ ((xs.length : Int) ≤ p → r = 0) := by
  unfold ResLR at h
  split at h
  · next hc =>
    obtain ⟨n, rfl, h1, _⟩ := h
    have hl := (okSteps_all hc.1).2.1
    have hrt := lr_rt hl h1
    refine ⟨hc.1, hc.2.1, hc.2.2, fun hp => ?_, fun hp => isRT_many hp h0 hrt⟩
    have : p = 1 := by omega
    subst this
    exact isRT_one hl hrt
  · omega

set_option maxHeartbeats 1000000 in
theorem FnLeastRoom_c (A : Option Addr) (n c : Nat) (bs : List Int) (w : World) (hl : bs.length = n) (hnc : n ≤ c) (hc : c ≤ 9223372036854775807) (hr : Rd8 w w.heap.size A bs) :
    Calls Try.prog 10 #[.slice A n c] w fun e w' => e = .returned (.bool true) ∧ Below w.heap.size w w' := by
  by_cases hbig : 1048576 < n
  · go_enter Try.func10, Try.ntmps10
    go_wp2
    go_ret
    exact ⟨rfl, Below.refl _ _⟩
  · go_enter Try.func10, Try.ntmps10
    go_wp2_with fail
    refine (DrawLeastRoom_c A n c bs _ hl hnc hc hr).mono ?_
    rintro e w1 ⟨v, xs, p, rfl, hsl, hxl, hp1, hp2, hb1⟩
    have hrd := hsl.rd
    obtain ⟨Av, cv, rfl, hcv, hmv, _⟩ := id hrd
    go_wp2_with fail
    refine (LeastRoomI_c _ xs p _ hrd).mono ?_
    rintro e w2 ⟨r, rfl, hres, hb2⟩
    have HR := hide hres
    clear hres
    go_wp2_with fail
    refine (LeastRoomS_c _ xs p _ (Rd.below hrd (by (repeat (first | exact Below.refl _ _ | assumption | refine Below.setCell ?_ (by first | (simp; done) | omega | (simp; omega) | (simp at *; omega)) _ | refine Below.drew ?_ | refine below_drewN ?_ _ | refine below_alloc' ?_ _ | refine below_to' ?_ (by assumption)))))).mono ?_
    rintro e w3 ⟨r', rfl, hres, hb3⟩
    obtain rfl := HR.out.eq hres
    clear hres
    by_cases h0 : r < 0
    · go_wp2_with fail
      refine (LeastRoomS_c _ xs p _ (Rd.below hrd (by (repeat (first | exact Below.refl _ _ | assumption | refine Below.setCell ?_ (by first | (simp; done) | omega | (simp; omega) | (simp at *; omega)) _ | refine Below.drew ?_ | refine below_drewN ?_ _ | refine below_alloc' ?_ _ | refine below_to' ?_ (by assumption)))))).mono ?_
      rintro e w4 ⟨r', rfl, hres, hb4⟩
      obtain rfl := HR.out.eq hres
      clear hres
      go_wp2_with fail
      go_ret
      refine ⟨ret_bool (by simp), ?_⟩
      (repeat (first | exact Below.refl _ _ | assumption | refine Below.setCell ?_ (by first | (simp; done) | omega | (simp; omega) | (simp at *; omega)) _ | refine Below.drew ?_ | refine below_drewN ?_ _ | refine below_alloc' ?_ _ | refine below_to' ?_ (by assumption)))
    · obtain ⟨hok, hpa, hpb, hone, hmany⟩ := HR.out.facts (by omega)
      obtain ⟨hall, hl1, hl2⟩ := okSteps_all hok
      have HA := hide hall
      have hne : xs ≠ [] := by rintro rfl; simp at hl1
      have hmm := minL_bounds hall hne
      have hng := negL_max hne
      have HO := hide hone
      have HM := hide hmany
      have HN := hide hng
      clear hall hok hone hmany hng hne
      have hbig : allB (-1000000000) 1000000000 xs = true := allB_iff.2 fun x hx => by have := allB_iff.1 HA.out x hx; omega
      have HB := hide hbig
      clear hbig
      go_wp2_with fail
      refine (RoomTriedI_c _ xs p _ (Rd.below hrd (by (repeat (first | exact Below.refl _ _ | assumption | refine Below.setCell ?_ (by first | (simp; done) | omega | (simp; omega) | (simp at *; omega)) _ | refine Below.drew ?_ | refine below_drewN ?_ _ | refine below_alloc' ?_ _ | refine below_to' ?_ (by assumption)))))).mono ?_
      rintro e w4 ⟨r', rfl, hres, hb4⟩
      obtain rfl := HR.out.rt (by omega) hres
      clear hres
      by_cases hp : 1 < p
      · by_cases hpl : p < xs.length
        · go_wp2_with fail
          go_ret
          refine ⟨rfl, ?_⟩
          (repeat (first | exact Below.refl _ _ | assumption | refine Below.setCell ?_ (by first | (simp; done) | omega | (simp; omega) | (simp at *; omega)) _ | refine Below.drew ?_ | refine below_drewN ?_ _ | refine below_alloc' ?_ _ | refine below_to' ?_ (by assumption)))
        · obtain rfl := HM.out (by omega)
          go_wp2_with fail
          go_ret
          refine ⟨rfl, ?_⟩
          (repeat (first | exact Below.refl _ _ | assumption | refine Below.setCell ?_ (by first | (simp; done) | omega | (simp; omega) | (simp at *; omega)) _ | refine Below.drew ?_ | refine below_drewN ?_ _ | refine below_alloc' ?_ _ | refine below_to' ?_ (by assumption)))
      · obtain rfl := HO.out (by omega)
        go_wp2_with fail
        refine (greatest_c _ xs _ (Rd.below hrd (by (repeat (first | exact Below.refl _ _ | assumption | refine Below.setCell ?_ (by first | (simp; done) | omega | (simp; omega) | (simp at *; omega)) _ | refine Below.drew ?_ | refine below_drewN ?_ _ | refine below_alloc' ?_ _ | refine below_to' ?_ (by assumption))))) hl1).mono ?_
        rintro e w5 ⟨rfl, rfl⟩
        go_wp2_with fail
        refine (negated_c _ xs _ (Rd.below hrd (by (repeat (first | exact Below.refl _ _ | assumption | refine Below.setCell ?_ (by first | (simp; done) | omega | (simp; omega) | (simp at *; omega)) _ | refine Below.drew ?_ | refine below_drewN ?_ _ | refine below_alloc' ?_ _ | refine below_to' ?_ (by assumption))))) (by omega) HB.out).mono ?_
        rintro e w6 ⟨v6, rfl, hs6, hb6⟩
        go_wp2_with fail
        refine (greatest_c _ (negL xs) _ hs6.rd (by rw [negL_len]; omega)).mono ?_
        rintro e w7 ⟨rfl, rfl⟩
        rw [HN.out.1]
        by_cases hpl : p < xs.length
        · go_wp2_with fail
          go_ret
          refine ⟨ret_bool (by simp; omega), ?_⟩
          (repeat (first | exact Below.refl _ _ | assumption | refine Below.setCell ?_ (by first | (simp; done) | omega | (simp; omega) | (simp at *; omega)) _ | refine Below.drew ?_ | refine below_drewN ?_ _ | refine below_alloc' ?_ _ | refine below_to' ?_ (by assumption)))
        · have hz := HM.out (by omega)
          go_wp2_with fail
          go_ret
          refine ⟨ret_bool (by simp; omega), ?_⟩
          (repeat (first | exact Below.refl _ _ | assumption | refine Below.setCell ?_ (by first | (simp; done) | omega | (simp; omega) | (simp at *; omega)) _ | refine Below.drew ?_ | refine below_drewN ?_ _ | refine below_alloc' ?_ _ | refine below_to' ?_ (by assumption)))
end Go.Proofs.Ytgcpglefkkpdjaa
