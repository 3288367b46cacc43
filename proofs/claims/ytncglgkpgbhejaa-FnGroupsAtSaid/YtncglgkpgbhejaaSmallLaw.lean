/-
  The statement FnExactSmallSteps.
-/
import Derived.Test.YtncglgkpgbhejaaSmallI
import Derived.Test.YtncglgkpgbhejaaFrame
namespace Go.Proofs.Ytncglgkpgbhejaa
open Go.RowKit

def smallX (xss : List (List Int)) : List (List Int) := if okGaps xss = true then fwC xss.length xss xss.length else []
theorem smallX_bd (xss : List (List Int)) : (smallX xss).length ≤ 6 ∧ ∀ j, j < (smallX xss).length → (rwj (smallX xss) j).length ≤ 6 := by
  unfold smallX
  split
  · next h =>
    obtain ⟨⟨_, h6⟩, hr, _⟩ := okGaps_all h
    have hsq : Sq xss.length (fwC xss.length xss xss.length) := Sq.fwC ⟨rfl, hr⟩ _
    exact ⟨by rw [hsq.1]; exact h6, fun j hj => by have := hsq.2 j (by rw [← hsq.1]; exact hj); unfold rw_ at this; unfold rwj; omega⟩
  · simp
theorem SmallS_all (v : Value) (xss : List (List Int)) (w : World) (h : RdSS w v xss) :
    Calls Try.prog 20 #[v] w fun e w' => ∃ v', e = .returned v' ∧ RdSS w' v' (smallX xss) ∧ Below w.heap.size w w' := by
  obtain ⟨A, c, rfl, hc, hm, _⟩ := id h
  cases hok : okGaps xss
  · have HX : Hid (smallX xss = []) := by show _ = _; simp [smallX, hok]
    have K := hide fun w h => validGapsS_c (.slice A xss.length c) xss false w h hok
    clear hok
    go_enter Try.func20, Try.ntmps20
    go_wp2_with fail
    refine (K.out _ h).mono ?_
    rintro e w1 ⟨rfl, hb1⟩
    go_wp2_with fail
    go_ret
    exact ⟨_, rfl, by rw [HX.out]; exact rdSS_nil _, hb1⟩
  · have HX : Hid (smallX xss = fwC xss.length xss xss.length) := by show _ = _; simp [smallX, hok]
    have K := hide fun w h => validGapsS_c (.slice A xss.length c) xss true w h hok
    have hall := okGaps_all hok
    have K2 := hide fun w h => smallWays_c (.slice A xss.length c) xss xss.length w h ⟨rfl, hall.2.1⟩ hall.1.1 hall.1.2
    clear hok hall
    go_enter Try.func20, Try.ntmps20
    go_wp2_with fail
    refine (K.out _ h).mono ?_
    rintro e w1 ⟨rfl, hb1⟩
    go_wp2_with fail
    refine (K2.out _ (h.below hb1)).mono ?_
    rintro e w2 ⟨g, c2, bl, cp, rfl, hc2, hmx, hb2⟩
    have HR := hide (hmx.rd hc2.1 hc2.2)
    clear hmx hc2
    go_wp2_with fail
    go_ret
    exact ⟨_, rfl, by rw [HX.out]; exact HR.out, hb1.trans (hb2.mono hb1.size)⟩
/-- Rows of the call's own, or none. -/
def OwnN (w : World) (B : Nat) (v : Value) (xss : List (List Int)) : Prop := OwnSS w B v xss ∨ (v = .slice none 0 0 ∧ xss = [])
theorem OwnN.rd {w : World} {B : Nat} {v : Value} {xss : List (List Int)} (h : OwnN w B v xss) : RdSS w v xss := by
  rcases h with h | ⟨rfl, rfl⟩
  · exact h.rd
  · exact rdSS_nil _
theorem OwnN.below {w w' : World} {B : Nat} {v : Value} {xss : List (List Int)} (h : OwnN w B v xss) (hb : Below w.heap.size w w') : OwnN w' B v xss := by
  rcases h with h | h
  · exact .inl (h.below hb)
  · exact .inr h
theorem OwnV.above {w w' : World} {B T e : Nat} {v : Value} {vs : List Value} (h : OwnV w B e v vs) (ha : Above T w w') (hT : T ≤ B) : OwnV w' B e v vs := by
  obtain ⟨hl, h0 | ⟨g, cap, cur, hv, hB, hg, hr⟩⟩ := id h
  · exact ⟨hl, .inl h0⟩
  · exact ⟨hl, .inr ⟨g, cap, cur, hv, hB, (ha.2 g (by omega)).trans hg, hr⟩⟩
theorem OwnN.above {w w' : World} {B T : Nat} {v : Value} {xss : List (List Int)} (h : OwnN w B v xss) (ha : Above T w w') (hT : T ≤ B) : OwnN w' B v xss := by
  rcases h with h | h
  · obtain ⟨g, us, bl, h1, h2, h3, h4, h5, h6⟩ := h
    have hB := fun j (hj : j < xss.length) => (h6 j hj).1
    have hg : B ≤ g := by subst h2; exact h1.lt.1
    have hbl : ∀ j, j ≤ xss.length → bl 0 ≤ bl j := fun j => by
      induction j with
      | zero => intro _; exact Nat.le_refl _
      | succ j ih => intro hj; have := ih (by omega); have := hB j (by omega); omega
    refine .inl ⟨g, us, bl, h1.above ha hT, h2, h3, h4, by rw [ha.1]; exact h5, fun j hj => ?_⟩
    obtain ⟨e1, u, e2, e3, e4⟩ := h6 j hj
    exact ⟨e1, u, e2, e3.above ha (by have := hbl j (by omega); omega), e4⟩
  · exact .inr h
theorem SmallI_all (v : Value) (xss : List (List Int)) (w : World) (h : RdSS w v xss) :
    Calls Try.prog 21 #[v] w fun e w' => ∃ v', e = .returned v' ∧ OwnN w' w.heap.size v' (smallX xss) ∧ Below w.heap.size w w' := by
  obtain ⟨A, c, rfl, hc, hm, _⟩ := id h
  cases hok : okGaps xss
  · have HX : Hid (smallX xss = []) := by show _ = _; simp [smallX, hok]
    have K := hide fun w h => ValidGapsI_c (.slice A xss.length c) xss false w h hok
    clear hok
    go_enter Try.func21, Try.ntmps21
    go_wp2_with fail
    refine (K.out _ h).mono ?_
    rintro e w1 ⟨rfl, hb1⟩
    go_wp2_with fail
    go_ret
    exact ⟨_, rfl, by rw [HX.out]; exact .inr ⟨rfl, rfl⟩, hb1⟩
  · have HX : smallX xss = fwC xss.length xss xss.length := by simp [smallX, hok]
    rw [HX]
    exact (SmallI_yes _ xss w h hok).mono fun e w' ⟨v', h1, h2, h3⟩ => ⟨v', h1, .inl h2, h3⟩
set_option maxHeartbeats 400000 in
theorem markNil_c (k0 : Int) (w : World) : Calls Try.prog 17 #[.slice none 0 0, .int .i64 k0] w fun e w' => e = .returned (.int .i64 k0) ∧ w = w' := by
  go_enter Try.func17, Try.ntmps17
  go_wp2_with fail
  go_loop [1, 5] (fun m i => m = .int .i64 k0 ∧ i = .int .i64 0) (fun _ _ => 0)
  case atStart => exact ⟨rfl, rfl⟩
  case round =>
    obtain ⟨rfl, rfl⟩ := hrel
    go_wp2_with fail
    go_ret
    exact ⟨rfl, rfl⟩
theorem markN_c (v : Value) (xss : List (List Int)) (k0 : Int) (W w : World) (B : Nat) (h : OwnN W B v xss) (hb : Below W.heap.size W w) (h0 : 0 ≤ k0) (hk0 : k0 ≤ 1000) (hn : xss.length ≤ 6) (hr : ∀ j, j < xss.length → (rwj xss j).length ≤ 6) :
    Calls Try.prog 17 #[v, .int .i64 k0] w fun e w' => e = .returned (.int .i64 (k0 + offs xss xss.length)) ∧ RdSS w' v (markSS k0 xss) ∧ Below B w w' := by
  rcases h with h | ⟨rfl, rfl⟩
  · exact (markIntSS_c v xss k0 W w B h hb h0 hk0 (by omega) fun j hj => by have := hr j hj; omega).mono fun e w' ⟨h1, h2, h3, _⟩ => ⟨h1, h2.rd, h3⟩
  · refine (markNil_c k0 w).mono ?_
    rintro e w' ⟨rfl, rfl⟩
    exact ⟨by simp [offs], rdSS_nil _, Below.refl _ _⟩

set_option maxHeartbeats 4000000 in
theorem FnExactSmallSteps_c (v : Value) (xss : List (List Int)) (w : World) (h : RdSS w v xss) :
    Calls Try.prog 5 #[v] w fun e w' => e = .returned (.bool true) ∧ Below w.heap.size w w' := by
  obtain ⟨A, c, rfl, hc, hm, _⟩ := id h
  have PS := hide fun u w (h1 : RdSS w u xss) => SmallS_all u xss w h1
  have PI := hide fun u w (h1 : RdSS w u xss) => SmallI_all u xss w h1
  obtain ⟨b1, b2⟩ := smallX_bd xss
  have HB := hide b2
  clear b2
  obtain ⟨S, hS⟩ : ∃ S, smallX xss = S := ⟨_, rfl⟩
  rw [hS] at PS PI HB b1
  clear hS
  go_enter Try.func5, Try.ntmps5
  go_wp2_with fail
  refine (szIntSS_c _ xss _ h).mono ?_
  rintro e w1 ⟨⟨r, rfl, hr⟩, rfl⟩
  by_cases hneg : r < 0
  · go_wp2_with fail
    go_ret
    exact ⟨rfl, Below.refl _ _⟩
  · obtain ⟨hn, hrow⟩ := hr (by omega)
    have HR := hide hrow
    clear hr hrow
    go_wp2_with fail
    refine (toIntSS_c _ xss _ h hn HR.out).mono ?_
    rintro e w1 ⟨v1, rfl, hs1, hb1⟩
    go_wp2_with fail
    refine (PS.out _ _ hs1.rd).mono ?_
    rintro e w2 ⟨vw, rfl, hrw, hb2⟩
    have hbw2 := hb1.trans (hb2.mono hb1.size)
    have HRW := hide hrw
    clear hrw
    go_wp2_with fail
    refine (toIntSS_c _ xss _ (h.below hbw2) hn HR.out).mono ?_
    rintro e w3 ⟨v3, rfl, hs3, hb3⟩
    have hbw3 := hbw2.trans (hb3.mono hbw2.size)
    go_wp2_with fail
    refine (PI.out _ _ hs3.rd).mono ?_
    rintro e w4 ⟨vg, rfl, hog, hb4⟩
    have hbw4 := hbw3.trans (hb4.mono hbw3.size)
    have hb24 := hb3.trans (hb4.mono hb3.size)
    go_wp2_with fail
    refine (eqIntSS_same _ _ S _ hog.rd (HRW.out.below hb24)).mono ?_
    rintro e w5 ⟨rfl, hb5⟩
    have hbw5 := hbw4.trans (hb5.mono hbw4.size)
    go_wp2_with fail
    refine (toIntSS_c _ xss _ (h.below hbw5) hn HR.out).mono ?_
    rintro e w6 ⟨v6, rfl, hs6, hb6⟩
    have hbw6 := hbw5.trans (hb6.mono hbw5.size)
    have hb46 := hb5.trans (hb6.mono hb5.size)
    go_wp2_with fail
    refine (eqIntSS_same _ _ xss _ (hs3.rd.below (hb4.trans (hb46.mono hb4.size))) hs6.rd).mono ?_
    rintro e w7 ⟨rfl, hb7⟩
    have hb47 := hb46.trans (hb7.mono hb46.size)
    have hb37 := hb4.trans (hb47.mono hb4.size)
    have hb27 := hb3.trans (hb37.mono hb3.size)
    have hbw7 := hbw6.trans (hb7.mono hbw6.size)
    go_wp2_with fail
    refine (markIntSS_c _ xss 1 w3 w7 w2.heap.size hs3 hb37 (by omega) (by omega) hn HR.out).mono ?_
    rintro e w8 ⟨rfl, _, hb8, ha8⟩
    have hog8 := (hog.below hb47).above ha8 (Nat.le_refl _)
    have hb28 : Below w2.heap.size w2 w8 := hb27.trans hb8
    have hbw8 : Below w.heap.size w w8 := hbw7.trans (hb8.mono hbw2.size)
    have hk : ¬ 1 + (offs xss xss.length : Int) < 0 := by omega
    obtain ⟨q, hq⟩ : ∃ q : Int, 1 + (offs xss xss.length : Int) = q := ⟨_, rfl⟩
    rw [hq] at hk ⊢
    clear hq
    go_wp2_with fail
    refine (eqIntSS_same _ _ S _ hog8.rd (HRW.out.below hb28)).mono ?_
    rintro e w9 ⟨rfl, hb9⟩
    have hbw9 := hbw8.trans (hb9.mono hbw8.size)
    have hb29 := hb28.trans (hb9.mono hb28.size)
    have KM := hide fun W w h hb => markN_c vg S 1 W w w3.heap.size h hb (by omega) (by omega) b1 HB.out
    have KH := hide fun w hr => heldIntSS_c vg S 1 w hr (by omega) (by omega) (by omega) (fun j hj => by have := HB.out j hj; omega)
    have hq20 : ¬ 1 + (offs S S.length : Int) < 0 := by omega
    obtain ⟨q2, hq2⟩ : ∃ q : Int, 1 + (offs S S.length : Int) = q := ⟨_, rfl⟩
    rw [hq2] at KM KH hq20
    clear hq2
    go_wp2_with fail
    refine (KM.out _ _ hog8 hb9).mono ?_
    rintro e w10 ⟨rfl, hrd10, hb10⟩
    have hbw10 : Below w.heap.size w w10 := hbw9.trans (hb10.mono hbw3.size)
    have hb210 : Below w2.heap.size w2 w10 := hb29.trans (hb10.mono hb3.size)
    go_wp2_with fail
    refine (KH.out _ hrd10).mono ?_
    rintro e w11 ⟨rfl, hb11⟩
    have hbw11 := hbw10.trans (hb11.mono hbw10.size)
    go_wp2_with fail
    refine (toIntSS_c _ xss _ (h.below hbw11) hn HR.out).mono ?_
    rintro e w12 ⟨v12, rfl, hs12, hb12⟩
    have hbw12 := hbw11.trans (hb12.mono hbw11.size)
    go_wp2_with fail
    refine (PI.out _ _ hs12.rd).mono ?_
    rintro e w13 ⟨vh, rfl, hoh, hb13⟩
    have hb1013 : Below w10.heap.size w10 w13 := hb11.trans ((hb12.trans (hb13.mono hb12.size)).mono hb11.size)
    have hbw13 := hbw12.trans (hb13.mono hbw12.size)
    go_wp2_with fail
    refine (eqIntSS_same _ _ S _ hoh.rd (HRW.out.below (hb210.trans (hb1013.mono hb210.size)))).mono ?_
    rintro e w14 ⟨rfl, hb14⟩
    have hbw14 := hbw13.trans (hb14.mono hbw13.size)
    go_wp2_with fail
    refine (KH.out _ ((hrd10.below hb1013).below hb14)).mono ?_
    rintro e w15 ⟨rfl, hb15⟩
    have hbw15 := hbw14.trans (hb15.mono hbw14.size)
    go_wp2_with fail
    go_ret
    exact ⟨rfl, hbw15⟩
end Go.Proofs.Ytncglgkpgbhejaa
