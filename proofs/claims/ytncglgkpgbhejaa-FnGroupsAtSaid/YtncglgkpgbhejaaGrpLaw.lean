/-
  The statement FnExactGroupsAt.
-/
import Derived.Test.YtncglgkpgbhejaaGrpI
import Derived.Test.YtncglgkpgbhejaaMark
namespace Go.Proofs.Ytncglgkpgbhejaa
open Go.RowKit

def hOk (hh : Int) : Bool := decide (0 ≤ hh) && decide (hh ≤ 40)
/-- What GroupsAt returns. -/
def IsG (xss : List (List Int)) (hh : Int) (ys : List Int) : Prop := if okGaps xss = true ∧ hOk hh = true then GrpL (gp xss) xss.length hh ys else ys = []
theorem IsG.unique {xss : List (List Int)} {hh : Int} {ys zs : List Int} (h1 : IsG xss hh ys) (h2 : IsG xss hh zs) : ys = zs := by
  unfold IsG at h1 h2
  split at h1
  · next h => rw [if_pos h] at h2; exact h1.unique h2
  · next h => rw [if_neg h] at h2; rw [h1, h2]
theorem IsG.len {xss : List (List Int)} {hh : Int} {ys : List Int} (h1 : IsG xss hh ys) : ys.length ≤ 6 := by
  unfold IsG at h1
  split at h1
  · next h => have := (okGaps_all h.1).1; have := h1.1; omega
  · rw [h1]; simp

set_option maxHeartbeats 1000000 in
theorem GroupsS_all (v : Value) (xss : List (List Int)) (hh : Int) (w : World) (h : RdSS w v xss) :
    Calls Try.prog 14 #[v, .int .i64 hh] w fun e w' => ∃ v' ys, e = .returned v' ∧ Sl w' w.heap.size v' ys ∧ IsG xss hh ys ∧ Below w.heap.size w w' := by
  obtain ⟨A, c, rfl, hc, hm, _⟩ := id h
  cases hok : okGaps xss
  · have HX : Hid (IsG xss hh []) := by show IsG _ _ _; simp [IsG, hok]
    have K := hide fun w h => validGapsS_c (.slice A xss.length c) xss false w h hok
    clear hok
    go_enter Try.func14, Try.ntmps14
    go_wp2_with fail
    refine (K.out _ h).mono ?_
    rintro e w1 ⟨rfl, hb1⟩
    go_wp2_with fail
    go_ret
    exact ⟨_, [], rfl, Sl.nil _ _, HX.out, hb1⟩
  · have K := hide fun w h => validGapsS_c (.slice A xss.length c) xss true w h hok
    cases hh2 : hOk hh
    · have HX : Hid (IsG xss hh []) := by show IsG _ _ _; simp [IsG, hh2]
      have KI := hide fun w => inRange_c false hh 0 40 w hh2
      clear hok hh2
      go_enter Try.func14, Try.ntmps14
      go_wp2_with fail
      refine (K.out _ h).mono ?_
      rintro e w1 ⟨rfl, hb1⟩
      go_wp2_with fail
      refine (KI.out _).mono ?_
      rintro e w2 ⟨rfl, rfl⟩
      go_wp2_with fail
      go_ret
      exact ⟨_, [], rfl, Sl.nil _ _, HX.out, hb1⟩
    · have HX : Hid (∀ ys, GrpL (gp xss) xss.length hh ys → IsG xss hh ys) := fun ys hy => by simp [IsG, hok, hh2, hy]
      have KI := hide fun w => inRange_c true hh 0 40 w hh2
      have KG := hide fun w h => groupsS_c (.slice A xss.length c) xss hh w h hok
      clear hok hh2
      go_enter Try.func14, Try.ntmps14
      go_wp2_with fail
      refine (K.out _ h).mono ?_
      rintro e w1 ⟨rfl, hb1⟩
      go_wp2_with fail
      refine (KI.out _).mono ?_
      rintro e w2 ⟨rfl, rfl⟩
      go_wp2_with fail
      refine (KG.out _ (h.below hb1)).mono ?_
      rintro e w3 ⟨v3, ys, rfl, hown, hg, hb3⟩
      have HO := hide hown
      have HG := hide (HX.out ys hg)
      go_wp2_with fail
      go_ret
      exact ⟨_, ys, rfl, HO.out.sl.low hb1.size, HG.out, hb1.trans (hb3.mono hb1.size)⟩

set_option maxHeartbeats 1000000 in
theorem GroupsI_all (v : Value) (xss : List (List Int)) (hh : Int) (w : World) (h : RdSS w v xss) :
    Calls Try.prog 15 #[v, .int .i64 hh] w fun e w' => ∃ v' ys, e = .returned v' ∧ Sl w' w.heap.size v' ys ∧ IsG xss hh ys ∧ Below w.heap.size w w' := by
  obtain ⟨A, c, rfl, hc, hm, _⟩ := id h
  cases hok : okGaps xss
  · have HX : Hid (IsG xss hh []) := by show IsG _ _ _; simp [IsG, hok]
    have K := hide fun w h => ValidGapsI_c (.slice A xss.length c) xss false w h hok
    clear hok
    go_enter Try.func15, Try.ntmps15
    go_wp2_with fail
    refine (K.out _ h).mono ?_
    rintro e w1 ⟨rfl, hb1⟩
    go_wp2_with fail
    go_ret
    exact ⟨_, [], rfl, Sl.nil _ _, HX.out, hb1⟩
  · have K := hide fun w h => ValidGapsI_c (.slice A xss.length c) xss true w h hok
    cases hh2 : hOk hh
    · have HX : Hid (IsG xss hh []) := by show IsG _ _ _; simp [IsG, hh2]
      have KI := hide fun w => in_c false hh 0 40 w hh2
      clear hok hh2
      go_enter Try.func15, Try.ntmps15
      go_wp2_with fail
      refine (K.out _ h).mono ?_
      rintro e w1 ⟨rfl, hb1⟩
      go_wp2_with fail
      refine (KI.out _).mono ?_
      rintro e w2 ⟨rfl, rfl⟩
      go_wp2_with fail
      go_ret
      exact ⟨_, [], rfl, Sl.nil _ _, HX.out, hb1⟩
    · have HX : Hid (∀ ys, GrpL (gp xss) xss.length hh ys → IsG xss hh ys) := fun ys hy => by simp [IsG, hok, hh2, hy]
      have KI := hide fun w => in_c true hh 0 40 w hh2
      have KG := hide fun w h => groupsI_c (.slice A xss.length c) xss hh w h hok
      clear hok hh2
      go_enter Try.func15, Try.ntmps15
      go_wp2_with fail
      refine (K.out _ h).mono ?_
      rintro e w1 ⟨rfl, hb1⟩
      go_wp2_with fail
      refine (KI.out _).mono ?_
      rintro e w2 ⟨rfl, rfl⟩
      go_wp2_with fail
      refine (KG.out _ (h.below hb1)).mono ?_
      rintro e w3 ⟨v3, ys, rfl, hown, hg, hb3⟩
      have HO := hide hown
      have HG := hide (HX.out ys hg)
      go_wp2_with fail
      go_ret
      exact ⟨_, ys, rfl, HO.out.sl.low hb1.size, HG.out, hb1.trans (hb3.mono hb1.size)⟩

set_option maxHeartbeats 4000000 in
theorem FnExactGroupsAt_c (v : Value) (xss : List (List Int)) (hh : Int) (w : World) (h : RdSS w v xss) :
    Calls Try.prog 4 #[v, .int .i64 hh] w fun e w' => e = .returned (.bool true) ∧ Below w.heap.size w w' := by
  obtain ⟨A, c, rfl, hc, hm, _⟩ := id h
  have PS := hide fun u w (h1 : RdSS w u xss) => GroupsS_all u xss hh w h1
  have PI := hide fun u w (h1 : RdSS w u xss) => GroupsI_all u xss hh w h1
  go_enter Try.func4, Try.ntmps4
  go_wp2_with fail
  refine (szIntSS_c _ xss _ h).mono ?_
  rintro e w1 ⟨⟨r, rfl, hr⟩, rfl⟩
  by_cases hneg : r < 0
  · go_wp2_with fail
    go_ret
    exact ⟨rfl, Below.refl _ _⟩
  · obtain ⟨hn, hrow⟩ := hr (by omega)
    have HR := hide hrow
    clear hr hrow
    go_wp2_with fail
    refine (toIntSS_c _ xss _ h hn HR.out).mono ?_
    rintro e w1 ⟨v1, rfl, hs1, hb1⟩
    go_wp2_with fail
    refine (PS.out _ _ hs1.rd).mono ?_
    rintro e w2 ⟨vw, ys, rfl, hsw, hgw, hb2⟩
    have hbw2 := hb1.trans (hb2.mono hb1.size)
    have hyl := hgw.len
    have HGW := hide hgw
    clear hgw
    go_wp2_with fail
    refine (toIntSS_c _ xss _ (h.below hbw2) hn HR.out).mono ?_
    rintro e w3 ⟨v3, rfl, hs3, hb3⟩
    have hbw3 := hbw2.trans (hb3.mono hbw2.size)
    go_wp2_with fail
    refine (PI.out _ _ hs3.rd).mono ?_
    rintro e w4 ⟨vg, zs, rfl, hsg, hgg, hb4⟩
    obtain rfl := HGW.out.unique hgg
    clear hgg
    have hbw4 := hbw3.trans (hb4.mono hbw3.size)
    go_wp2_with fail
    refine (eqIntS_c _ _ ys ys true _ hsg.rd (hsw.rd.below (hb3.trans (hb4.mono hb3.size))) (by simp)).mono ?_
    rintro e w5 ⟨rfl, hb5⟩
    have hbw5 := hbw4.trans (hb5.mono hbw4.size)
    go_wp2_with fail
    refine (toIntSS_c _ xss _ (h.below hbw5) hn HR.out).mono ?_
    rintro e w6 ⟨v6, rfl, hs6, hb6⟩
    have hbw6 := hbw5.trans (hb6.mono hbw5.size)
    go_wp2_with fail
    refine (eqIntSS_same _ _ xss _ (hs3.rd.below (hb4.trans ((hb5.trans (hb6.mono hb5.size)).mono hb4.size))) hs6.rd).mono ?_
    rintro e w7 ⟨rfl, hb7⟩
    have hbw7 := hbw6.trans (hb7.mono hbw6.size)
    have hb37 : Below w3.heap.size w3 w7 := by
      refine hb4.trans (Below.mono ?_ hb4.size)
      exact hb5.trans ((hb6.trans (hb7.mono hb6.size)).mono hb5.size)
    go_wp2_with fail
    refine (markIntSS_c _ xss 1 w3 w7 w2.heap.size hs3 hb37 (by omega) (by omega) hn HR.out).mono ?_
    rintro e w8 ⟨rfl, _, hb8, ha8⟩
    have hb48 : Below w4.heap.size w4 w7 := hb5.trans ((hb6.trans (hb7.mono hb6.size)).mono hb5.size)
    have hsg8 := (hsg.below hb48).above ha8 (Nat.le_refl _)
    have hsw8 : Rd w8 vw ys := by
      have h1 := hsw.rd.below (hb3.trans (hb37.mono hb3.size))
      obtain ⟨A', c', e1, e2, e3, e4⟩ := hsw.rd
      refine ⟨A', c', e1, e2, e3, fun hp => ?_⟩
      obtain ⟨g, off, f1, f2, f3⟩ := e4 hp
      exact ⟨g, off, f1, by have := hb3.size; have := hb37.size; have := hb8.size; omega, fun j hj => ((hb8.cell (p := ⟨g, off + j, none⟩) f2).trans ((hb3.trans (hb37.mono hb3.size)).cell (p := ⟨g, off + j, none⟩) f2)).trans (f3 j hj)⟩
    have hbw8 : Below w.heap.size w w8 := hbw7.trans (hb8.mono hbw2.size)
    have hk : ¬ 1 + (offs xss xss.length : Int) < 0 := by omega
    obtain ⟨q, hq⟩ : ∃ q : Int, 1 + (offs xss xss.length : Int) = q := ⟨_, rfl⟩
    rw [hq] at hk ⊢
    clear hq
    go_wp2_with fail
    refine (eqIntS_c _ _ ys ys true _ hsg8.rd hsw8 (by simp)).mono ?_
    rintro e w9 ⟨rfl, hb9⟩
    have hsg9 := hsg8.below hb9
    have hbw9 := hbw8.trans (hb9.mono hbw8.size)
    have hT9 : 0 < ys.length → ∀ g, vg.ownBlock = some g → g < w9.heap.size := fun hp g hg => hsg9.lt hp g hg
    go_wp2_with fail
    refine (markIntS_c vg ys 1 w9 w3.heap.size w9.heap.size hsg9 hT9 (by omega) (by omega)).mono ?_
    rintro e w10 ⟨rfl, hsg10, hb10, ha10⟩
    have hbw10 := hbw9.trans (hb10.mono hbw3.size)
    have hsw10 : Rd w10 vw ys := by
      have h1 := hsw8.below hb9
      obtain ⟨A', c', e1, e2, e3, e4⟩ := hsw.rd
      obtain ⟨A2, c2, f1, _, _, _⟩ := hsw8
      refine ⟨A', c', e1, e2, e3, fun hp => ?_⟩
      obtain ⟨g, off, f1, f2, f3⟩ := e4 hp
      have hg3 : g < w3.heap.size := by have := hb3.size; omega
      have hg8 : g < w8.heap.size := by have := hb37.size; have := hb8.size; omega
      refine ⟨g, off, f1, by have := hb9.size; have := hb10.size; omega, fun j hj => ?_⟩
      rw [hb10.cell (p := ⟨g, off + j, none⟩) hg3, hb9.cell (p := ⟨g, off + j, none⟩) hg8, hb8.cell (p := ⟨g, off + j, none⟩) f2, (hb3.trans (hb37.mono hb3.size)).cell (p := ⟨g, off + j, none⟩) f2]
      exact f3 j hj
    have h1 : 1 + (ys.length : Int) ≤ 10 := by omega
    have hrd10 : Rd w10 vg (marks 1 ys.length) := hsg10.rd
    have KH := hide fun w hr => heldIntS_c vg ys.length 1 w hr (by omega) (by omega)
    obtain ⟨q2, hq2⟩ : ∃ q : Int, 1 + (ys.length : Int) = q := ⟨_, rfl⟩
    rw [hq2] at KH ⊢
    have hq20 : ¬ q2 < 0 := by omega
    clear hq2 h1
    go_wp2_with fail
    refine (KH.out _ hrd10).mono ?_
    rintro e w11 ⟨rfl, hb11⟩
    have hbw11 := hbw10.trans (hb11.mono hbw10.size)
    go_wp2_with fail
    refine (toIntSS_c _ xss _ (h.below hbw11) hn HR.out).mono ?_
    rintro e w12 ⟨v12, rfl, hs12, hb12⟩
    have hbw12 := hbw11.trans (hb12.mono hbw11.size)
    go_wp2_with fail
    refine (PI.out _ _ hs12.rd).mono ?_
    rintro e w13 ⟨vh, zs, rfl, hsh, hgh, hb13⟩
    obtain rfl := HGW.out.unique hgh
    clear hgh
    have hb1013 : Below w10.heap.size w10 w13 := hb11.trans ((hb12.trans (hb13.mono hb12.size)).mono hb11.size)
    have hbw13 := hbw12.trans (hb13.mono hbw12.size)
    go_wp2_with fail
    refine (eqIntS_c _ _ ys ys true _ hsh.rd (hsw10.below hb1013) (by simp)).mono ?_
    rintro e w14 ⟨rfl, hb14⟩
    have hbw14 := hbw13.trans (hb14.mono hbw13.size)
    go_wp2_with fail
    refine (KH.out _ ((hrd10.below hb1013).below hb14)).mono ?_
    rintro e w15 ⟨rfl, hb15⟩
    have hbw15 := hbw14.trans (hb15.mono hbw14.size)
    go_wp2_with fail
    go_ret
    exact ⟨rfl, hbw15⟩
end Go.Proofs.Ytncglgkpgbhejaa
