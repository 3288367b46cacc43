/-
  The statement FnExactTreeLength.
-/
import Derived.Test.YtncglgkpgbhejaaTreeI
namespace Go.Proofs.Ytncglgkpgbhejaa
open Go.RowKit

def treeX (xss : List (List Int)) : Int := if okGaps xss = true then WB (gp xss) xss.length (oneS 0) else -1

set_option maxHeartbeats 1000000 in
theorem TreeS_all (v : Value) (xss : List (List Int)) (w : World) (h : RdSS w v xss) :
    Calls Try.prog 10 #[v] w fun e w' => e = .returned (.int .i64 (treeX xss)) ∧ Below w.heap.size w w' := by
  obtain ⟨A, c, rfl, hc, hm, _⟩ := id h
  cases hok : okGaps xss
  · have HX : Hid (treeX xss = -1) := by show _ = _; simp [treeX, hok]
    have K := hide fun w h => validGapsS_c (.slice A xss.length c) xss false w h hok
    clear hok
    go_enter Try.func10, Try.ntmps10
    go_wp2_with fail
    refine (K.out _ h).mono ?_
    rintro e w1 ⟨rfl, hb1⟩
    go_wp2_with fail
    go_ret
    exact ⟨ret_int HX.out.symm, hb1⟩
  · rw [show treeX xss = WB (gp xss) xss.length (oneS 0) by simp [treeX, hok]]
    exact TreeS_c _ xss w h hok
set_option maxHeartbeats 1000000 in
theorem TreeI_all (v : Value) (xss : List (List Int)) (w : World) (h : RdSS w v xss) :
    Calls Try.prog 12 #[v] w fun e w' => e = .returned (.int .i64 (treeX xss)) ∧ Below w.heap.size w w' := by
  obtain ⟨A, c, rfl, hc, hm, _⟩ := id h
  cases hok : okGaps xss
  · have HX : Hid (treeX xss = -1) := by show _ = _; simp [treeX, hok]
    have K := hide fun w h => ValidGapsI_c (.slice A xss.length c) xss false w h hok
    clear hok
    go_enter Try.func12, Try.ntmps12
    go_wp2_with fail
    refine (K.out _ h).mono ?_
    rintro e w1 ⟨rfl, hb1⟩
    go_wp2_with fail
    go_ret
    exact ⟨ret_int HX.out.symm, hb1⟩
  · rw [show treeX xss = WB (gp xss) xss.length (oneS 0) by simp [treeX, hok]]
    exact TreeI_c _ xss w h hok

set_option maxHeartbeats 2000000 in
theorem FnExactTreeLength_c (v : Value) (xss : List (List Int)) (w : World) (h : RdSS w v xss) :
    Calls Try.prog 3 #[v] w fun e w' => e = .returned (.bool true) ∧ Below w.heap.size w w' := by
  obtain ⟨A, c, rfl, hc, hm, _⟩ := id h
  have PS := hide fun u w (h1 : RdSS w u xss) => TreeS_all u xss w h1
  have PI := hide fun u w (h1 : RdSS w u xss) => TreeI_all u xss w h1
  obtain ⟨R, hR⟩ : ∃ R, treeX xss = R := ⟨_, rfl⟩
  rw [hR] at PS PI
  clear hR
  go_enter Try.func3, Try.ntmps3
  go_wp2_with fail
  refine (szIntSS_c _ xss _ h).mono ?_
  rintro e w1 ⟨⟨r, rfl, hr⟩, rfl⟩
  by_cases hneg : r < 0
  · go_wp2_with fail
    go_ret
    exact ⟨rfl, Below.refl _ _⟩
  · obtain ⟨hn, hrow⟩ := hr (by omega)
    have HR := hide hrow
    clear hr hrow
    go_wp2_with fail
    refine (toIntSS_c _ xss _ h hn HR.out).mono ?_
    rintro e w1 ⟨v1, rfl, hs1, hb1⟩
    go_wp2_with fail
    refine (PS.out _ _ hs1.rd).mono ?_
    rintro e w2 ⟨rfl, hb2⟩
    have hbw2 := hb1.trans (hb2.mono hb1.size)
    go_wp2_with fail
    refine (toIntSS_c _ xss _ (h.below hbw2) hn HR.out).mono ?_
    rintro e w3 ⟨v3, rfl, hs3, hb3⟩
    have hbw3 := hbw2.trans (hb3.mono hbw2.size)
    go_wp2_with fail
    refine (PI.out _ _ hs3.rd).mono ?_
    rintro e w4 ⟨rfl, hb4⟩
    have hbw4 := hbw3.trans (hb4.mono hbw3.size)
    go_wp2_with fail
    refine (toIntSS_c _ xss _ (h.below hbw4) hn HR.out).mono ?_
    rintro e w5 ⟨v5, rfl, hs5, hb5⟩
    have hbw5 := hbw4.trans (hb5.mono hbw4.size)
    go_wp2_with fail
    refine (eqIntSS_same _ _ xss _ (hs3.rd.below (hb4.trans (hb5.mono hb4.size))) hs5.rd).mono ?_
    rintro e w6 ⟨rfl, hb6⟩
    go_wp2_with fail
    go_ret
    exact ⟨rfl, hbw5.trans (hb6.mono hbw5.size)⟩
end Go.Proofs.Ytncglgkpgbhejaa
