/-
  Centers: CentersOf of the program; the statement FnExactCentersOf.
-/
import Derived.Test.YtncglgkpgbhejaaCentI
import Derived.Test.YtncglgkpgbhejaaFrame
namespace Go.Proofs.Ytncglgkpgbhejaa
open Go.RowKit

theorem nrN_step (xss : List (List Int)) (s a c : Nat) : nrN xss s a (c + 1) = if s.testBit c then min (nrN xss s a c) (gp xss a c) else nrN xss s a c := rfl

set_option maxHeartbeats 8000000 in
theorem CentersI_c (v : Value) (xss : List (List Int)) (k : Int) (w : World) (h : RdSS w v xss) :
    Calls Try.prog 28 #[v, .int .i64 k] w fun e w' => e = .returned (.tuple #[.int .i64 (centX xss k).1, .int .i64 (centX xss k).2]) ∧ Below w.heap.size w w' := by
  obtain ⟨A, c, rfl, hc, hm, _⟩ := id h
  cases hok : okGaps xss
  · have HX := hide (centX_bad k hok)
    have K := hide fun w h => ValidGapsI_c (.slice A xss.length c) xss false w h hok
    clear hok
    go_enter Try.func28, Try.ntmps28
    go_wp2_with fail
    refine (K.out _ h).mono ?_
    rintro e w1 ⟨rfl, hb1⟩
    go_wp2_with fail
    go_ret2
    exact ⟨by rw [HX.out]; rfl, hb1⟩
  have K := hide fun w h => ValidGapsI_c (.slice A xss.length c) xss true w h hok
  cases hin : (decide (1 ≤ k) && decide (k ≤ (xss.length : Int)))
  · have HX := hide (centX_out hin)
    have KI := hide fun w => in_c false k 1 (xss.length : Int) w hin
    clear hok hin
    go_enter Try.func28, Try.ntmps28
    go_wp2_with fail
    refine (K.out _ h).mono ?_
    rintro e w1 ⟨rfl, hb1⟩
    go_wp2_with fail
    refine (KI.out _).mono ?_
    rintro e w2 ⟨rfl, rfl⟩
    go_wp2_with fail
    go_ret2
    exact ⟨by rw [HX.out]; rfl, hb1⟩
  have HX := hide (centX_yes hok hin)
  have KI := hide fun w => in_c true k 1 (xss.length : Int) w hin
  obtain ⟨hn1, hn6⟩ := (okGaps_all hok).1
  have hk : 1 ≤ k ∧ k ≤ 6 := by simp at hin; omega
  obtain ⟨hk1, hk6⟩ := hk
  obtain ⟨N, hN⟩ : ∃ N, N = 2 ^ xss.length := ⟨_, rfl⟩
  have hN64 : N ≤ 64 := by rw [hN]; exact two_pow_le' hn6
  have hN1 : 1 ≤ N := by rw [hN]; exact Nat.two_pow_pos _
  have hsh : wrap64 ((2 : Int) ^ xss.length) = (N : Int) := by
    have e : (2 : Int) ^ xss.length = (N : Int) := by rw [hN, Int.natCast_pow]; rfl
    rw [e]
    exact IntWalk.wrap64_in _ ⟨by omega, by omega⟩
  have KO := hide fun (s : Nat) (hs : s < N) (w : World) => ones_c s w (by omega)
  have HO := hide fun (s : Nat) (hs : s < N) => bitN_full (s := s) hn6 (by rw [← hN]; exact hs)
  have HC := hide fun s => ctN_bd hok k s
  have HS := hide fun s m (hm : m ≤ xss.length) => nsN_bd hok (s := s) hm
  have HN := hide fun (s a m : Nat) (ha : a < xss.length) (hm : m ≤ xss.length) => nrN_bd hok (s := s) ha hm
  have HG := hide fun (i k : Nat) (hi : i < xss.length) (hk : k < xss.length) => okGaps_bd hok hi hk
  have HM := hide fun (w : World) (h : RdSS w (.slice A xss.length c) xss) (i : Nat) (hi : i < xss.length) => h.mat hok hi
  rw [← hN] at HX
  clear hok hin hN
  go_enter Try.func28, Try.ntmps28
  go_wp2_with fail
  refine (K.out _ h).mono ?_
  rintro e w1 ⟨rfl, hb1⟩
  have h1 := h.below hb1
  go_wp2_with fail
  refine (KI.out _).mono ?_
  rintro e w2 ⟨rfl, rfl⟩
  go_wp2_with fail
  go_loopw [6, 7, 8] (fun at_ be se wr => ∃ s : Nat, s + 1 ≤ N ∧ se = .int .i64 ((s : Int) + 1) ∧ at_ = .int .i64 (ctN xss k s).1 ∧ be = .int .i64 (ctN xss k s).2 ∧ Below w.heap.size w wr) (fun _ _ se _ => N - (intOf se).toNat)
  case atStart => exact ⟨0, by omega, rfl, rfl, rfl, hb1⟩
  case round =>
    obtain ⟨s, hs, rfl, rfl, rfl, hbel⟩ := hrel
    obtain ⟨c1, c2, c3, c4, c5⟩ := HC.out s
    have HD := hide (ctN_step xss k s)
    have HCC := hide c1
    obtain ⟨p, hp⟩ : ∃ p, ctN xss k s = p := ⟨_, rfl⟩
    have HP := hide hp
    rw [hp] at c2 c3 c4 c5 HD HCC ⊢
    clear c1 hp
    obtain ⟨p1, p2⟩ := p
    have HCC : Hid (p1 < 0 ↔ p2 < 0) := HCC.out
    have c2 : -1 ≤ p1 := c2
    have c3 : p1 ≤ s := c3
    have c4 : -1 ≤ p2 := c4
    have c5 : p2 ≤ 40 * (xss.length : Int) := c5
    by_cases hlt : s + 1 < N
    · have hli : (s : Int) + 1 < (N : Int) := by omega
      have hld : decide ((s : Int) + 1 < (N : Int)) = true := decide_eq_true hli
      have K1 : Hid (∀ w, Calls Try.prog 47 #[.int .u64 ((s : Int) + 1)] w fun e w' => e = .returned (.int .i64 (bitN (s + 1) xss.length)) ∧ w = w') := fun w => by
        have := KO.out (s + 1) hlt w
        rwa [show ((s + 1 : Nat) : Int) = (s : Int) + 1 by omega, HO.out (s + 1) hlt] at this
      obtain ⟨q, hq⟩ : ∃ x, bitN (s + 1) xss.length = x := ⟨_, rfl⟩
      rw [hq] at HD K1
      clear hq
      by_cases hqk : q = k
      · have hqb : (q != k) = false := by simp [hqk]
        have HQ := hide hqk
        clear hqk
        go_wp2_with fail
        refine (K1.out _).mono ?_
        rintro e w4 ⟨rfl, rfl⟩
        go_wp2_with fail
        go_loopw [9, 39] (fun t i wr => ∃ a : Nat, a ≤ xss.length ∧ i = .int .i64 a ∧ t = .int .i64 (nsN xss (s + 1) a) ∧ Below w.heap.size w wr) (fun _ i _ => xss.length - (intOf i).toNat)
        case atStart => exact ⟨0, by omega, rfl, rfl, hbel⟩
        case round =>
          obtain ⟨a, ha, rfl, rfl, hbel⟩ := hrel
          have h1 := h.below hbel
          by_cases hal : a < xss.length
          · obtain ⟨g, off, rfl, hg, b, o, d, hr1, hr2, hr3, hb, hcl⟩ := HM.out _ h1 a hal
            have ia : (a : Int) < (xss.length : Int) := by omega
            go_wp2_with fail
            go_loopw [12, 45] (fun t i wr' => ∃ m : Nat, m ≤ xss.length ∧ i = .int .i64 m ∧ t = .int .i64 (nrN xss (s + 1) a m) ∧ Below wr.heap.size wr wr') (fun _ i _ => xss.length - (intOf i).toNat)
            case atStart => exact ⟨0, by omega, rfl, rfl, Below.refl _ _⟩
            case round =>
              rename World => wq
              obtain ⟨m, hm, rfl, rfl, hbq⟩ := hrel
              have b1 := HN.out (s + 1) a m hal hm
              have HE := hide (nrN_step xss (s + 1) a m)
              obtain ⟨y, hy⟩ : ∃ x, nrN xss (s + 1) a m = x := ⟨_, rfl⟩
              have HY := hide hy
              rw [hy] at b1 HE ⊢
              clear hy
              by_cases hml : m < xss.length
              · have hck : wq.cell? ⟨b, o + m, none⟩ = some (.int .i64 (gp xss a m)) := (hbq.cell (p := ⟨b, o + m, none⟩) hb).trans (hcl m hml)
                have im : (m : Int) < (xss.length : Int) := by omega
                have hgb := HG.out a m hal hml
                have hbit := bit_int (s + 1) m (by omega)
                rw [show ((s + 1 : Nat) : Int) = (s : Int) + 1 by omega] at hbit
                obtain ⟨x, hx⟩ : ∃ x, gp xss a m = x := ⟨_, rfl⟩
                rw [hx] at hck hgb HE
                clear hcl hx
                cases ht : (s + 1).testBit m
                · rw [ht] at hbit
                  have HF : Hid (nrN xss (s + 1) a (m + 1) = y) := by show _ = _; rw [HE.out, ht]; simp
                  clear HE ht
                  go_wp2_with fail
                  go_roundw
                  case rel => exact ⟨m + 1, by omega, by go_num, by rw [HF.out], hbq⟩
                  case measure => simp [intOf]; omega
                · rw [ht] at hbit
                  have HF : Hid (nrN xss (s + 1) a (m + 1) = min y x) := by show _ = _; rw [HE.out, ht]; simp
                  clear HE ht
                  go_wp2_with fail
                  all_goals
                    go_roundw
                    case rel => exact ⟨m + 1, by omega, by go_num, by rw [HF.out]; first | rfl | (congr 1; omega), hbq⟩
                    case measure => simp [intOf]; omega
              · obtain rfl : m = xss.length := by omega
                have b2 := HS.out (s + 1) a ha
                have b3 := HS.out (s + 1) (a + 1) hal
                have HF := hide (nsN_succ xss (s + 1) a)
                rw [HF.out, HY.out] at b3
                have HF : Hid (nsN xss (s + 1) (a + 1) = nsN xss (s + 1) a + y) := by show _ = _; rw [HF.out, HY.out]
                obtain ⟨z, hz⟩ : ∃ x, nsN xss (s + 1) a = x := ⟨_, rfl⟩
                rw [hz] at b2 b3 HF ⊢
                clear hz hcl
                go_wp2_with fail
                go_roundw
                case rel => exact ⟨a + 1, by omega, by go_num, by rw [HF.out], hbel.trans (hbq.mono hbel.size)⟩
                case measure => simp [intOf]; omega
          · obtain rfl : a = xss.length := by omega
            have hns := HS.out (s + 1) xss.length (Nat.le_refl _)
            obtain ⟨y, hy⟩ : ∃ x, nsN xss (s + 1) xss.length = x := ⟨_, rfl⟩
            rw [hy] at hns HD ⊢
            clear hy
            by_cases hp1 : p1 < 0
            · have hpb : decide (p1 < 0) = true := decide_eq_true hp1
              have HE : Hid (ctN xss k (s + 1) = ((s : Int) + 1, y)) := by show _ = _; rw [HD.out, if_pos ⟨HQ.out, .inl (HCC.out.1 hp1)⟩]; simp
              clear HD
              go_wp2_with fail
              go_roundw
              case rel => exact ⟨s + 1, by omega, by go_num, by rw [HE.out], by rw [HE.out], hbel⟩
              case measure => simp [intOf]; omega
            · have hpb : decide (p1 < 0) = false := decide_eq_false hp1
              by_cases hyp : y < p2
              · have HE : Hid (ctN xss k (s + 1) = ((s : Int) + 1, y)) := by show _ = _; rw [HD.out, if_pos ⟨HQ.out, .inr hyp⟩]; simp
                clear HD
                go_wp2_with fail
                go_roundw
                case rel => exact ⟨s + 1, by omega, by go_num, by rw [HE.out], by rw [HE.out], hbel⟩
                case measure => simp [intOf]; omega
              · have HE : Hid (ctN xss k (s + 1) = (p1, p2)) := by show _ = _; rw [HD.out, if_neg (by rintro ⟨_, h | h⟩; exact hp1 (HCC.out.2 h); exact hyp h)]
                clear HD
                go_wp2_with fail
                go_roundw
                case rel => exact ⟨s + 1, by omega, by go_num, by rw [HE.out], by rw [HE.out], hbel⟩
                case measure => simp [intOf]; omega
      · have hqb : (q != k) = true := by simp [hqk]
        have HE : Hid (ctN xss k (s + 1) = (p1, p2)) := by show _ = _; rw [HD.out, if_neg (by simp [hqk])]
        clear hqk HD
        go_wp2_with fail
        refine (K1.out _).mono ?_
        rintro e w4 ⟨rfl, rfl⟩
        go_wp2_with fail
        go_roundw
        case rel => exact ⟨s + 1, by omega, by go_num, by rw [HE.out], by rw [HE.out], hbel⟩
        case measure => simp [intOf]; omega
    · have hse : s = N - 1 := by omega
      have HE : Hid (centX xss k = (p1, p2)) := by show _ = _; rw [HX.out, ← hse, HP.out]
      have hnl : ¬ (s : Int) + 1 < (N : Int) := by omega
      clear hse
      go_wp2_with fail
      go_ret2
      exact ⟨by rw [HE.out]; rfl, hbel⟩

set_option maxHeartbeats 2000000 in
theorem FnExactCentersOf_c (v : Value) (xss : List (List Int)) (k : Int) (w : World) (h : RdSS w v xss) :
    Calls Try.prog 8 #[v, .int .i64 k] w fun e w' => e = .returned (.bool true) ∧ Below w.heap.size w w' := by
  obtain ⟨A, c, rfl, hc, hm, _⟩ := id h
  have PS := hide fun u w (h1 : RdSS w u xss) => CentersS_c u xss k w h1
  have PI := hide fun u w (h1 : RdSS w u xss) => CentersI_c u xss k w h1
  obtain ⟨R, hR⟩ : ∃ R, centX xss k = R := ⟨_, rfl⟩
  rw [hR] at PS PI
  clear hR
  obtain ⟨a, b⟩ := R
  go_enter Try.func8, Try.ntmps8
  go_wp2_with fail
  refine (szIntSS_c _ xss _ h).mono ?_
  rintro e w1 ⟨⟨r, rfl, hr⟩, rfl⟩
  by_cases hneg : r < 0
  · go_wp2_with fail
    go_ret
    exact ⟨rfl, Below.refl _ _⟩
  · obtain ⟨hn, hrow⟩ := hr (by omega)
    have HR := hide hrow
    clear hr hrow
    go_wp2_with fail
    refine (toIntSS_c _ xss _ h hn HR.out).mono ?_
    rintro e w1 ⟨v1, rfl, hs1, hb1⟩
    go_wp2_with fail
    refine (PS.out _ _ hs1.rd).mono ?_
    rintro e w2 ⟨rfl, hb2⟩
    have hbw2 := hb1.trans (hb2.mono hb1.size)
    go_wp2_with fail
    refine (toIntSS_c _ xss _ (h.below hbw2) hn HR.out).mono ?_
    rintro e w3 ⟨v3, rfl, hs3, hb3⟩
    have hbw3 := hbw2.trans (hb3.mono hbw2.size)
    go_wp2_with fail
    refine (PI.out _ _ hs3.rd).mono ?_
    rintro e w4 ⟨rfl, hb4⟩
    have hbw4 := hbw3.trans (hb4.mono hbw3.size)
    go_wp2_with fail
    refine (toIntSS_c _ xss _ (h.below hbw4) hn HR.out).mono ?_
    rintro e w5 ⟨v5, rfl, hs5, hb5⟩
    have hbw5 := hbw4.trans (hb5.mono hbw4.size)
    go_wp2_with fail
    refine (eqIntSS_same _ _ xss _ (hs3.rd.below (hb4.trans (hb5.mono hb4.size))) hs5.rd).mono ?_
    rintro e w6 ⟨rfl, hb6⟩
    go_wp2_with fail
    go_ret
    exact ⟨rfl, hbw5.trans (hb6.mono hbw5.size)⟩
end Go.Proofs.Ytncglgkpgbhejaa
