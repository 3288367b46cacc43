
/-
  Contracts: PiecesTried of the reference.
-/
import Derived.Test.YtgageljahebjnaaPieceP
import Derived.Test.YtgageljahebjnaaPr
import Derived.Test.YtgageljahebjnaaQI
namespace Go.Proofs.Ytgageljahebjnaa
open Go.RowKit

set_option maxHeartbeats 4000000 in
theorem cutFrom_c (xs : List Int) (hall : allB (-30) 30 xs = true) (hn : xs.length ≤ 8) : ∀ (d : Nat) (v : Value) (i : Nat) (p : Int) (w : World), xs.length - i ≤ d → Rd w v xs → i < xs.length → 1 ≤ p → p ≤ 100 →
    Calls Try.prog 35 #[v, .int .i64 i, .int .i64 p] w fun e w' => ∃ r : Rat, e = .returned (.agg #[.int .i64 (r).num, .int .i64 ((r).den : Int)]) ∧ IsPT (xs.drop i) p r ∧ Below w.heap.size w w' := by
  intro d
  induction d with
  | zero => intro v i p w hd hr hi; omega
  | succ d ih =>
    intro v i p w hd hr hi hp hpb
    have hr' := hr
    obtain ⟨A, c, rfl, hc, hm, _⟩ := hr
    have hb0 : ((i : Int) == (xs.length : Int)) = false := beq_eq_false_iff_ne.2 (by omega)
    have HI := hide ih
    have HA := hide hall
    have HDS : Hid ((xs.drop i).length ≤ 8 ∧ allB (-30) 30 (xs.drop i) = true) := ⟨by rw [List.length_drop]; omega, allB_drop hall i⟩
    obtain ⟨W, hW, hbW, hWs, hRW⟩ := new1 w 24 0 0
    have HRW := hide hRW
    have hrW := hr'.below hbW
    clear ih hall hRW
    go_enter Try.func35, Try.ntmps35
    go_wp2_with fail
    clear hW
    refine (missS_c _ xs i xs.length _ hrW HA.out hn hi (Nat.le_refl _)).mono ?_
    rintro e w1 ⟨rfl, hb1⟩
    have HST := hide (FoundM.start (p := p) hi hp)
    obtain ⟨b0, hb0e⟩ : ∃ b, missR (seg xs i xs.length) = b := ⟨_, rfl⟩
    rw [hb0e] at HST ⊢
    clear hb0e
    obtain ⟨V, hV, hbV, hVs, hPV⟩ := new1 w1 24 b0.num b0.den
    have HPV := hide hPV
    have hs1 := hb1.size
    have hrV := (hrW.below hb1).below hbV
    have HRV := hide ((HRW.out.below hb1 (by omega)).below hbV (by omega))
    have hbWV : Below w.heap.size w V := hbW.trans ((hb1.trans (hbV.mono hs1)).mono (by omega))
    clear hPV
    go_wp2_with fail
    clear hV
    go_loopw [8] (fun kk wr => ∃ k : Nat, i < k ∧ k ≤ xs.length ∧ kk = .int .i64 k ∧ ∃ b : Rat, Hid (FoundM xs i k p b) ∧ Hid (Below w1.heap.size V wr ∧ Pr wr w1.heap.size b.num b.den)) (fun kk _ => xs.length - (intOf kk).toNat)
    case atStart => exact ⟨i + 1, by omega, by omega, by go_num, b0, HST.out, Below.refl _ _, HPV.out⟩
    case round =>
      obtain ⟨k, hik, hk, rfl, b, hf, hwr⟩ := hrel
      have hbel := hwr.out.1
      have hzr := hbel.size
      by_cases hlt : k < xs.length ∧ 1 < p
      · obtain ⟨hlt, hp1⟩ := hlt
        have hbw : Below w.heap.size w wr := hbWV.trans (hbel.mono (by omega))
        have hrr := hr'.below hbw
        go_wp2_with fail
        refine (missS_c _ xs i k _ hrr HA.out hn hik (by omega)).mono ?_
        rintro e w2 ⟨rfl, hb2⟩
        go_wp2_with fail
        refine (HI.out _ k (p - 1) _ (by omega) (hrr.below hb2) hlt (by omega) (by omega)).mono ?_
        rintro e w3 ⟨r, rfl, hres, hb3⟩
        have hs2 := hb2.size
        have hs3 := hb3.size
        have sgl := seg_len (xs := xs) (i := i) (k := k) (by omega)
        have sM : Sm (missR (seg xs i k)) := missR_sm (seg_allB HA.out i k) (by omega) (by omega)
        have sR : Sm r := hres.1.sm (allB_drop HA.out k) (by rw [List.length_drop]; omega)
        have hfX := feasM_mk (xs := xs) (p := p) hik (by omega) hres.1
        have HST2 := hide (FoundM.step hik hlt hf.out hres)
        obtain ⟨M, hM⟩ : ∃ M, missR (seg xs i k) = M := ⟨_, rfl⟩
        rw [hM] at sM hfX HST2 ⊢
        clear hM hres sgl
        go_wp2_with fail
        refine (plusS_c M r _ sM sR).mono ?_
        rintro e w4 ⟨rfl, hb4⟩
        have hs4 := hb4.size
        obtain ⟨X, hX⟩ : ∃ X, M + r = X := ⟨_, rfl⟩
        rw [hX] at hfX HST2 ⊢
        clear hX sM sR
        have sX : Sm X := hfX.sm HDS.out.2 HDS.out.1
        have sB : Sm b := hf.out.1.sm HDS.out.2 HDS.out.1
        clear hfX
        obtain ⟨V4, hV4, hbV4, hVs4, hPX⟩ := new1 w4 24 X.num X.den
        have hbr4 : Below wr.heap.size wr V4 := hb2.trans (((hb3.mono hs2)).trans ((hb4.mono (by omega)).trans (hbV4.mono (by omega))))
        have hPB := hwr.out.2.below hbr4 (by omega)
        have HPX := hide hPX
        have HPB := hide hPB
        obtain ⟨⟨x1, x2⟩, x3, x4⟩ := hPX
        obtain ⟨⟨b1, b2⟩, b3, b4⟩ := hPB
        go_wp2_with fail
        clear hV4
        refine (lessS_c X b _ sX sB).mono ?_
        rintro e w5 ⟨rfl, hb5⟩
        have hs5 := hb5.size
        have hPX5 := HPX.out.below hb5 (by omega)
        have hPB5 := HPB.out.below hb5 (by omega)
        have hbw5 : Below w1.heap.size V w5 := hbel.trans ((hbr4.mono (by omega)).trans (hb5.mono (by omega)))
        have HPB5 := hide hPB5
        clear x1 x2 x3 x4 b1 b2 b3 b4 sX sB
        by_cases hxb : X < b
        · rw [if_pos hxb] at HST2
          have hd := decide_eq_true hxb
          obtain ⟨Z, hZ, hbZ, hPZ, hZs, _⟩ := hPB5.put X.num X.den
          obtain ⟨⟨x1, x2⟩, x3, x4⟩ := hPX5
          obtain ⟨⟨b1, b2⟩, b3, b4⟩ := hPB5
          have HPZ := hide hPZ
          clear hxb hPZ
          rw [hd]
          go_wp2_with fail
          clear hZ
          go_roundw
          case rel => exact ⟨k + 1, by omega, by omega, by go_num, X, HST2.out, hbw5.trans hbZ, HPZ.out⟩
          case measure => simp [intOf]; omega
        · rw [if_neg hxb] at HST2
          have hd := decide_eq_false hxb
          clear hxb hPX5 hPB5
          rw [hd]
          go_wp2_with fail
          go_roundw
          case rel => exact ⟨k + 1, by omega, by omega, by go_num, b, HST2.out, hbw5, HPB5.out⟩
          case measure => simp [intOf]; omega
      · have HD := hide (hf.out.done hi (k := k) (by omega))
        have HB := hide hwr.out.2
        have hbw : Below w.heap.size w wr := hbWV.trans (hbel.mono (by omega))
        obtain ⟨⟨b1, b2⟩, b3, b4⟩ := hwr.out.2
        have hRr := HRV.out.keep hbel (by omega)
        obtain ⟨Z, hZ, hbZ, hPZ, hZs, _⟩ := hRr.put b.num b.den
        obtain ⟨⟨r1, r2⟩, r3, r4⟩ := hRr
        obtain ⟨⟨z1, z2⟩, _, _⟩ := hPZ
        clear hf hwr
        by_cases hkn : k < xs.length
        · have hp1 : ¬ 1 < p := fun h => hlt ⟨hkn, h⟩
          clear hlt
          go_wp2_with fail
          refine bodyPost_ret (v := .agg #[.int .i64 (b).num, .int .i64 ((b).den : Int)]) (by simp [results, Try.results35, go_sem, z1, z2]) rfl ⟨b, rfl, HD.out, hbw.trans hbZ⟩
        · clear hlt
          go_wp2_with fail
          refine bodyPost_ret (v := .agg #[.int .i64 (b).num, .int .i64 ((b).den : Int)]) (by simp [results, Try.results35, go_sem, z1, z2]) rfl ⟨b, rfl, HD.out, hbw.trans hbZ⟩

theorem okSteps_parts {xs : List Int} (h : okSteps xs = true) : allB (-30) 30 xs = true ∧ 1 ≤ xs.length ∧ xs.length ≤ 8 := by simpa [okSteps] using h
def okPT (xs : List Int) (p : Int) : Prop := okSteps xs = true ∧ 1 ≤ p ∧ p ≤ 8

set_option maxHeartbeats 400000 in
theorem PiecesTriedS_no (v : Value) (xs : List Int) (p : Int) (w : World) (hr : Rd w v xs) (h : ¬ okPT xs p) :
    Calls Try.prog 13 #[v, .int .i64 p] w fun e w' => e = .returned (.tuple #[.agg #[.int .i64 0, .int .i64 0], .bool false]) ∧ Below w.heap.size w w' := by
  have hr' := hr
  obtain ⟨A, c, rfl, hc, hm, _⟩ := hr
  cases hok : okSteps xs
  · have HO := hide hok
    clear hok h
    go_enter Try.func13, Try.ntmps13
    go_wp2_with fail
    refine (validSteps_c _ xs false _ (hr'.alloc _) HO.out).mono ?_
    rintro e w1 ⟨rfl, rfl⟩
    go_wp2_with fail
    refine bodyPost_ret (v := .tuple #[.agg #[.int .i64 0, .int .i64 0], .bool false]) (by simp [results, Try.results13, go_sem]) rfl ⟨rfl, ?_⟩
    (repeat (first | exact Below.refl _ _ | assumption | refine Below.setCell ?_ (by first | (simp; done) | omega | (simp; omega) | (simp at *; omega)) _ | refine Below.drew ?_ | refine below_drewN ?_ _ | refine below_alloc' ?_ _ | refine below_to' ?_ (by assumption)))
  · have HO := hide hok
    have hp : ¬ (1 ≤ p ∧ p ≤ 8) := fun hp => h ⟨hok, hp⟩
    clear hok h
    go_enter Try.func13, Try.ntmps13
    go_wp2_with fail
    refine (validSteps_c _ xs true _ (hr'.alloc _) HO.out).mono ?_
    rintro e w1 ⟨rfl, rfl⟩
    go_wp2_with fail
    refine (inRange_c false _ _ _ _ (by simp; omega)).mono ?_
    rintro e w' ⟨rfl, rfl⟩
    go_wp2_with fail
    refine bodyPost_ret (v := .tuple #[.agg #[.int .i64 0, .int .i64 0], .bool false]) (by simp [results, Try.results13, go_sem]) rfl ⟨rfl, ?_⟩
    (repeat (first | exact Below.refl _ _ | assumption | refine Below.setCell ?_ (by first | (simp; done) | omega | (simp; omega) | (simp at *; omega)) _ | refine Below.drew ?_ | refine below_drewN ?_ _ | refine below_alloc' ?_ _ | refine below_to' ?_ (by assumption)))

set_option maxHeartbeats 400000 in
theorem PiecesTriedS_yes (v : Value) (xs : List Int) (p : Int) (w : World) (hr : Rd w v xs) (h : okPT xs p) :
    Calls Try.prog 13 #[v, .int .i64 p] w fun e w' => ∃ r : Rat, e = .returned (.tuple #[.agg #[.int .i64 (r).num, .int .i64 ((r).den : Int)], .bool true]) ∧ IsPT xs p r ∧ Below w.heap.size w w' := by
  have hr' := hr
  obtain ⟨A, c, rfl, hc, hm, _⟩ := hr
  obtain ⟨hok, hp1, hp2⟩ := h
  obtain ⟨hall, hl1, hl2⟩ := okSteps_parts hok
  have HO := hide hok
  have K := hide fun w hr => cutFrom_c xs hall hl2 xs.length (.slice A xs.length c) 0 p w (by omega) hr (by omega) hp1 (by omega)
  clear hok hall
  go_enter Try.func13, Try.ntmps13
  go_wp2_with fail
  refine (validSteps_c _ xs true _ (hr'.alloc _) HO.out).mono ?_
  rintro e w1 ⟨rfl, rfl⟩
  go_wp2_with fail
  refine (inRange_c true _ _ _ _ (by simp; omega)).mono ?_
  rintro e w' ⟨rfl, rfl⟩
  go_wp2_with fail
  refine (K.out _ (hr'.alloc _)).mono ?_
  rintro e w2 ⟨r, rfl, hres, hb2⟩
  rw [List.drop_zero] at hres
  have HRES := hide hres
  obtain ⟨hc2, hf2⟩ := bcell hb2
  have hz2 := hb2.size
  clear hres
  go_wp2_with fail
  refine bodyPost_ret (v := .tuple #[.agg #[.int .i64 (r).num, .int .i64 ((r).den : Int)], .bool true]) (by simp [results, Try.results13, go_sem, hc2]) rfl ⟨r, rfl, HRES.out, ?_⟩
  (repeat (first | exact Below.refl _ _ | assumption | refine Below.setCell ?_ (by first | (simp; done) | omega | (simp; omega) | (simp at *; omega)) _ | refine Below.drew ?_ | refine below_drewN ?_ _ | refine below_alloc' ?_ _ | refine below_to' ?_ (by assumption)))
end Go.Proofs.Ytgageljahebjnaa
