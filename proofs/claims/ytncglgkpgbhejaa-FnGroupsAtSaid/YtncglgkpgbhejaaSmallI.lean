/-
  Small steps in the program.
-/
import Derived.Test.YtncglgkpgbhejaaSmallS
namespace Go.Proofs.Ytncglgkpgbhejaa
open Go.RowKit

/-- The first k of n rows, each in a block of its own behind the one before. -/
def SqK (w : World) (R g : Nat) (us : List Value) (bl : Nat → Nat) (f : Nat → List Int) (n k : Nat) : Prop :=
  ∀ j, j < k → us[j]? = some (.slice (some ⟨bl j, 0, none⟩) n n) ∧ Own w R 3 (.slice (some ⟨bl j, 0, none⟩) n n) (f j) ∧ g < bl j ∧ ∀ i, i < j → bl i < bl j
theorem SqK.put {w w7 : World} {R g n k : Nat} {us : List Value} {bl : Nat → Nat} {f : Nat → List Int} (h : SqK w R g us bl f n k) (hk : k < us.length) (hg : g < w.heap.size) (hR : R ≤ w.heap.size) (h7 : Below w.heap.size w w7)
    (ho : Own w7 w.heap.size 3 (.slice (some ⟨w.heap.size, 0, none⟩) n n) (f k)) :
    SqK (w7.setCell ⟨g, k, none⟩ (.slice (some ⟨w.heap.size, 0, none⟩) n n)) R g (us.set k (.slice (some ⟨w.heap.size, 0, none⟩) n n)) (fun j => if j = k then w.heap.size else bl j) f n (k + 1) := by
  intro j hj
  by_cases e : j = k
  · subst e
    simp only [if_true]
    refine ⟨by rw [List.getElem?_set_self hk], (ho.low hR).setOther (by simp [Value.ownBlock]; omega) _, hg, fun i hi => ?_⟩
    have hi2 : ¬ i = j := by omega
    simp only [hi2, if_false]
    exact (h i hi).2.1.lt.2
  · obtain ⟨a1, a2, a3, a4⟩ := h j (by omega)
    simp only [e, if_false]
    refine ⟨by rw [List.getElem?_set_ne (Ne.symm e)]; exact a1, (a2.below h7).setOther (by simp [Value.ownBlock]; omega) _, a3, fun i hi => ?_⟩
    have hi2 : ¬ i = k := by omega
    simp only [hi2, if_false]
    exact a4 i hi
theorem SqK.low {w : World} {R R' g n k : Nat} {us : List Value} {bl : Nat → Nat} {f : Nat → List Int} (h : SqK w R g us bl f n k) (hR : R' ≤ R) : SqK w R' g us bl f n k := fun j hj => ⟨(h j hj).1, (h j hj).2.1.low hR, (h j hj).2.2⟩
/-- Row k copied. -/
theorem SqK.copy {w w' : World} {R g n m k : Nat} {us : List Value} {bl : Nat → Nat} {f : Nat → List Int} {ys : List Int} (h : SqK w R g us bl f n m) (hk : k < m) (hg : w.grownBy w' (some (bl k))) (ho : Own w' R 3 (.slice (some ⟨bl k, 0, none⟩) n n) ys) :
    SqK w' R g us bl (fun j => if j = k then ys else f j) n m := by
  intro j hj
  obtain ⟨a1, a2, a3, a4⟩ := h j hj
  by_cases e : j = k
  · subst e
    simp only [if_true]
    exact ⟨a1, ho, a3, a4⟩
  · simp only [e, if_false]
    refine ⟨a1, a2.keep hg (.inr ?_), a3, a4⟩
    have : bl j ≠ bl k := by
      rcases Nat.lt_or_gt_of_ne e with hlt | hlt
      · have := (h k hk).2.2.2 j hlt; omega
      · have := a4 k hlt; omega
    simpa [Value.ownBlock] using this
theorem SqK.mx {w : World} {R g n : Nat} {us : List Value} {bl : Nat → Nat} {xss : List (List Int)} (h : SqK w R g us bl (rw_ xss) n n) (ho : OwnV w R 28 (.slice (some ⟨g, 0, none⟩) n n) us) (hsq : Sq n xss) : MxW w R n g bl (fun _ => n) xss := by
  have hlt := ho.lt
  refine ⟨hsq, hlt, fun i hi => ho.cell (h i hi).1, fun i hi => ⟨Nat.le_refl _, ho.len.2.2⟩, fun i hi => ?_, fun i j hi hj hij => ?_, fun i k hi hk => ?_, fun i k hi hk => ?_⟩
  · have a := (h i hi).2.1.lt
    have b := (h i hi).2.2.1
    exact ⟨a.1, a.2, by omega⟩
  · rcases Nat.lt_or_gt_of_ne hij with hl | hl
    · have := (h j hj).2.2.2 i hl; omega
    · have := (h i hi).2.2.2 j hl; omega
  · exact (h i hi).2.1.cell (by rw [hsq.2 i hi]; exact hk)
  · exact (h i hi).2.1.frozen k
theorem MxW.ownSS {w : World} {R n g : Nat} {bl cp : Nat → Nat} {M : List (List Int)} {us : List Value} (h : MxW w R n g bl cp M) (ho : OwnV w R 28 (.slice (some ⟨g, 0, none⟩) n n) us)
    (hs : ∀ j, j < n → us[j]? = some (.slice (some ⟨bl j, 0, none⟩) n (cp j)) ∧ g < bl j ∧ ∀ i, i < j → bl i < bl j) (hn : 0 < n) : OwnSS w R (.slice (some ⟨g, 0, none⟩) n n) M := by
  have hM := h.sq.1
  refine ⟨g, us, fun j => if j < n then bl j else w.heap.size, ho, by rw [hM], by rw [hM]; exact ho.len.1.symm, by simp only [hn, if_true]; exact (hs 0 hn).2.1, by rw [hM]; simp, fun j hj => ?_⟩
  rw [hM] at hj
  obtain ⟨e1, e2, e3⟩ := hs j hj
  have hb := h.blk j hj
  simp only [hj, if_true]
  refine ⟨?_, _, e1, h.sl hj, fun _ q hq => ?_⟩
  · by_cases hj1 : j + 1 < n
    · simp only [hj1, if_true]
      have := (hs (j + 1) hj1).2.2 j (by omega)
      omega
    · simp only [hj1, if_false]
      omega
  · have hq : bl j = q := by simpa [Value.ownBlock] using hq
    by_cases hj1 : j + 1 < n
    · simp only [hj1, if_true]
      have := (hs (j + 1) hj1).2.2 j (by omega)
      omega
    · simp only [hj1, if_false]
      omega

set_option maxHeartbeats 2000000 in
theorem square_c (n : Nat) (w : World) (hn1 : 1 ≤ n) (hn6 : n ≤ 6) :
    Calls Try.prog 40 #[.int .i64 n] w fun e w' => ∃ us bl, e = .returned (.slice (some ⟨w.heap.size, 0, none⟩) n n) ∧ OwnV w' w.heap.size 28 (.slice (some ⟨w.heap.size, 0, none⟩) n n) us ∧ SqK w' w.heap.size w.heap.size us bl (fun _ => List.replicate n 0) n n ∧ Below w.heap.size w w' := by
  go_enter Try.func40, Try.ntmps40
  go_wp2_with (at_make; refine wpList_make_rows _ rfl (.tmp 5) (.tmp 5) rfl rows n rfl rfl (by omega) (by omega) (toList_madeCells_one _ _) ?_; intro w1 hown1 hbel1 hlt1)
  go_loopw [9] (fun i wr => ∃ (k : Nat) (us : List Value) (bl : Nat → Nat), k ≤ n ∧ i = .int .i64 k ∧ OwnV wr w.heap.size 28 (.slice (some ⟨w.heap.size, 0, none⟩) n n) us ∧ Hid (us.length = n) ∧ Hid (SqK wr w.heap.size w.heap.size us bl (fun _ => List.replicate n 0) n k) ∧ Below w.heap.size w wr) (fun i _ => n - (intOf i).toNat)
  case atStart => exact ⟨0, _, fun _ => 0, by omega, rfl, hown1, by simp [Hid], fun j hj => by omega, hbel1⟩
  case round =>
    obtain ⟨k, us, bl, hk, rfl, hown, hul, hsq, hbel⟩ := hrel
    by_cases hlt : k < n
    · have hsz := hbel.size
      have hg := hown.lt.2
      have ik : (k : Int) < (n : Int) := by omega
      obtain ⟨z, hz⟩ : ∃ z, us[k]? = some z := ⟨us[k]'(by have := hul.out; omega), List.getElem?_eq_getElem _⟩
      go_wp2_with (at_make; refine wpList_make_ints _ rfl (.tmp 14) (.tmp 14) rfl ints n rfl rfl (by omega) ?_; intro w7 hown7 hbel7 hlt7; have hownr := hown.below hbel7; have hck := hownr.cell hz; have hfk := hownr.frozen k)
      have HNX := hide (hsq.out.put (by rw [hul.out]; exact hlt) hg hsz hbel7 hown7)
      go_roundw
      case rel => exact ⟨k + 1, _, _, by omega, by go_num, hownr.set k _, (by have := hul.out; show _ = _; simpa using this), HNX.out, (hbel.trans (hbel7.mono hsz)).setCell (Nat.le_refl _) _⟩
      case measure => simp [intOf]; omega
    · obtain rfl : k = n := by omega
      go_wp2_with fail
      go_ret
      exact ⟨us, bl, rfl, hown, hsq.out, hbel⟩

set_option maxHeartbeats 8000000 in
theorem SmallI_yes (v : Value) (xss : List (List Int)) (w : World) (h : RdSS w v xss) (hok : okGaps xss = true) :
    Calls Try.prog 21 #[v] w fun e w' => ∃ v', e = .returned v' ∧ OwnSS w' w.heap.size v' (fwC xss.length xss xss.length) ∧ Below w.heap.size w w' := by
  obtain ⟨A, cA, rfl, hcA, hmA, _⟩ := id h
  obtain ⟨⟨hn1, hn6⟩, hrl, _⟩ := okGaps_all hok
  have K := hide fun w h => ValidGapsI_c (.slice A xss.length cA) xss true w h hok
  have HSQ : Hid (Sq xss.length xss) := ⟨rfl, hrl⟩
  have HROW := hide fun (w : World) (h : RdSS w (.slice A xss.length cA) xss) (j : Nat) (hj : j < xss.length) => h.row hj
  obtain ⟨L, hL⟩ : ∃ L, xss.length = L := ⟨_, rfl⟩
  rw [hL] at HSQ HROW K h hcA hn1 hn6 ⊢
  have HL := hide hL
  have KQ := hide fun w => square_c L w hn1 hn6
  clear hL hrl hok
  go_enter Try.func21, Try.ntmps21
  go_wp2_with fail
  refine (K.out _ h).mono ?_
  rintro e w1 ⟨rfl, hb1⟩
  go_wp2_with fail
  refine (KQ.out _).mono ?_
  rintro e w2 ⟨us, bl, rfl, hown2, hsq2, hb2⟩
  have hs12 := hb1.size
  obtain ⟨g, hgd⟩ : ∃ g, w1.heap.size = g := ⟨_, rfl⟩
  rw [hgd] at hown2 hsq2 hs12 ⊢
  have hbw2 := hb1.trans (hb2.mono hb1.size)
  have hul := hown2.len.1
  have HSQ2 := hide (hsq2.low hs12)
  have hbg : w.heap.size ≤ g := hs12
  have hown2w : OwnV w2 w.heap.size 28 (.slice (some ⟨g, 0, none⟩) L L) us := by
    obtain ⟨hl, h0 | ⟨g', cap, cur, hv, hB, hr⟩⟩ := id hown2
    · exact ⟨hl, .inl h0⟩
    · exact ⟨hl, .inr ⟨g', cap, cur, hv, by omega, hr⟩⟩
  clear hsq2 hgd hul hown2 hb1 hb2 K KQ
  go_wp2_with fail
  go_loopw [16] (fun i wr => ∃ (k : Nat) (f : Nat → List Int), k ≤ L ∧ i = .int .i64 k ∧ OwnV wr w.heap.size 28 (.slice (some ⟨g, 0, none⟩) L L) us ∧ Hid (SqK wr w.heap.size g us bl f L L) ∧ Hid ((∀ j, j < k → f j = rw_ xss j) ∧ ∀ j, j < L → (f j).length = L) ∧ Below w.heap.size w wr) (fun i _ => L - (intOf i).toNat)
  case atStart => exact ⟨0, _, by omega, rfl, hown2w, HSQ2.out, ⟨fun j hj => by omega, fun j hj => by simp⟩, hbw2⟩
  case round =>
    clear HSQ2 hown2w hbw2
    obtain ⟨k, f, hk, rfl, hown, hsq, hf, hbel⟩ := hrel
    by_cases hlt : k < L
    · have hw := h.below hbel
      obtain ⟨ga, oa, rfl, hga, Br, dr, hcr, hrdr, hd1, hd2, _⟩ := HROW.out _ hw k (by have := HL.out; omega)
      have hrl : (rw_ xss k).length = L := HSQ.out.2 k hlt
      have HRL := hide hrl
      rw [hrl] at hcr hrdr hd1
      obtain ⟨q1, q2, q3, _⟩ := hsq.out k hlt
      have hco := hown.cell q1
      have ik : (k : Int) < (L : Int) := by omega
      have HFL := hide (hf.out.2 k hlt)
      clear hrl q1
      go_wp2_with fail
      refine wp_region_quiet_tail 8 (by kernel_rfl) (by kernel_rfl) ?_
      simp only [List.take_succ_cons, List.take_zero, List.drop_succ_cons, List.drop_zero]
      repeat (go_big_quiet_step (fail))
      refine wpQuiet_nil ?_
      intro _ hw'
      obtain ⟨nq, rfl⟩ := hw'
      refine wpList_copy_ints rfl (.tmp 22) (.tmp 26) rfl ints w.heap.size (bl k) L L _ (f k) (rw_ xss k) rfl rfl (q2.drewN nq) (hrdr.drewN nq) HFL.out HRL.out (by omega) ?_
      intro w7 hown7 hg7 hs7
      go_wp2_with fail
      have hsqd : SqK (wr.drewN nq) w.heap.size g us bl f L L := hsq.out
      have HNX := hide (hsqd.copy hlt hg7 hown7)
      have hne : g ≠ bl k := by omega
      have hbk : w.heap.size ≤ bl k := hown7.lt.1
      have hown8 : OwnV w7 w.heap.size 28 (.slice (some ⟨g, 0, none⟩) L L) us := World.ownsRow.kept (show OwnV (wr.drewN nq) w.heap.size 28 (.slice (some ⟨g, 0, none⟩) L L) us from hown) hg7 (.inr (by simpa [Value.ownBlock] using hne))
      have hbel8 : Below w.heap.size w w7 := (below_drewN hbel nq).trans ⟨hg7.os, hg7.tape, hg7.output, hg7.size, fun x hx => hg7.block x (by have := hbel.size; show _ < wr.heap.size; omega) (by simp; omega)⟩
      go_roundw
      case rel =>
        refine ⟨k + 1, _, by omega, by go_num, hown8, HNX.out, ⟨fun j hj => ?_, fun j hj => ?_⟩, hbel8⟩
        · by_cases e : j = k
          · subst e; simp
          · simp only [e, if_false]; exact hf.out.1 j (by omega)
        · by_cases e : j = k
          · subst e; simp only [if_true]; exact HRL.out
          · simp only [e, if_false]; exact hf.out.2 j hj
      case measure => simp [intOf]; omega
    · obtain rfl : L = k := by omega
      have hsq3 : SqK wr w.heap.size g us bl (rw_ xss) L L := fun j hj => by
        have := hsq.out j hj
        rwa [hf.out.1 j hj] at this
      have HSH : Hid (∀ j, j < L → us[j]? = some (.slice (some ⟨bl j, 0, none⟩) L L) ∧ g < bl j ∧ ∀ i, i < j → bl i < bl j) := fun j hj => ⟨(hsq3 j hj).1, (hsq3 j hj).2.2⟩
      obtain ⟨cp, hcp⟩ : ∃ cp : Nat → Nat, cp = fun _ => L := ⟨_, rfl⟩
      have HMX : Hid (MxW wr w.heap.size L g bl cp (fwC L xss 0)) := by rw [hcp]; exact hsq3.mx hown HSQ.out
      have HOW := hide hown
      have HEND : Hid (∀ w', MxW w' w.heap.size L g bl cp (fwC L xss L) → OwnV w' w.heap.size 28 (.slice (some ⟨g, 0, none⟩) L L) us → Below w.heap.size w w' → ∃ v', Ending.returned (.slice (some ⟨g, 0, none⟩) L L) = .returned v' ∧ OwnSS w' w.heap.size v' (fwC L xss L) ∧ Below w.heap.size w w') :=
        fun w' h1 h2 h3 => ⟨_, rfl, h1.ownSS h2 (by rw [hcp]; exact HSH.out) (by omega), h3⟩
      obtain ⟨R0, hR0⟩ : ∃ R, w.heap.size = R := ⟨_, rfl⟩
      clear hsq3 hsq hown hf hcp
      rw [hR0] at HMX HOW HEND hbel
      have HR0 := hide hR0
      clear hR0
      go_wp2_with fail
      go_loopw [31] (fun i wr' => ∃ m : Nat, m ≤ L ∧ i = .int .i64 m ∧ Hid (MxW wr' R0 L g bl cp (fwC L xss m)) ∧ Hid (OwnV wr' R0 28 (.slice (some ⟨g, 0, none⟩) L L) us) ∧ Below R0 w wr') (fun i _ => L - (intOf i).toNat)
      case atStart => exact ⟨0, by omega, rfl, HMX.out, HOW.out, hbel⟩
      case round =>
        rename World => wa
        obtain ⟨m, hm, rfl, hmx, how, hbel⟩ := hrel
        by_cases hml : m < L
        · have im : (m : Int) < (L : Int) := by omega
          have HNC : Hid (fwC L xss (m + 1) = fwA L (fwC L xss m) m L) := rfl
          obtain ⟨PC, hPC⟩ : ∃ P, fwC L xss m = P := ⟨_, rfl⟩
          rw [hPC] at hmx HNC
          clear hPC
          go_wp2_with fail
          go_loopw [36] (fun i wr' => ∃ a : Nat, a ≤ L ∧ i = .int .i64 a ∧ Hid (MxW wr' R0 L g bl cp (fwA L PC m a)) ∧ Hid (OwnV wr' R0 28 (.slice (some ⟨g, 0, none⟩) L L) us) ∧ Below R0 w wr') (fun i _ => L - (intOf i).toNat)
          case atStart => exact ⟨0, by omega, rfl, hmx, how, hbel⟩
          case round =>
            rename World => wa2
            clear hmx how hbel
            obtain ⟨a, ha, rfl, hmx, how, hbel⟩ := hrel
            by_cases hal : a < L
            · have ia : (a : Int) < (L : Int) := by omega
              have HNA : Hid (fwA L PC m (a + 1) = fwB (fwA L PC m a) m a L) := rfl
              obtain ⟨PA, hPA⟩ : ∃ P, fwA L PC m a = P := ⟨_, rfl⟩
              rw [hPA] at hmx HNA
              clear hPA
              go_wp2_with fail
              go_loopw [41] (fun i wr' => ∃ b : Nat, b ≤ L ∧ i = .int .i64 b ∧ Hid (MxW wr' R0 L g bl cp (fwB PA m a b)) ∧ Hid (OwnV wr' R0 28 (.slice (some ⟨g, 0, none⟩) L L) us) ∧ Below R0 w wr') (fun i _ => L - (intOf i).toNat)
              case atStart => exact ⟨0, by omega, rfl, hmx, how, hbel⟩
              case round =>
                rename World => wb
                clear hmx how hbel
                obtain ⟨b, hb, rfl, hmx, how, hbel⟩ := hrel
                by_cases hbl : b < L
                · have ib : (b : Int) < (L : Int) := by omega
                  have HNB : Hid (fwB PA m a (b + 1) = setM (fwB PA m a b) a b (stepM (fwB PA m a b) m a b)) := rfl
                  obtain ⟨N, hN⟩ : ∃ P, fwB PA m a b = P := ⟨_, rfl⟩
                  rw [hN] at hmx HNB
                  clear hN
                  have oa := hmx.out.outer a hal
                  have om := hmx.out.outer m hml
                  have cab := hmx.out.cells a b hal hbl
                  have cam := hmx.out.cells a m hal hml
                  have cmb := hmx.out.cells m b hml hbl
                  have fab := hmx.out.free a b hal hbl
                  have HST : Hid (stepM N m a b = min (gp N a b) (max (gp N a m) (gp N m b))) := rfl
                  obtain ⟨z, hz⟩ : ∃ z, gp N a b = z := ⟨_, rfl⟩
                  obtain ⟨x, hx⟩ : ∃ z, gp N a m = z := ⟨_, rfl⟩
                  obtain ⟨y, hy⟩ : ∃ z, gp N m b = z := ⟨_, rfl⟩
                  rw [hz] at cab HST
                  rw [hx] at cam HST
                  rw [hy] at cmb HST
                  clear hz hx hy
                  by_cases hxy : x < y
                  · by_cases hyz : y < z
                    · have HNX : Hid (fwB PA m a (b + 1) = setM N a b y) := by show _ = _; rw [HNB.out, HST.out]; congr 1; omega
                      go_wp2_with fail
                      refine wp_region_quiet_tail 28 (by kernel_rfl) (by kernel_rfl) ?_
                      simp only [List.take_succ_cons, List.take_zero, List.drop_succ_cons, List.drop_zero]
                      repeat (go_big_quiet_step (fail))
                      refine wpQuiet_nil ?_
                      intro _ hw'
                      obtain ⟨nq, rfl⟩ := hw'
                      go_wp2_with fail
                      go_roundw
                      case rel => exact ⟨b + 1, by omega, by go_num, by rw [HNX.out]; exact (hmx.out.drewN nq).set hal hbl y, OwnV.setOther (w := wb.drewN nq) how.out (by have := (hmx.out.blk a hal).2.2; simp [Value.ownBlock]; omega) _, (below_drewN hbel nq).setCell (hmx.out.blk a hal).1 _⟩
                      case measure => simp [intOf]; omega
                    · have HNX : Hid (fwB PA m a (b + 1) = setM N a b z) := by show _ = _; rw [HNB.out, HST.out]; congr 1; omega
                      go_wp2_with fail
                      refine wp_region_quiet_tail 28 (by kernel_rfl) (by kernel_rfl) ?_
                      simp only [List.take_succ_cons, List.take_zero, List.drop_succ_cons, List.drop_zero]
                      repeat (go_big_quiet_step (fail))
                      refine wpQuiet_nil ?_
                      intro _ hw'
                      obtain ⟨nq, rfl⟩ := hw'
                      go_wp2_with fail
                      go_roundw
                      case rel => exact ⟨b + 1, by omega, by go_num, by rw [HNX.out]; exact (hmx.out.drewN nq).set hal hbl z, OwnV.setOther (w := wb.drewN nq) how.out (by have := (hmx.out.blk a hal).2.2; simp [Value.ownBlock]; omega) _, (below_drewN hbel nq).setCell (hmx.out.blk a hal).1 _⟩
                      case measure => simp [intOf]; omega
                  · by_cases hyz : x < z
                    · have HNX : Hid (fwB PA m a (b + 1) = setM N a b x) := by show _ = _; rw [HNB.out, HST.out]; congr 1; omega
                      go_wp2_with fail
                      refine wp_region_quiet_tail 28 (by kernel_rfl) (by kernel_rfl) ?_
                      simp only [List.take_succ_cons, List.take_zero, List.drop_succ_cons, List.drop_zero]
                      repeat (go_big_quiet_step (fail))
                      refine wpQuiet_nil ?_
                      intro _ hw'
                      obtain ⟨nq, rfl⟩ := hw'
                      go_wp2_with fail
                      go_roundw
                      case rel => exact ⟨b + 1, by omega, by go_num, by rw [HNX.out]; exact (hmx.out.drewN nq).set hal hbl x, OwnV.setOther (w := wb.drewN nq) how.out (by have := (hmx.out.blk a hal).2.2; simp [Value.ownBlock]; omega) _, (below_drewN hbel nq).setCell (hmx.out.blk a hal).1 _⟩
                      case measure => simp [intOf]; omega
                    · have HNX : Hid (fwB PA m a (b + 1) = setM N a b z) := by show _ = _; rw [HNB.out, HST.out]; congr 1; omega
                      go_wp2_with fail
                      refine wp_region_quiet_tail 28 (by kernel_rfl) (by kernel_rfl) ?_
                      simp only [List.take_succ_cons, List.take_zero, List.drop_succ_cons, List.drop_zero]
                      repeat (go_big_quiet_step (fail))
                      refine wpQuiet_nil ?_
                      intro _ hw'
                      obtain ⟨nq, rfl⟩ := hw'
                      go_wp2_with fail
                      go_roundw
                      case rel => exact ⟨b + 1, by omega, by go_num, by rw [HNX.out]; exact (hmx.out.drewN nq).set hal hbl z, OwnV.setOther (w := wb.drewN nq) how.out (by have := (hmx.out.blk a hal).2.2; simp [Value.ownBlock]; omega) _, (below_drewN hbel nq).setCell (hmx.out.blk a hal).1 _⟩
                      case measure => simp [intOf]; omega
                · obtain rfl : b = L := by omega
                  go_wp2_with fail
                  go_roundw
                  case rel => exact ⟨a + 1, by omega, by go_num, by rw [HNA.out]; exact hmx.out, how, hbel⟩
                  case measure => simp [intOf]; omega
            · obtain rfl : a = L := by omega
              go_wp2_with fail
              go_roundw
              case rel => exact ⟨m + 1, by omega, by go_num, by rw [HNC.out]; exact hmx.out, how, hbel⟩
              case measure => simp [intOf]; omega
        · obtain rfl : m = L := by omega
          go_wp2_with fail
          go_ret
          obtain rfl := HR0.out
          exact HEND.out _ hmx.out how.out hbel
end Go.Proofs.Ytncglgkpgbhejaa
