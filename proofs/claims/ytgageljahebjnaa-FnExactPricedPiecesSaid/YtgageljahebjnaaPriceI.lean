
/-
  Contracts: PricedPieces of the program.
-/
import Derived.Test.YtgageljahebjnaaCutI
import Derived.Test.YtgageljahebjnaaPieceI
namespace Go.Proofs.Ytgageljahebjnaa
open Go.RowKit

/-- w' is w with new blocks and a changed block b. -/
def Oth (w : World) (b : Nat) (w' : World) : Prop := Below b w w' ∧ w.heap.size ≤ w'.heap.size ∧ ∀ c o, c < w.heap.size → c ≠ b → w'.cell? ⟨c, o, none⟩ = w.cell? ⟨c, o, none⟩
theorem Oth.refl (w : World) (b : Nat) : Oth w b w := ⟨Below.refl _ _, Nat.le_refl _, fun _ _ _ _ => rfl⟩
theorem Oth.below {w w' w'' : World} {b : Nat} (h : Oth w b w') (hb : Below w'.heap.size w' w'') (hbw : b ≤ w.heap.size) : Oth w b w'' :=
  ⟨h.1.trans (hb.mono (by have := h.2.1; omega)), by have := h.2.1; have := hb.size; omega, fun c o hc hn => (hb.cell (p := ⟨c, o, none⟩) (by show c < _; have := h.2.1; omega)).trans (h.2.2 c o hc hn)⟩
theorem Oth.put {w w' Z : World} {b : Nat} (h : Oth w b w') (hb : Below b w' Z) (hs : Z.heap.size = w'.heap.size) (ho : ∀ c o, c ≠ b → Z.cell? ⟨c, o, none⟩ = w'.cell? ⟨c, o, none⟩ ∧ Z.frozen? ⟨c, o, none⟩ = w'.frozen? ⟨c, o, none⟩) : Oth w b Z :=
  ⟨h.1.trans hb, by rw [hs]; exact h.2.1, fun c o hc hn => (ho c o hn).1.trans (h.2.2 c o hc hn)⟩

/-- The least of the first values, and which one it is, from 1 on. -/
def bst (G : Nat → Rat) : Nat → Rat × Nat
  | 0 => (G 0, 1)
  | p + 1 => if G (p + 1) < (bst G p).1 then (G (p + 1), p + 2) else bst G p
theorem bst_succ (G : Nat → Rat) (p : Nat) : bst G (p + 1) = if G (p + 1) < (bst G p).1 then (G (p + 1), p + 2) else bst G p := rfl
theorem bst_P {G : Nat → Rat} {P : Rat → Prop} : ∀ p, (∀ i, i ≤ p → P (G i)) → P (bst G p).1
  | 0, h => h 0 (Nat.le_refl _)
  | p + 1, h => by
    rw [bst_succ]
    split
    · exact h _ (Nat.le_refl _)
    · exact bst_P p fun i hi => h i (by omega)
theorem bst_le (G : Nat → Rat) : ∀ p, (bst G p).2 ≤ p + 1
  | 0 => Nat.le_refl _
  | p + 1 => by
    rw [bst_succ]
    split
    · exact Nat.le_refl _
    · have := bst_le G p; omega
def gE (m : Nat → Nat → Rat) (n : Nat) (c : Rat) (q : Nat) : Rat := eR m q n + c * ((q + 1 : Nat) : Rat)
def gA (m : Nat → Nat → Rat) (n : Nat) (c : Rat) (q : Nat) : Rat := aR m q n + c * ((q + 1 : Nat) : Rat)
theorem bE_bst (m : Nat → Nat → Rat) (n : Nat) (c : Rat) : ∀ p, bE m n c p = bst (gE m n c) p
  | 0 => by simp [bE, bst, gE, Rat.mul_one]
  | p + 1 => by rw [bE, bst_succ, bE_bst m n c p]; rfl
theorem bA_bst (m : Nat → Nat → Rat) (n : Nat) (c : Rat) : ∀ p, bA m n c p = bst (gA m n c) p
  | 0 => by simp [bA, bst, gA, Rat.mul_one]
  | p + 1 => by rw [bA, bst_succ, bA_bst m n c p]; rfl
theorem price_same {m : Nat → Nat → Rat} {n : Nat} {c : Rat} (hc : 0 ≤ c) {p : Nat} (hp : p < n) : bst (gE m n c) p = bst (gA m n c) p := by
  rw [← bE_bst, ← bA_bst]; exact (bE_bA hc p hp).1
theorem cost_int (c : Int) (q : Nat) : ((c * ((q : Int) + 1) : Int) : Rat) = (c : Rat) * ((q + 1 : Nat) : Rat) := by
  rw [Rat.intCast_mul]; congr 1
theorem cost_bd {c : Int} {q : Nat} (h0 : 0 ≤ c) (h1 : c ≤ 500) (hq : q < 8) : 0 ≤ c * ((q : Int) + 1) ∧ c * ((q : Int) + 1) ≤ 4000 := by
  have := mul_bd (a := c) (b := (q : Int) + 1) (M := 500) (N := 8) (by omega) (by omega)
  omega
theorem sm_cost {r : Rat} {k : Nat} {c : Int} {q : Nat} (hr : FB 840 (756000 * (k : Int)) r) (hk : k ≤ 8) (h0 : 0 ≤ c) (h1 : c ≤ 500) (hq : q < 8) : Sm r ∧ Sm (((c * ((q : Int) + 1) : Int)) : Rat) ∧ Sm (r + (((c * ((q : Int) + 1) : Int)) : Rat)) := by
  have hb := cost_bd h0 h1 hq
  have hi := FB.int (D := 840) (by omega) (c * ((q : Int) + 1)) (N := 4000) (by omega)
  exact ⟨sm_840 hr (by omega), hi.sm (by omega) (by omega) (by omega), (hr.add (by omega) hi).sm (by omega) (by omega) (by omega)⟩
theorem eR_fb {xs : List Int} (hall : allB (-30) 30 xs = true) (hn : xs.length ≤ 8) {p k : Nat} (h1 : p < k) (h2 : k ≤ xs.length) : FB 840 (756000 * (k : Int)) (eR (mR xs) p k) := (eR_lst h1).1.fb hall hn h2
theorem aR_fb {xs : List Int} (hall : allB (-30) 30 xs = true) (hn : xs.length ≤ 8) {p k : Nat} (h1 : 0 < k) (h2 : k ≤ xs.length) : FB 840 (756000 * (k : Int)) (aR (mR xs) p k) := by
  obtain ⟨q, _, h⟩ := (aR_lst (m := mR xs) (p := p) h1).1
  exact h.fb hall hn h2
/-- What the cells of the program's search hold behind q values. -/
def stI (G : Nat → Rat) : Nat → Int × Int × Int
  | 0 => (0, 0, 0)
  | j + 1 => ((bst G j).1.num, ((bst G j).1.den : Int), ((bst G j).2 : Int))
def okPP (xs : List Int) (c : Int) : Prop := okSteps xs = true ∧ 0 ≤ c ∧ c ≤ 500

set_option maxHeartbeats 400000 in
theorem PricedI_no (v : Value) (xs : List Int) (p : Int) (w : World) (hr : Rd w v xs) (h : ¬ okPP xs p) :
    Calls Try.prog 18 #[v, .int .i64 p] w fun e w' => e = .returned (.tuple #[.agg #[.int .i64 0, .int .i64 0], .int .i64 0, .bool false]) ∧ Below w.heap.size w w' := by
  have hr' := hr
  obtain ⟨A, c, rfl, hc, hm, _⟩ := hr
  cases hok : okSteps xs
  · have HO := hide hok
    clear hok h
    go_enter Try.func18, Try.ntmps18
    go_wp2_with fail
    refine (rowValid_c _ xs false _ (hr'.alloc _) HO.out).mono ?_
    rintro e w1 ⟨rfl, hb1⟩
    obtain ⟨hc1, hf1⟩ := bcell hb1
    have hz1 := hb1.size
    go_wp2_with fail
    refine bodyPost_ret (v := .tuple #[.agg #[.int .i64 0, .int .i64 0], .int .i64 0, .bool false]) (by simp [results, Try.results18, go_sem, hc1]) rfl ⟨rfl, ?_⟩
    (repeat (first | exact Below.refl _ _ | assumption | refine Below.setCell ?_ (by first | (simp; done) | omega | (simp; omega) | (simp at *; omega)) _ | refine Below.drew ?_ | refine below_drewN ?_ _ | refine below_alloc' ?_ _ | refine below_to' ?_ (by assumption)))
  · have HO := hide hok
    have hp : ¬ (0 ≤ p ∧ p ≤ 500) := fun hp => h ⟨hok, hp⟩
    clear hok h
    go_enter Try.func18, Try.ntmps18
    go_wp2_with fail
    refine (rowValid_c _ xs true _ (hr'.alloc _) HO.out).mono ?_
    rintro e w1 ⟨rfl, hb1⟩
    obtain ⟨hc1, hf1⟩ := bcell hb1
    have hz1 := hb1.size
    go_wp2_with fail
    refine (in_c false _ _ _ _ (by simp; omega)).mono ?_
    rintro e w' ⟨rfl, rfl⟩
    go_wp2_with fail
    refine bodyPost_ret (v := .tuple #[.agg #[.int .i64 0, .int .i64 0], .int .i64 0, .bool false]) (by simp [results, Try.results18, go_sem, hc1]) rfl ⟨rfl, ?_⟩
    (repeat (first | exact Below.refl _ _ | assumption | refine Below.setCell ?_ (by first | (simp; done) | omega | (simp; omega) | (simp at *; omega)) _ | refine Below.drew ?_ | refine below_drewN ?_ _ | refine below_alloc' ?_ _ | refine below_to' ?_ (by assumption)))

set_option maxHeartbeats 4000000 in
theorem PricedI_yes (v : Value) (xs : List Int) (p : Int) (w : World) (hr : Rd w v xs) (h : okPP xs p) :
    Calls Try.prog 18 #[v, .int .i64 p] w fun e w' => e = .returned (.tuple #[.agg #[.int .i64 ((bst (gE (mR xs) xs.length (p : Rat)) (xs.length - 1)).1).num, .int .i64 (((bst (gE (mR xs) xs.length (p : Rat)) (xs.length - 1)).1).den : Int)], .int .i64 ((bst (gE (mR xs) xs.length (p : Rat)) (xs.length - 1)).2 : Int), .bool true]) ∧ Below w.heap.size w w' := by
  obtain ⟨hok, hp1, hp2⟩ := h
  obtain ⟨hall, hl1, hl2⟩ := okSteps_parts hok
  have HO := hide hok
  have K := hide fun w hr => leastCut_c v xs w hr hall hl1 hl2
  obtain ⟨G, hG⟩ : ∃ G, gE (mR xs) xs.length (p : Rat) = G := ⟨_, rfl⟩
  have HGq : Hid (∀ q, q < xs.length → eR (mR xs) q xs.length + ((p * ((q : Int) + 1) : Int) : Rat) = G q ∧ Sm (eR (mR xs) q xs.length) ∧ Sm (((p * ((q : Int) + 1) : Int)) : Rat) ∧ Sm (G q)) := fun q hq => by
    have e : eR (mR xs) q xs.length + ((p * ((q : Int) + 1) : Int) : Rat) = G q := by rw [← hG, gE, cost_int]
    obtain ⟨s1, s2, s3⟩ := sm_cost (c := p) (q := q) (eR_fb hall hl2 hq (Nat.le_refl _)) hl2 hp1 hp2 (by omega)
    rw [e] at s3
    exact ⟨e, s1, s2, s3⟩
  rw [hG]
  have HSB : Hid (∀ j, j < xs.length → Sm (bst G j).1) := fun j hj => bst_P (P := Sm) j fun i hi => (HGq.out i (by omega)).2.2.2
  obtain ⟨n, hn⟩ : ∃ n, xs.length = n := ⟨_, rfl⟩
  have HN := hide hn
  obtain ⟨W, hW, hbW, hWs, hRW⟩ := new1 w 24 0 0
  have HRW := hide hRW
  have hrW := hr.below hbW
  clear hok hall hG hRW hr hn
  go_enter Try.func18, Try.ntmps18
  go_wp2_with fail
  clear hW
  refine (rowValid_c _ xs true _ hrW HO.out).mono ?_
  rintro e w1 ⟨rfl, hb1⟩
  have hz1 := hb1.size
  go_wp2_with fail
  refine (in_c true _ _ _ _ (by simp; omega)).mono ?_
  rintro e w' ⟨rfl, rfl⟩
  go_wp2_with fail
  obtain ⟨V, hV, hbV, hVs, hPV⟩ := new1 w1 24 0 0
  have HPV := hide hPV
  rw [hV]
  clear hPV hV
  refine (K.out _ ((hrW.below hb1).below hbV)).mono ?_
  rintro e w2 ⟨v2, rfl, hs2, hb2⟩
  have hz2 := hb2.size
  obtain ⟨A2, c2, rfl, hc2, hm2, hcell2⟩ := hs2
  have hln : (outL (mR xs) xs.length (xs.length - 1)).length = n := by rw [outL_len, HN.out]; have := HN.out; omega
  rw [hln] at hc2 hcell2 ⊢
  have HCELL : Hid (0 < n → ∃ g off, A2 = some ⟨g, off, none⟩ ∧ g < w2.heap.size ∧ g ≠ w1.heap.size ∧ ∀ q, q < n → w2.cell? ⟨g, off + q * 2, none⟩ = some (.int .i64 (eR (mR xs) q xs.length).num) ∧ w2.cell? ⟨g, off + q * 2 + 1, none⟩ = some (.int .i64 ((eR (mR xs) q xs.length).den : Int))) := fun h => by
    obtain ⟨g, off, h1, h2, h2', h3, -⟩ := hcell2 h
    refine ⟨g, off, h1, h2', by omega, fun q hq => ?_⟩
    have := h3 q hq
    rw [outL_at (mR xs) (show q ≤ xs.length - 1 by have := HN.out; omega)] at this
    exact this
  have hbw2 : Below w.heap.size w w2 := hbW.trans ((hb1.trans ((hbV.trans (hb2.mono (by omega))).mono hz1)).mono (by omega))
  have hpv2 := hide (HPV.out.below hb2 (by omega))
  have hrw2 := hide (((HRW.out.below hb1 (by omega)).below hbV (by omega)).below hb2 (by omega))
  have hw1n : w1.heap.size < w2.heap.size := by omega
  have hn8 : n ≤ 8 := by have := HN.out; omega
  have hn1 : 1 ≤ n := by have := HN.out; omega
  clear hcell2 hln
  go_wp2_with fail
  go_loopw [8, 25] (fun mn i wr => ∃ q : Nat, q ≤ n ∧ i = .int .i64 q ∧ mn = .int .i64 (stI G q).2.2 ∧ Hid (Oth w2 w1.heap.size wr ∧ Pr wr w1.heap.size (stI G q).1 (stI G q).2.1)) (fun _ i _ => n - (intOf i).toNat)
  case atStart => exact ⟨0, by omega, rfl, rfl, Oth.refl _ _, hpv2.out⟩
  case round =>
    obtain ⟨q, hq, rfl, rfl, hwr⟩ := hrel
    have hoth := hwr.out.1
    have hzr := hoth.2.1
    have hbwr : Below w.heap.size w wr := hbw2.trans (hoth.1.mono (by omega))
    by_cases hqn : q < n
    · obtain ⟨g, off, rfl, hg, hgb, hcl⟩ := HCELL.out (by omega)
      obtain ⟨t1, t2⟩ := hcl q hqn
      obtain ⟨hge, s1, s2, s3⟩ := HGq.out q (by have := HN.out; omega)
      obtain ⟨hcb1, hcb2⟩ := cost_bd (c := p) (q := q) hp1 hp2 (by omega)
      have K0 := hide fun u => whole_c (p * ((q : Int) + 1)) u
      have K1 := hide fun u => plusI_c (eR (mR xs) q xs.length) (((p * ((q : Int) + 1) : Int)) : Rat) u s1 s2
      rw [hge] at K1
      obtain ⟨F, hF⟩ : ∃ F, eR (mR xs) q xs.length = F := ⟨_, rfl⟩
      obtain ⟨R, hR⟩ : ∃ F : Rat, (((p * ((q : Int) + 1) : Int)) : Rat) = F := ⟨_, rfl⟩
      rw [hF] at t1 t2 K1
      rw [hR] at K0 K1
      have HGX : Hid (G q = G q) := rfl
      have HSTEP : Hid (q = 0 ∧ stI G (q + 1) = ((G q).num, ((G q).den : Int), 1) ∨ 1 ≤ q ∧ stI G q = ((bst G (q - 1)).1.num, ((bst G (q - 1)).1.den : Int), ((bst G (q - 1)).2 : Int)) ∧ Sm (bst G (q - 1)).1 ∧
          ((G q < (bst G (q - 1)).1 → stI G (q + 1) = ((G q).num, ((G q).den : Int), (q : Int) + 1)) ∧ (¬ G q < (bst G (q - 1)).1 → stI G (q + 1) = stI G q))) := by
        by_cases h : q = 0
        · subst h
          exact .inl ⟨rfl, rfl⟩
        · right
          obtain ⟨j, rfl⟩ : ∃ j, q = j + 1 := ⟨q - 1, by omega⟩
          refine ⟨by omega, rfl, HSB.out j (by have := HN.out; omega), fun hlt => ?_, fun hlt => ?_⟩
          · show (_, _, _) = _
            rw [bst_succ, if_pos (show G (j + 1) < (bst G j).1 from hlt)]
            simp only [Prod.mk.injEq, true_and]
            omega
          · show (_, _, _) = (_, _, _)
            rw [bst_succ, if_neg (show ¬ G (j + 1) < (bst G j).1 from hlt)]
      obtain ⟨X, hX⟩ : ∃ X, G q = X := ⟨_, rfl⟩
      rw [hX] at K1 HSTEP s3
      have t1 := (hoth.2.2 g (off + q * 2) hg hgb).trans t1
      have t2 := (hoth.2.2 g (off + q * 2 + 1) hg hgb).trans t2
      have e1 : IntKind.i64.wrap ((q : Int) + 1) = (q : Int) + 1 := IntWalk.i64_in _ (by omega)
      have e2 : IntKind.i64.wrap (p * ((q : Int) + 1)) = p * ((q : Int) + 1) := IntWalk.i64_in _ (by omega)
      have iq : (q : Int) < (n : Int) := by omega
      have hgr : g < wr.heap.size := by omega
      obtain ⟨V3, hV3, hbV3, hVs3, hP3⟩ := new1 wr 24 F.num F.den
      have HP3 := hide hP3
      obtain ⟨⟨m1, m2⟩, -, -⟩ := hP3
      clear hcl hge s1 s2 hF hR hX hcb1 hcb2 HGX
      go_wp2_with fail
      clear hV3 t1 t2
      refine wp_region_free_ex 7 11 (.cells #[.int .i64 0, .int .i64 0] 24) (by kernel_rfl) (by kernel_rfl) (by kernel_rfl) (fun oa hoa => by cases hoa; exact ⟨rfl, fun ρ w => by simp [execOp, go_sem]⟩) ?_
      apply Exists.intro
      refine ⟨fun z hz => ?_, ?_⟩
      · have k1 := cell_grn hz (by omega) m1
        have k2 := cell_grn hz (by omega) m2
        simp only [List.take_succ_cons, List.take_zero]
        repeat (go_big_quiet_step ((first | (go_at_call 33; with_reducible exact calls_grn K1.out) | (go_at_call 30; with_reducible exact calls_grn K0.out))))
        exact wpQuiet_nil rfl
      intro pc w3 hb3 hpc hoc
      obtain ⟨⟨⟨q1, q2⟩, q3, q4⟩, Z1, hZ1, hbZ1, hPZ1, hs1⟩ := Pr.new hb3 hpc hoc X.num X.den
      have hsz1 := hbZ1.size
      have hbrZ : Below wr.heap.size wr Z1 := hbV3.trans (hbZ1.mono (by omega))
      have hothZ := hoth.below hbrZ (by omega)
      have hprZ := hwr.out.2.below hbrZ (by omega)
      have HPX := hide hPZ1
      have HPB := hide hprZ
      obtain ⟨⟨x1, x2⟩, x3, x4⟩ := hPZ1
      clear m1 m2 hpc hoc hb3 hprZ e2
      simp only [List.drop_succ_cons, List.drop_zero, Act.put]
      rcases HSTEP.out with ⟨hq0, hst⟩ | ⟨hq1, hstq, sB, hyes, hno⟩
      · have HST := hide hst
        obtain ⟨Z2, hZ2, hbZ2, hPZ2, hZs2, hZo2⟩ := HPB.out.put X.num X.den
        have HP2 := hide hPZ2
        have HO2 := hide (hothZ.put hbZ2 hZs2 hZo2)
        obtain ⟨⟨b1, b2⟩, b3, b4⟩ := HPB.out
        have hq0b : ((q : Int) == 0) = true := by simp [hq0]
        have HQ0 := hide hq0
        clear hst hPZ2 hZo2 hq0
        go_wp2_with fail
        clear hZ1 hZ2 q1 q2 q3 q4
        go_roundw
        case rel => exact ⟨q + 1, by omega, by go_num, by rw [HST.out]; first | rfl | (simp only [Value.int.injEq, true_and]; have := HQ0.out; omega), HO2.out, by rw [HST.out]; exact HP2.out⟩
        case measure => simp [intOf]; omega
      · have hq0b : ((q : Int) == 0) = false := beq_eq_false_iff_ne.2 (by omega)
        obtain ⟨B, hB⟩ : ∃ B, (bst G (q - 1)).1 = B := ⟨_, rfl⟩
        rw [hB] at sB hyes hno hstq
        have HBQ := hide hstq
        have hprB := HPB.out
        rw [hstq] at hprB
        have KL := hide fun u => lessI_c X B u s3 sB
        have HY := hide hyes
        have HNO := hide hno
        have HPB2 := hide hprB
        obtain ⟨⟨b1, b2⟩, b3, b4⟩ := hprB
        have b1 : Z1.cell? ⟨w1.heap.size, 0, none⟩ = some (.int .i64 B.num) := b1
        have b2 : Z1.cell? ⟨w1.heap.size, 1, none⟩ = some (.int .i64 (B.den : Int)) := b2
        clear hstq hB sB hyes hno
        go_wp2_with fail
        clear hZ1 q1 q2 q3 q4
        refine (KL.out _).mono ?_
        rintro e w4 ⟨rfl, hb4⟩
        have hz4 := hb4.size
        have hpx4 := HPX.out.below hb4 hs1
        have hpb4 := HPB2.out.below hb4 (by omega)
        have hoth4 := hothZ.below hb4 (by omega)
        clear x1 x2 x3 x4 b1 b2 b3 b4
        by_cases hxb : X < B
        · have hd := decide_eq_true hxb
          have HST := hide (HY.out hxb)
          obtain ⟨Z2, hZ2, hbZ2, hPZ2, hZs2, hZo2⟩ := hpb4.put X.num X.den
          have HP2 := hide hPZ2
          have HO2 := hide (hoth4.put hbZ2 hZs2 hZo2)
          obtain ⟨⟨x1, x2⟩, x3, x4⟩ := hpx4
          obtain ⟨⟨b1, b2⟩, b3, b4⟩ := hpb4
          clear hxb hPZ2 hZo2
          rw [hd]
          go_wp2_with fail
          clear hZ2
          go_roundw
          case rel => exact ⟨q + 1, by omega, by go_num, by rw [HST.out], HO2.out, by rw [HST.out]; exact HP2.out⟩
          case measure => simp [intOf]; omega
        · have hd := decide_eq_false hxb
          have HST := hide (HNO.out hxb)
          have HP2 : Hid (Pr w4 w1.heap.size (stI G q).1 (stI G q).2.1) := by
            show Pr _ _ _ _
            rw [HBQ.out]
            exact hpb4
          have HO2 := hide hoth4
          clear hxb hpx4 hpb4
          rw [hd]
          go_wp2_with fail
          go_roundw
          case rel => exact ⟨q + 1, by omega, by go_num, by rw [HST.out], HO2.out, by rw [HST.out]; exact HP2.out⟩
          case measure => simp [intOf]; omega
    · obtain rfl : q = n := by omega
      have HEND : Hid (stI G q = ((bst G (xs.length - 1)).1.num, ((bst G (xs.length - 1)).1.den : Int), ((bst G (xs.length - 1)).2 : Int))) := by
        show _ = _
        rw [show q = xs.length - 1 + 1 by have := HN.out; omega]
        rfl
      obtain ⟨B, hB⟩ : ∃ B, (bst G (xs.length - 1)).1 = B := ⟨_, rfl⟩
      obtain ⟨N2, hN2⟩ : ∃ B, (bst G (xs.length - 1)).2 = B := ⟨_, rfl⟩
      have HB := hide (And.intro hB hN2)
      rw [hB, hN2] at HEND
      have hpb := hwr.out.2
      rw [HEND.out] at hpb
      obtain ⟨⟨b1, b2⟩, -, -⟩ := hpb
      have b1 : wr.cell? ⟨w1.heap.size, 0, none⟩ = some (.int .i64 B.num) := b1
      have b2 : wr.cell? ⟨w1.heap.size, 1, none⟩ = some (.int .i64 (B.den : Int)) := b2
      have hRr := hrw2.out.keep hoth.1 (by omega)
      obtain ⟨Z, hZ, hbZ, hPZ, hZs, _⟩ := hRr.put B.num B.den
      obtain ⟨⟨r1, r2⟩, r3, r4⟩ := hRr
      obtain ⟨⟨z1, z2⟩, -, -⟩ := hPZ
      rw [HEND.out]
      clear hB hN2
      go_wp2_with fail
      refine bodyPost_ret (v := .tuple #[.agg #[.int .i64 (B).num, .int .i64 ((B).den : Int)], .int .i64 (N2 : Int), .bool true]) (by simp [results, Try.results18, go_sem, z1, z2]) rfl ⟨by rw [HB.out.1, HB.out.2], hbwr.trans hbZ⟩
end Go.Proofs.Ytgageljahebjnaa
