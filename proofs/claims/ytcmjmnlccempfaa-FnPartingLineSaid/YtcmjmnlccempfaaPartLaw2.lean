/-
  The statement FnPartingLine: for every code it returns true and writes nothing that was there.
-/
import Derived.Test.YtcmjmnlccempfaaPartLaw
import Derived.Test.YtcmjmnlccempfaaDrawP
import Derived.Test.YtcmjmnlccempfaaHelp
namespace Go.Proofs.Ytcmjmnlccempfaa
open Go.RowKit

def farN (xs ys : List Int) : Nat → Int
  | 0 => 0
  | k + 1 => max (farN xs ys k) (atL xs k * atL xs k + atL ys k * atL ys k + 1)
theorem farN_succ (xs ys : List Int) (k : Nat) : farN xs ys (k + 1) = max (farN xs ys k) (atL xs k * atL xs k + atL ys k * atL ys k + 1) := rfl
theorem farN_ge (xs ys : List Int) {i : Nat} : ∀ {k : Nat}, i < k → atL xs i * atL xs i + atL ys i * atL ys i + 1 ≤ farN xs ys k
  | 0, h => by omega
  | k + 1, h => by
    rw [farN_succ]
    by_cases c : i = k
    · subst c; exact Int.le_max_right _ _
    · exact Int.le_trans (farN_ge xs ys (k := k) (by omega)) (Int.le_max_left _ _)
theorem farN_bd {xs ys : List Int} (hx : ∀ k, -12 ≤ atL xs k ∧ atL xs k ≤ 12) (hy : ∀ k, -12 ≤ atL ys k ∧ atL ys k ≤ 12) : ∀ k : Nat, 0 ≤ farN xs ys k ∧ farN xs ys k ≤ 300
  | 0 => by simp [farN]
  | k + 1 => by
    rw [farN_succ]
    have h1 := farN_bd hx hy k
    have h2 := mul_abs_bd (hx k) (hx k) (by omega) (by omega)
    have h3 := mul_abs_bd (hy k) (hy k) (by omega) (by omega)
    omega
def partsN (xs ys ms : List Int) (A B C : Int) : Nat → Bool
  | 0 => true
  | k + 1 => partsN xs ys ms A B C k && decide (0 < (2 * atL ms k - 1) * (A * atL xs k + B * atL ys k + C))
theorem partsN_succ (xs ys ms : List Int) (A B C : Int) (k : Nat) : partsN xs ys ms A B C (k + 1) = (partsN xs ys ms A B C k && decide (0 < (2 * atL ms k - 1) * (A * atL xs k + B * atL ys k + C))) := rfl
theorem partsN_all {xs ys ms : List Int} {A B C : Int} {i : Nat} : ∀ {k : Nat}, partsN xs ys ms A B C k = true → i < k → 0 < (2 * atL ms i - 1) * (A * atL xs i + B * atL ys i + C)
  | 0, _, h => by omega
  | k + 1, h, hi => by
    rw [partsN_succ, Bool.and_eq_true, decide_eq_true_eq] at h
    by_cases c : i = k
    · subst c; exact h.2
    · exact partsN_all h.1 (by omega)
theorem part_few {xs ys ms : List Int} {A B C n : Int} (hok : okPart xs ys ms = true) (hn : (partX xs ys ms).2.1 = n) (hp : partsN xs ys ms A B C xs.length = true) : n ≤ farN xs ys xs.length * (A * A + B * B + C * C) := by
  obtain ⟨hma, ⟨_, _, hxa, hya⟩, _, _⟩ := okPart_iff.1 hok
  rw [← hn, partX_ok hok]
  exact runP_bound (fun i _ => mark_at hma i) (fun i hi => partsN_all hp hi) (fun i hi => farN_ge xs ys hi) (farN_bd (at_all hxa (by omega)) (at_all hya (by omega)) _).1 _ _ (invP_zero _ _ _ _)
theorem part_sides {xs ys ms L : List Int} {n : Int} (hok : okPart xs ys ms = true) (h : partX xs ys ms = (L, n, true)) :
    ∃ a b c : Int, (L.length = 3 ∧ atL L 0 = a ∧ atL L 1 = b ∧ atL L 2 = c) ∧ ((-6000 ≤ a ∧ a ≤ 6000) ∧ (-6000 ≤ b ∧ b ≤ 6000) ∧ (-6000 ≤ c ∧ c ≤ 6000)) ∧ ∀ i, i < xs.length → 0 < (2 * atL ms i - 1) * (a * atL xs i + b * atL ys i + c) := by
  obtain ⟨hma, ⟨_, hl, hxa, hya⟩, _, _⟩ := okPart_iff.1 hok
  rw [partX_ok hok] at h
  obtain ⟨q, hq, hs⟩ := runP_parts 60 zeroP (by rw [h])
  have hz := (runP_size (at_all hxa (by omega)) (at_all hya (by omega)) (mark_at hma) hl 60 zeroP 0 (by simp [okP, zeroP])).2
  rw [hq] at hz
  rw [h] at hq
  simp only at hq
  refine ⟨q.a, q.b, q.c, by subst hq; exact ⟨rfl, rfl, rfl, rfl⟩, ⟨?_, ?_, ?_⟩, hs⟩
  · have := hz q.a (by simp); omega
  · have := hz q.b (by simp); omega
  · have := hz q.c (by simp); omega
theorem part_ok {xs ys ms L : List Int} {n : Int} {b : Bool} (h : partX xs ys ms = (L, n, b)) (hn : ¬ n < 0) : okPart xs ys ms = true := by
  cases hok : okPart xs ys ms
  · rw [partX_bad hok] at h
    injection h with h1 h2
    injection h2 with h2 h3
    omega
  · rfl
theorem mark_01 {m : Int} (h : m = 0 ∨ m = 1) : 0 ≤ m ∧ m ≤ 1 := by omega
theorem mark_bd {m T s : Int} (hm : m = 0 ∨ m = 1) (h : -T ≤ s ∧ s ≤ T) : -T ≤ (2 * m - 1) * s ∧ (2 * m - 1) * s ≤ T := by
  rcases mark_mul (x := s) hm with e | e <;> rw [e] <;> omega

set_option maxRecDepth 20000 in
set_option maxHeartbeats 4000000 in
theorem FnPartingLine_c (A : Option Addr) (n c : Nat) (bs : List Int) (w : World) (hl : bs.length = n) (hnc : n ≤ c) (hc : c ≤ 9223372036854775807) (hr : Rd8 w w.heap.size A bs) :
    Calls Try.prog 5 #[.slice A n c] w fun e w' => e = .returned (.bool true) ∧ Below w.heap.size w w' := by
  by_cases hbig : 1048576 < n
  · go_enter Try.func5, Try.ntmps5
    go_wp2
    go_ret
    exact ⟨rfl, Below.refl _ _⟩
  · go_enter Try.func5, Try.ntmps5
    go_wp2_with fail
    refine (DrawPartingLine_c A n c bs _ hl hnc hc hr).mono ?_
    rintro e w1 ⟨v, xs, u, ys, z, ms, rfl, hsv, hsu, hsz, hb1⟩
    have hlz := partX_len xs ys ms
    have PS := hide fun u v z w (h1 : Rd w u xs) (h2 : Rd w v ys) (h3 : Rd w z ms) => PartS_c u v z xs ys ms w h1 h2 h3
    have PI := hide fun u v z w (h1 : Rd w u xs) (h2 : Rd w v ys) (h3 : Rd w z ms) => PartI_c u v z xs ys ms w h1 h2 h3
    obtain ⟨R, hR⟩ : ∃ R, partX xs ys ms = R := ⟨_, rfl⟩
    rw [hR] at hlz PS PI
    obtain ⟨L, t, b⟩ := R
    have HR := hide hR
    have hlz' : L.length ≤ 3 := hlz
    clear hlz hR
    have hrx := hsv.rd
    have hry := hsu.rd
    have hrz := hsz.rd
    go_wp2_with fail
    refine (PI.out _ _ _ _ hrx hry hrz).mono ?_
    rintro e w2 ⟨v2, rfl, hs2, hb2⟩
    go_wp2_with fail
    refine (PS.out _ _ _ _ (Rd.below hrx (by (repeat (first | exact Below.refl _ _ | assumption | refine Below.setCell ?_ (by first | (simp; done) | omega | (simp; omega) | (simp at *; omega)) _ | refine Below.drew ?_ | refine below_drewN ?_ _ | refine below_alloc' ?_ _ | refine below_to' ?_ (by assumption))))) (Rd.below hry (by (repeat (first | exact Below.refl _ _ | assumption | refine Below.setCell ?_ (by first | (simp; done) | omega | (simp; omega) | (simp at *; omega)) _ | refine Below.drew ?_ | refine below_drewN ?_ _ | refine below_alloc' ?_ _ | refine below_to' ?_ (by assumption))))) (Rd.below hrz (by (repeat (first | exact Below.refl _ _ | assumption | refine Below.setCell ?_ (by first | (simp; done) | omega | (simp; omega) | (simp at *; omega)) _ | refine Below.drew ?_ | refine below_drewN ?_ _ | refine below_alloc' ?_ _ | refine below_to' ?_ (by assumption)))))).mono ?_
    rintro e w3 ⟨v3, rfl, hs3, hb3⟩
    go_wp2_with fail
    refine (equalInts_c _ _ L L true _ (Rd.below hs2.rd (by (repeat (first | exact Below.refl _ _ | assumption | refine Below.setCell ?_ (by first | (simp; done) | omega | (simp; omega) | (simp at *; omega)) _ | refine Below.drew ?_ | refine below_drewN ?_ _ | refine below_alloc' ?_ _ | refine below_to' ?_ (by assumption))))) hs3.rd (by simp)).mono ?_
    rintro e w4 ⟨rfl, hb4⟩
    by_cases hn : t < 0
    · go_wp2_with fail
      refine (equalInts_c _ _ L L true _ (Rd.below hs2.rd (by (repeat (first | exact Below.refl _ _ | assumption | refine Below.setCell ?_ (by first | (simp; done) | omega | (simp; omega) | (simp at *; omega)) _ | refine Below.drew ?_ | refine below_drewN ?_ _ | refine below_alloc' ?_ _ | refine below_to' ?_ (by assumption))))) (Rd.below hs3.rd (by (repeat (first | exact Below.refl _ _ | assumption | refine Below.setCell ?_ (by first | (simp; done) | omega | (simp; omega) | (simp at *; omega)) _ | refine Below.drew ?_ | refine below_drewN ?_ _ | refine below_alloc' ?_ _ | refine below_to' ?_ (by assumption))))) (by simp)).mono ?_
      rintro e w5 ⟨rfl, hb5⟩
      go_wp2_with fail
      go_ret
      exact ⟨rfl, by (repeat (first | exact Below.refl _ _ | assumption | refine Below.setCell ?_ (by first | (simp; done) | omega | (simp; omega) | (simp at *; omega)) _ | refine Below.drew ?_ | refine below_drewN ?_ _ | refine below_alloc' ?_ _ | refine below_to' ?_ (by assumption)))⟩
    · have hok := part_ok HR.out hn
      have HF := hide fun A B C => part_few (A := A) (B := B) (C := C) hok (by rw [HR.out])
      have HS : Hid (b = true → _) := fun hb => part_sides hok (by rw [HR.out, hb])
      obtain ⟨hma, ⟨hl1, hl2, hxa, hya⟩, hl3, hl4⟩ := okPart_iff.1 hok
      have hxb := at_all hxa (by omega)
      have hyb := at_all hya (by omega)
      have hmb := mark_at hma
      have hfb := farN_bd hxb hyb
      have hr2 : Rd w4 v2 L := (Rd.below hs2.rd (by (repeat (first | exact Below.refl _ _ | assumption | refine Below.setCell ?_ (by first | (simp; done) | omega | (simp; omega) | (simp at *; omega)) _ | refine Below.drew ?_ | refine below_drewN ?_ _ | refine below_alloc' ?_ _ | refine below_to' ?_ (by assumption)))))
      have hbA : Below w1.heap.size w1 w4 := below_to' (below_to' hb2 hb3) hb4
      have hrx4 := hrx.below hbA
      have hry4 := hry.below hbA
      have hrz4 := hrz.below hbA
      have hbW : Below w.heap.size w w4 := hb1.trans (hbA.mono hb1.size)
      clear hbA hs2 hs3 hb2 hb3 hb4 hrx hry hrz hsv hsu hsz hok hma hxa hya HR PS PI
      obtain ⟨AL, cL, rfl, hcL, hmL, _⟩ := id hr2
      have hatL := hr2.at
      obtain ⟨A1, c1, rfl, hc1, hm1, _⟩ := id hrx4
      obtain ⟨A2, c2, rfl, hc2, hm2, _⟩ := id hry4
      obtain ⟨A3, c3, rfl, hc3, hm3, _⟩ := id hrz4
      obtain ⟨g1, o1, rfl, hg1, hcl1⟩ := hrx4.at hl4
      obtain ⟨g2, o2, rfl, hg2, hcl2⟩ := hry4.at (by omega)
      obtain ⟨g3, o3, rfl, hg3, hcl3⟩ := hrz4.at (by omega)
      clear hr2 hrx4 hry4 hrz4
      rw [← hl1] at hcl2
      rw [← hl3] at hcl3
      have HL2 := hide hl1
      have HL3 := hide hl3
      clear hl1 hl3
      go_wp2_with fail
      go_loopw [12, 13] (fun f i wr => ∃ k : Nat, k ≤ xs.length ∧ i = .int .i64 k ∧ f = .int .i64 (farN xs ys k) ∧ Below w4.heap.size w4 wr) (fun _ i _ => xs.length - (intOf i).toNat)
      case atStart => exact ⟨0, Nat.zero_le _, rfl, rfl, Below.refl _ _⟩
      case round =>
        obtain ⟨k, hk, rfl, rfl, hbel⟩ := hrel
        by_cases hlt : k < xs.length
        · have hc1 := (hbel.cell (p := ⟨g1, o1 + k, none⟩) hg1).trans (hcl1 k hlt)
          have hc2 := (hbel.cell (p := ⟨g2, o2 + k, none⟩) hg2).trans (hcl2 k hlt)
          have hc3 := (hbel.cell (p := ⟨g3, o3 + k, none⟩) hg3).trans (hcl3 k hlt)
          have HFS := hide (farN_succ xs ys k)
          have hF := hfb k
          have hxk := hxb k
          have hyk := hyb k
          have hmk := hmb k
          have HSk := hide fun hb => (HS.out hb)
          obtain ⟨x, hxe⟩ : ∃ x, atL xs k = x := ⟨_, rfl⟩
          obtain ⟨y, hye⟩ : ∃ x, atL ys k = x := ⟨_, rfl⟩
          obtain ⟨m, hme⟩ : ∃ x, atL ms k = x := ⟨_, rfl⟩
          obtain ⟨F, hFe⟩ : ∃ F, farN xs ys k = F := ⟨_, rfl⟩
          rw [hxe] at hc1 hxk HFS
          rw [hye] at hc2 hyk HFS
          rw [hme] at hc3 hmk
          rw [hFe] at HFS hF ⊢
          have p1 := mul_abs_bd hxk hxk (by omega) (by omega)
          have p2 := mul_abs_bd hyk hyk (by omega) (by omega)
          have f1 : IntKind.i64.wrap (x * x) = x * x := IntWalk.i64_in _ (by omega)
          have f2 : IntKind.i64.wrap (y * y) = y * y := IntWalk.i64_in _ (by omega)
          have f3 : IntKind.i64.wrap (x * x + y * y) = x * x + y * y := IntWalk.i64_in _ (by omega)
          have f4 : IntKind.i64.wrap (x * x + y * y + 1) = x * x + y * y + 1 := IntWalk.i64_in _ (by omega)
          have hi1 : (k : Int) < (xs.length : Int) := by omega
          have hi2 : (k : Int) < (ys.length : Int) := by have := HL2.out; omega
          have hi3 : (k : Int) < (ms.length : Int) := by have := HL3.out; omega
          cases b
          · clear hatL hcl1 hcl2 hcl3 hxe hye hme hFe
            by_cases hFm : F < x * x + y * y + 1
            all_goals
              go_wp2_with fail
              go_quiet (fail)
              go_wp2
              go_quiet (fail)
              go_wp2
              go_roundw
              case rel => exact ⟨k + 1, by omega, by go_num, by rw [HFS.out]; congr 1; omega, below_drewN hbel _⟩
              case measure => simp [intOf]; omega
          · obtain ⟨qa, qb, qc, ⟨hL3, hL0, hL1, hL2⟩, ⟨ha, hb, hc'⟩, hside⟩ := HS.out rfl
            obtain ⟨gL, oL, rfl, hgL, hclL⟩ := hatL (by rw [hL3]; decide)
            have l0 : wr.cell? ⟨gL, oL, none⟩ = some (.int .i64 (atL L 0)) := (hbel.cell (p := ⟨gL, oL, none⟩) hgL).trans (hclL 0 (by rw [hL3]; decide))
            have l1 := (hbel.cell (p := ⟨gL, oL + 1, none⟩) hgL).trans (hclL 1 (by rw [hL3]; decide))
            have l2 := (hbel.cell (p := ⟨gL, oL + 2, none⟩) hgL).trans (hclL 2 (by rw [hL3]; decide))
            have hs := hside k hlt
            rw [hL0] at l0
            rw [hL1] at l1
            rw [hL2] at l2
            rw [hxe, hye, hme] at hs
            have i0 : (0 : Int) < (L.length : Int) := by rw [hL3]; decide
            have i1 : (1 : Int) < (L.length : Int) := by rw [hL3]; decide
            have i2 : (2 : Int) < (L.length : Int) := by rw [hL3]; decide
            have p3 := mul_abs_bd ha hxk (by omega) (by omega)
            have p4 := mul_abs_bd hb hyk (by omega) (by omega)
            have f5 : IntKind.i64.wrap (qa * x) = qa * x := IntWalk.i64_in _ (by omega)
            have f6 : IntKind.i64.wrap (qb * y) = qb * y := IntWalk.i64_in _ (by omega)
            have f7 : IntKind.i64.wrap (qa * x + qb * y) = qa * x + qb * y := IntWalk.i64_in _ (by omega)
            have f8 : IntKind.i64.wrap (qa * x + qb * y + qc) = qa * x + qb * y + qc := IntWalk.i64_in _ (by omega)
            have p5 := mark_bd (T := 150000) (s := qa * x + qb * y + qc) hmk (by omega)
            have f9 : IntKind.i64.wrap ((2 * m - 1) * (qa * x + qb * y + qc)) = (2 * m - 1) * (qa * x + qb * y + qc) := IntWalk.i64_in _ (by omega)
            have hm2 := mark_01 hmk
            have hno : ¬ (2 * m - 1) * (qa * x + qb * y + qc) ≤ 0 := Int.not_le.2 hs
            clear hatL hclL hcl1 hcl2 hcl3 hxe hye hme hFe hL3 hL0 hL1 hL2 hside hmk
            by_cases hFm : F < x * x + y * y + 1
            all_goals
              go_wp2_with fail
              go_quiet (fail)
              go_wp2
              go_quiet (fail)
              go_wp2
              go_roundw
              case rel => exact ⟨k + 1, by omega, by go_num, by rw [HFS.out]; congr 1; omega, below_drewN hbel _⟩
              case measure => simp [intOf]; omega
        · obtain rfl : k = xs.length := by omega
          have HF' := hide fun A B C => HF.out A B C
          have hF := hfb xs.length
          obtain ⟨F, hFe⟩ : ∃ F, farN xs ys xs.length = F := ⟨_, rfl⟩
          have HF2 : Hid (∀ A B C, partsN xs ys ms A B C xs.length = true → t ≤ F * (A * A + B * B + C * C)) := by show _; rw [← hFe]; exact HF.out
          rw [hFe] at hF ⊢
          clear hFe HF HF' HS hatL hfb
          go_wp2_with fail
          go_loopw [14] (fun i wr => ∃ a : Int, -2 ≤ a ∧ a ≤ 3 ∧ i = .int .i64 a ∧ Below w4.heap.size w4 wr) (fun i _ => (3 - intOf i).toNat)
          case atStart => exact ⟨-2, by omega, by omega, rfl, hbel⟩
          case round =>
            obtain ⟨a, ha1, ha2, rfl, hbel⟩ := hrel
            by_cases hat : a ≤ 2
            · have hda : decide (a ≤ 2) = true := decide_eq_true hat
              go_wp2_with fail
              try simp only [hda]
              go_loopw [15] (fun i wr => ∃ b : Int, -2 ≤ b ∧ b ≤ 3 ∧ i = .int .i64 b ∧ Below w4.heap.size w4 wr) (fun i _ => (3 - intOf i).toNat)
              case atStart => exact ⟨-2, by omega, by omega, rfl, hbel⟩
              case round =>
                obtain ⟨b, hb1, hb2, rfl, hbel⟩ := hrel
                by_cases hbt : b ≤ 2
                · have hdb : decide (b ≤ 2) = true := decide_eq_true hbt
                  go_wp2_with fail
                  try simp only [hda, hdb]
                  go_loopw [16] (fun i wr => ∃ c : Int, -2 ≤ c ∧ c ≤ 3 ∧ i = .int .i64 c ∧ Below w4.heap.size w4 wr) (fun i _ => (3 - intOf i).toNat)
                  case atStart => exact ⟨-2, by omega, by omega, rfl, hbel⟩
                  case round =>
                    obtain ⟨c, hc1, hc2, rfl, hbel⟩ := hrel
                    by_cases hct : c ≤ 2
                    · have hdc : decide (c ≤ 2) = true := decide_eq_true hct
                      go_wp2_with fail
                      try simp only [hda, hdb, hdc]
                      go_loopw [17, 18] (fun p i wr => ∃ k : Nat, k ≤ xs.length ∧ i = .int .i64 k ∧ p = .bool (partsN xs ys ms a b c k) ∧ Below w4.heap.size w4 wr) (fun _ i _ => xs.length - (intOf i).toNat)
                      case atStart => exact ⟨0, Nat.zero_le _, rfl, rfl, hbel⟩
                      case round =>
                        obtain ⟨k, hk, rfl, rfl, hbel⟩ := hrel
                        by_cases hlt : k < xs.length
                        · have hc1 := (hbel.cell (p := ⟨g1, o1 + k, none⟩) hg1).trans (hcl1 k hlt)
                          have hc2 := (hbel.cell (p := ⟨g2, o2 + k, none⟩) hg2).trans (hcl2 k hlt)
                          have hc3 := (hbel.cell (p := ⟨g3, o3 + k, none⟩) hg3).trans (hcl3 k hlt)
                          have HPS := hide (partsN_succ xs ys ms a b c k)
                          have hxk := hxb k
                          have hyk := hyb k
                          have hmk := hmb k
                          obtain ⟨x, hxe⟩ : ∃ x, atL xs k = x := ⟨_, rfl⟩
                          obtain ⟨y, hye⟩ : ∃ x, atL ys k = x := ⟨_, rfl⟩
                          obtain ⟨m, hme⟩ : ∃ x, atL ms k = x := ⟨_, rfl⟩
                          obtain ⟨P, hPe⟩ : ∃ P, partsN xs ys ms a b c k = P := ⟨_, rfl⟩
                          rw [hxe] at hc1 hxk HPS
                          rw [hye] at hc2 hyk HPS
                          rw [hme] at hc3 hmk HPS
                          rw [hPe] at HPS ⊢
                          have p3 := mul_abs_bd (a := a) (x := x) (m := 2) (n := 12) (by omega) hxk (by omega) (by omega)
                          have p4 := mul_abs_bd (a := b) (x := y) (m := 2) (n := 12) (by omega) hyk (by omega) (by omega)
                          have f5 : IntKind.i64.wrap (a * x) = a * x := IntWalk.i64_in _ (by omega)
                          have f6 : IntKind.i64.wrap (b * y) = b * y := IntWalk.i64_in _ (by omega)
                          have f7 : IntKind.i64.wrap (a * x + b * y) = a * x + b * y := IntWalk.i64_in _ (by omega)
                          have f8 : IntKind.i64.wrap (a * x + b * y + c) = a * x + b * y + c := IntWalk.i64_in _ (by omega)
                          have p5 := mark_bd (T := 100) (s := a * x + b * y + c) hmk (by omega)
                          have f9 : IntKind.i64.wrap ((2 * m - 1) * (a * x + b * y + c)) = (2 * m - 1) * (a * x + b * y + c) := IntWalk.i64_in _ (by omega)
                          have hm2 : 0 ≤ m ∧ m ≤ 1 := by omega
                          have hi1 : (k : Int) < (xs.length : Int) := by omega
                          have hi2 : (k : Int) < (ys.length : Int) := by have := HL2.out; omega
                          have hi3 : (k : Int) < (ms.length : Int) := by have := HL3.out; omega
                          clear hcl1 hcl2 hcl3 hxe hye hme hPe hmk HF2
                          cases P
                          · go_wp2_with fail
                            go_quiet (fail)
                            go_wp2
                            go_roundw
                            case rel => exact ⟨k + 1, by omega, by go_num, by rw [HPS.out]; rfl, below_drewN hbel _⟩
                            case measure => simp [intOf]; omega
                          · obtain ⟨D, hD⟩ : ∃ D, decide (0 < (2 * m - 1) * (a * x + b * y + c)) = D := ⟨_, rfl⟩
                            rw [hD] at HPS
                            go_wp2_with fail
                            go_quiet (fail)
                            go_wp2
                            go_roundw
                            case rel => exact ⟨k + 1, by omega, by go_num, by rw [HPS.out]; simp [hD], below_drewN hbel _⟩
                            case measure => simp [intOf]; omega
                        · obtain rfl : k = xs.length := by omega
                          have HT := hide (HF2.out a b c)
                          obtain ⟨P, hPe⟩ : ∃ P, partsN xs ys ms a b c xs.length = P := ⟨_, rfl⟩
                          rw [hPe] at HT ⊢
                          clear hPe HF2
                          cases P
                          · go_wp2_with fail
                            go_roundw
                            case rel => exact ⟨c + 1, by omega, by omega, by go_num, hbel⟩
                            case measure => simp [intOf]; omega
                          · have q1 := mul_abs_bd (a := a) (x := a) (m := 2) (n := 2) (by omega) (by omega) (by omega) (by omega)
                            have q2 := mul_abs_bd (a := b) (x := b) (m := 2) (n := 2) (by omega) (by omega) (by omega) (by omega)
                            have q3 := mul_abs_bd (a := c) (x := c) (m := 2) (n := 2) (by omega) (by omega) (by omega) (by omega)
                            have q4 := mul_abs_bd (a := F) (x := a * a + b * b + c * c) (m := 300) (n := 12) (by omega) (by omega) (by omega) (by omega)
                            have f1 : IntKind.i64.wrap (a * a) = a * a := IntWalk.i64_in _ (by omega)
                            have f2 : IntKind.i64.wrap (b * b) = b * b := IntWalk.i64_in _ (by omega)
                            have f3 : IntKind.i64.wrap (c * c) = c * c := IntWalk.i64_in _ (by omega)
                            have f4 : IntKind.i64.wrap (a * a + b * b) = a * a + b * b := IntWalk.i64_in _ (by omega)
                            have f5 : IntKind.i64.wrap (a * a + b * b + c * c) = a * a + b * b + c * c := IntWalk.i64_in _ (by omega)
                            have f6 : IntKind.i64.wrap (F * (a * a + b * b + c * c)) = F * (a * a + b * b + c * c) := IntWalk.i64_in _ (by omega)
                            have hno : ¬ F * (a * a + b * b + c * c) < t := by have := HT.out rfl; omega
                            go_wp2_with fail
                            go_roundw
                            case rel => exact ⟨c + 1, by omega, by omega, by go_num, hbel⟩
                            case measure => simp [intOf]; omega
                    · obtain rfl : c = 3 := by omega
                      go_wp2_with fail
                      go_roundw
                      case rel => exact ⟨b + 1, by omega, by omega, by go_num, hbel⟩
                      case measure => simp [intOf]; omega
                · obtain rfl : b = 3 := by omega
                  go_wp2_with fail
                  go_roundw
                  case rel => exact ⟨a + 1, by omega, by omega, by go_num, hbel⟩
                  case measure => simp [intOf]; omega
            · obtain rfl : a = 3 := by omega
              go_wp2_with fail
              go_ret
              exact ⟨rfl, hbW.trans (hbel.mono hbW.size)⟩
end Go.Proofs.Ytcmjmnlccempfaa
