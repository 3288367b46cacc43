/-
  The statement FnFewestPieces: for every code it returns true and writes nothing that was there.
-/
import Derived.Test.YtgcpglefkkpdjaaLd
namespace Go.Proofs.Ytgcpglefkkpdjaa
open Go.RowKit

/-- Each piece of the greedy way keeps within the room. -/
theorem fw_ends {xs : List Int} {r : Int} (h0 : 0 ≤ r) : ∀ k, k ≤ xs.length → 1 ≤ k → ∀ i, i < (fw r xs k).length →
    (fw r xs k ++ [k]).getD i 0 < (fw r xs k ++ [k]).getD (i + 1) 0 ∧ (fw r xs k ++ [k]).getD (i + 1) 0 ≤ k ∧ sprd xs ((fw r xs k ++ [k]).getD i 0) ((fw r xs k ++ [k]).getD (i + 1) 0) ≤ r := by
  intro k
  induction k with
  | zero => intro _ h; omega
  | succ k ih =>
    intro hk _ i hi
    have hlast := fw_last r xs k
    have hne := fw_ne r xs k
    have hlen := fw_len r xs k
    have hll : ∀ d, (fw r xs k ++ d).getD ((fw r xs k).length - 1) 0 = (fw r xs k).getLastD 0 := by
      intro d
      have he := List.dropLast_concat_getLast hne
      rw [List.getD_eq_getElem?_getD, List.getElem?_append_left (by omega), List.getLastD_eq_getLast?, List.getLast?_eq_getElem?]
    have hold : ∀ d j, j < (fw r xs k).length → (fw r xs k ++ d).getD j 0 = (fw r xs k).getD j 0 := fun d j hj => by
      rw [List.getD_eq_getElem?_getD, List.getElem?_append_left hj, List.getD_eq_getElem?_getD]
    have hnew : ∀ a d, (fw r xs k ++ a :: d).getD (fw r xs k).length 0 = a := fun a d => by simp [List.getD]
    by_cases hcut : r < sprd xs ((fw r xs k).getLastD 0) (k + 1)
    · have e : fw r xs (k + 1) = fw r xs k ++ [k] := by rw [fw, if_pos hcut]
      rw [e] at hi ⊢
      rw [List.append_assoc, show ([k] ++ [k + 1] : List Nat) = [k, k + 1] from rfl]
      simp only [List.length_append, List.length_singleton] at hi
      by_cases hl : i < (fw r xs k).length
      · have hk0 : 1 ≤ k := by
          by_cases e0 : k = 0
          · subst e0
            exfalso
            have : (fw r xs 0).getLastD 0 = 0 := rfl
            rw [this, sprd_single (by omega)] at hcut
            omega
          · omega
        have h := ih (by omega) hk0 i hl
        have e1 : (fw r xs k ++ [k, k + 1]).getD i 0 = (fw r xs k ++ [k]).getD i 0 := by rw [hold _ i hl, hold _ i hl]
        have e2 : (fw r xs k ++ [k, k + 1]).getD (i + 1) 0 = (fw r xs k ++ [k]).getD (i + 1) 0 := by
          by_cases h2 : i + 1 < (fw r xs k).length
          · rw [hold _ _ h2, hold _ _ h2]
          · rw [show i + 1 = (fw r xs k).length by omega, hnew, hnew]
        rw [e1, e2]
        exact ⟨h.1, by omega, h.2.2⟩
      · obtain rfl : i = (fw r xs k).length := by omega
        have e1 : (fw r xs k ++ [k, k + 1]).getD (fw r xs k).length 0 = k := hnew _ _
        have e2 : (fw r xs k ++ [k, k + 1]).getD ((fw r xs k).length + 1) 0 = k + 1 := by simp [List.getD]
        rw [e1, e2, sprd_single (by omega)]
        omega
    · have e : fw r xs (k + 1) = fw r xs k := by rw [fw, if_neg hcut]
      rw [e] at hi ⊢
      by_cases hl : i + 1 < (fw r xs k).length
      · have hk0 : 1 ≤ k := by omega
        have h := ih (by omega) hk0 i hi
        rw [hold _ i hi, hold _ _ hl] at h ⊢
        exact ⟨h.1, by omega, h.2.2⟩
      · obtain rfl : i = (fw r xs k).length - 1 := by omega
        rw [hll, show (fw r xs k).length - 1 + 1 = (fw r xs k).length by omega, hnew]
        exact ⟨by omega, Nat.le_refl _, by omega⟩
theorem fw_rev {xs : List Int} {r : Int} (h0 : 0 ≤ r) (hn : 0 < xs.length) : (fw r xs.reverse xs.length).length = (fw r xs xs.length).length := by
  have h1 : ∀ ys : List Int, 0 < ys.length → ∀ p : Int, ((fw r ys ys.length).length : Int) ≤ p ↔ Feas ys p r := fun ys hy p => greedy_feas h0 hy
  have a := h1 xs.reverse (by simpa using hn)
  have b := h1 xs hn
  rw [List.length_reverse] at a
  have c := (b _).1 (Int.le_refl _)
  have d := (a _).1 (Int.le_refl _)
  have e := (a _).2 (feas_rev c)
  have f := feas_rev d
  rw [List.reverse_reverse] at f
  have g := (b _).2 f
  omega

set_option maxHeartbeats 2000000 in
theorem FnFewestPieces_c (A : Option Addr) (n c : Nat) (bs : List Int) (w : World) (hl : bs.length = n) (hnc : n ≤ c) (hc : c ≤ 9223372036854775807) (hr : Rd8 w w.heap.size A bs) :
    Calls Try.prog 11 #[.slice A n c] w fun e w' => e = .returned (.bool true) ∧ Below w.heap.size w w' := by
  by_cases hbig : 1048576 < n
  · go_enter Try.func11, Try.ntmps11
    go_wp2
    go_ret
    exact ⟨rfl, Below.refl _ _⟩
  · go_enter Try.func11, Try.ntmps11
    go_wp2_with fail
    refine (DrawFewestPieces_c A n c bs _ hl hnc hc hr).mono ?_
    rintro e w1 ⟨v, xs, room, rfl, hsl, hxl, hp1, hp2, hb1⟩
    have hrd := hsl.rd
    obtain ⟨Av, cv, rfl, hcv, hmv, hcell⟩ := id hrd
    have hlz := rFew_len xs room
    obtain ⟨ys, hys⟩ : ∃ ys, ys = rFew xs room := ⟨_, rfl⟩
    rw [← hys] at hlz
    have HY := hide hys
    clear hys
    go_wp2_with fail
    refine (FewestPiecesI_c _ xs room _ hrd).mono ?_
    rintro e w2 ⟨vo, rfl, hso, hb2⟩
    rw [← HY.out] at hso
    obtain ⟨Ao, co, rfl, hco, hmo, hcello⟩ := id hso
    go_wp2_with fail
    refine (FewestPiecesS_c _ xs room _ (Rd.below hrd (by (repeat (first | exact Below.refl _ _ | assumption | refine Below.setCell ?_ (by first | (simp; done) | omega | (simp; omega) | (simp at *; omega)) _ | refine Below.drew ?_ | refine below_drewN ?_ _ | refine below_alloc' ?_ _ | refine below_to' ?_ (by assumption)))))).mono ?_
    rintro e w3 ⟨vs, rfl, hs3, hb3⟩
    rw [← HY.out] at hs3
    go_wp2_with fail
    refine (equalInts_c _ _ ys ys true _ (Rd.below hso.rd (by (repeat (first | exact Below.refl _ _ | assumption | refine Below.setCell ?_ (by first | (simp; done) | omega | (simp; omega) | (simp at *; omega)) _ | refine Below.drew ?_ | refine below_drewN ?_ _ | refine below_alloc' ?_ _ | refine below_to' ?_ (by assumption))))) hs3.rd (by simp)).mono ?_
    rintro e w4 ⟨rfl, hb4⟩
    by_cases h0 : ys.length = 0
    · have hb0 : ((ys.length : Int) == 0) = true := beq_iff_eq.2 (by omega)
      clear h0
      go_wp2_with fail
      refine (FewestPiecesS_c _ xs room _ (Rd.below hrd (by (repeat (first | exact Below.refl _ _ | assumption | refine Below.setCell ?_ (by first | (simp; done) | omega | (simp; omega) | (simp at *; omega)) _ | refine Below.drew ?_ | refine below_drewN ?_ _ | refine below_alloc' ?_ _ | refine below_to' ?_ (by assumption)))))).mono ?_
      rintro e w5 ⟨v5, rfl, hs5, hb5⟩
      rw [← HY.out] at hs5
      go_wp2_with fail
      refine (equalInts_c _ _ ys ys true _ (Rd.below hso.rd (by (repeat (first | exact Below.refl _ _ | assumption | refine Below.setCell ?_ (by first | (simp; done) | omega | (simp; omega) | (simp at *; omega)) _ | refine Below.drew ?_ | refine below_drewN ?_ _ | refine below_alloc' ?_ _ | refine below_to' ?_ (by assumption))))) hs5.rd (by simp)).mono ?_
      rintro e w6 ⟨rfl, hb6⟩
      go_wp2_with fail
      go_ret
      refine ⟨rfl, ?_⟩
      (repeat (first | exact Below.refl _ _ | assumption | refine Below.setCell ?_ (by first | (simp; done) | omega | (simp; omega) | (simp at *; omega)) _ | refine Below.drew ?_ | refine below_drewN ?_ _ | refine below_alloc' ?_ _ | refine below_to' ?_ (by assumption)))
    · have hb0 : ((ys.length : Int) == 0) = false := beq_eq_false_iff_ne.2 (by omega)
      have hok : okSteps xs = true ∧ 0 ≤ room ∧ room ≤ 60 := by
        have := HY.out
        unfold rFew at this
        split at this
        · next h => exact h
        · subst this; simp at h0
      obtain ⟨hok, hr0, hr60⟩ := hok
      obtain ⟨room, rfl⟩ := Int.eq_ofNat_of_zero_le hr0
      have hyf : ys = ints' (fw room xs xs.length) := by
        have := HY.out
        rwa [rFew, if_pos ⟨hok, hr0, hr60⟩] at this
      obtain ⟨hall, hl1, hl2⟩ := okSteps_all hok
      have hfl := fw_len room xs xs.length
      have hyl : ys.length = (fw room xs xs.length).length := by rw [hyf, ints'_len]
      have hends := fw_ends (xs := xs) (r := (room : Int)) hr0 xs.length (Nat.le_refl _) hl1
      obtain ⟨E, hE⟩ : ∃ E, E = fw room xs xs.length ++ [xs.length] := ⟨_, rfl⟩
      rw [← hE] at hends
      have hEl : E.length = ys.length + 1 := by rw [hE, hyl]; simp
      have hEy : ints' E = ys ++ [(xs.length : Int)] := by rw [hE, ints'_snoc, hyf]
      have HALL := hide (And.intro hall (And.intro hok (And.intro hyf (And.intro hyl (And.intro hends (And.intro hEl hEy))))))
      have hyl9 : ys.length ≤ 9 := by omega
      have hypos : 0 < ys.length := by omega
      have hrd4 : Rd w4 (.slice Av xs.length cv) xs := (Rd.below hrd (by (repeat (first | exact Below.refl _ _ | assumption | refine Below.setCell ?_ (by first | (simp; done) | omega | (simp; omega) | (simp at *; omega)) _ | refine Below.drew ?_ | refine below_drewN ?_ _ | refine below_alloc' ?_ _ | refine below_to' ?_ (by assumption)))))
      have hso4 : Rd w4 (.slice Ao ys.length co) ys := (Rd.below hso.rd (by (repeat (first | exact Below.refl _ _ | assumption | refine Below.setCell ?_ (by first | (simp; done) | omega | (simp; omega) | (simp at *; omega)) _ | refine Below.drew ?_ | refine below_drewN ?_ _ | refine below_alloc' ?_ _ | refine below_to' ?_ (by assumption)))))
      have hb14 : Below w.heap.size w w4 := (by (repeat (first | exact Below.refl _ _ | assumption | refine Below.setCell ?_ (by first | (simp; done) | omega | (simp; omega) | (simp at *; omega)) _ | refine Below.drew ?_ | refine below_drewN ?_ _ | refine below_alloc' ?_ _ | refine below_to' ?_ (by assumption))))
      clear hall hok hyf hyl hends hE hEl hEy h0 hcello
      go_wp2_with (first | (at_builtin; refine wpList_append_rd _ rfl (.tmp 36) (.tmp 37) rfl ints w4.heap.size _ _ [] ys rfl rfl (lit_own (w := w4) [] rfl rfl rfl (by simp) (Nat.le_refl _)) (hso4.alloc _) (by simp) (by simp) (by omega) hypos ?_; intro v5 w5 hown5 hb5 hg5 hat5 hk5 hlt5; rw [List.nil_append] at hown5; have hs5 : w4.heap.size ≤ w5.heap.size := by (have := hb5.size; rw [size_alloc'] at this; omega)) | (at_builtin; refine wpList_push_int _ rfl (.tmp 38) (.tmp 41) rfl ints w4.heap.size _ ys _ _ 1 rfl rfl hown5 hs5 (by omega) ?_; intro v6 w6 hown6 hb6 hg6 hat6 hk6 hlt6))
      obtain ⟨A6, c6, rfl, hc6, hm6, hcell6⟩ := id hown6.sl
      have hl6 : (ys ++ [(xs.length : Int)]).length = ys.length + 1 := by simp
      rw [hl6] at hc6 hcell6 ⊢
      obtain ⟨g6, off6, rfl, hB6, hg6', hcl6, _⟩ := hcell6 (by omega)
      have hb46 : Below w4.heap.size w4 w6 := ((((Below.refl _ _).alloc (Nat.le_refl _) _).trans hb5).trans hb6)
      have HC6 : Hid (∀ k, k < ys.length + 1 → w6.cell? ⟨g6, off6 + k, none⟩ = some (.int .i64 (E.getD k 0 : Int))) := fun k hk => by
        rw [hcl6 k hk, ← HALL.out.2.2.2.2.2.2]
        have : k < E.length := by rw [HALL.out.2.2.2.2.2.1]; exact hk
        simp [ints', List.getD, this]
      have hb16 : Below w.heap.size w w6 := below_to' hb14 hb46
      clear hcl6 hcell6 hl6 hown6 hown5 hg5 hg6 hat5 hat6 hk5 hk6
      go_loopw [7] (fun i wr => ∃ k : Nat, k ≤ ys.length ∧ i = .int .i64 k ∧ Below w6.heap.size w6 wr) (fun i _ => ys.length - (intOf i).toNat)
      case atStart => exact ⟨0, Nat.zero_le _, rfl, Below.refl _ _⟩
      case round =>
        obtain ⟨k, hk, rfl, hbel⟩ := hrel
        by_cases hlt : k < ys.length
        · obtain ⟨a, ha⟩ : ∃ a, a = E.getD k 0 := ⟨_, rfl⟩
          obtain ⟨b, hb⟩ : ∃ b, b = E.getD (k + 1) 0 := ⟨_, rfl⟩
          have he := HALL.out.2.2.2.2.1 k (by rw [← HALL.out.2.2.2.1]; exact hlt)
          rw [← ha, ← hb] at he
          obtain ⟨hab, hbn, hspr⟩ := he
          have hca : wr.cell? ⟨g6, off6 + k, none⟩ = some (.int .i64 a) := by rw [hbel.cell (p := ⟨g6, off6 + k, none⟩) hg6', HC6.out k (by omega), ha]
          have hcb : wr.cell? ⟨g6, off6 + (k + 1), none⟩ = some (.int .i64 b) := by rw [hbel.cell (p := ⟨g6, off6 + (k + 1), none⟩) hg6', HC6.out (k + 1) (by omega), hb]
          have hw1 : IntKind.i64.wrap ((k : Int) + 1) = (k : Int) + 1 := IntWalk.i64_in _ (by omega)
          have hw2 : ((k : Int) + 1).toNat = k + 1 := by omega
          have hi1 : (k : Int) < ((ys.length + 1 : Nat) : Int) := by omega
          have hi2 : (k : Int) + 1 < ((ys.length + 1 : Nat) : Int) := by omega
          have hi3 : (0 : Int) ≤ (k : Int) + 1 := by omega
          have hab' : (a : Int) ≤ (b : Int) := by omega
          have hbc' : (b : Int) ≤ (cv : Int) := by omega
          have hrdr : Rd wr (.slice Av xs.length cv) xs := (hrd4.below hb46).below hbel
          have hseg := hrdr.seg hab hbn
          have HSEG := hide hseg
          have HSP := hide hspr
          have hsl2 := seg_len (xs := xs) (i := a) hbn
          have HSL := hide hsl2
          have hmm := minL_bounds (seg_allB HALL.out.1 a b) (seg_ne hab hbn)
          have HNG := hide (negL_max (seg_ne (xs := xs) hab hbn))
          clear hseg hspr ha hb hsl2
          go_wp2
          go_quiet (fail)
          go_wp2_with fail
          refine (greatest_c _ _ _ (HSEG.out.drewN _) (by rw [HSL.out]; omega)).mono ?_
          rintro e w7 ⟨rfl, rfl⟩
          go_wp2_with fail
          refine (negated_c _ _ _ (HSEG.out.drewN _) (by rw [HSL.out]; omega) (allB_iff.2 fun x hx => by have := allB_iff.1 (seg_allB HALL.out.1 a b) x hx; omega)).mono ?_
          rintro e w8 ⟨v8, rfl, hs8, hb8⟩
          go_wp2_with fail
          refine (greatest_c _ _ _ hs8.rd (by rw [negL_len, HSL.out]; omega)).mono ?_
          rintro e w9 ⟨rfl, rfl⟩
          rw [HNG.out.1]
          have hle : maxL (seg xs a b) + -minL (seg xs a b) ≤ (room : Int) := by have := HSP.out; unfold sprd at this; omega
          go_wp2_with fail
          go_roundw
          case rel => exact ⟨k + 1, by omega, by go_num, below_to' (below_drewN hbel _) hb8⟩
          case measure => simp [intOf]; omega
        · obtain rfl : k = ys.length := by omega
          have hb1r : Below w.heap.size w wr := below_to' hb16 hbel
          have hrdr : Rd wr (.slice Av xs.length cv) xs := (hrd4.below hb46).below hbel
          obtain ⟨hall, hok, hyf, hyl, _⟩ := HALL.out
          have hrev := fw_rev (xs := xs) (r := (room : Int)) hr0 hl1
          have hgf : ∀ p : Int, (ys.length : Int) ≤ p ↔ Feas xs p room := fun p => by rw [hyl]; exact greedy_feas hr0 hl1
          have hrv : rFew xs.reverse room = ints' (fw room xs.reverse xs.length) := by rw [rFew, if_pos ⟨by rw [okSteps_rev]; exact hok, hr0, hr60⟩, List.length_reverse]
          have hrvl : (rFew xs.reverse room).length = ys.length := by rw [hrv, ints'_len, hrev, hyl]
          have hyl8 : ys.length ≤ 8 := by
            have := (hgf xs.length).2 (by
              refine ⟨xs.map fun x => [x], by simp [List.flatten_eq_flatMap, List.flatMap_map], by simp, fun l hl => ?_⟩
              obtain ⟨x, _, rfl⟩ := List.mem_map.1 hl
              simp [maxL, minL])
            omega
          have HG := hide (And.intro hok (And.intro hgf hrvl))
          clear hall hok hyf hyl hrev hgf hrv hrvl
          go_wp2_with fail
          refine (turned_c _ xs _ hrdr (by omega)).mono ?_
          rintro e w7 ⟨v7, rfl, hs7, hb7⟩
          go_wp2_with fail
          refine (FewestPiecesI_c _ _ room _ hs7.rd).mono ?_
          rintro e w8 ⟨v8, rfl, hs8, hb8⟩
          obtain ⟨A8, c8, rfl, _, _, _⟩ := hs8
          rw [HG.out.2.2]
          go_wp2_with fail
          refine (RoomTriedI_c _ xs ys.length _ (Rd.below hrdr (by (repeat (first | exact Below.refl _ _ | assumption | refine Below.setCell ?_ (by first | (simp; done) | omega | (simp; omega) | (simp at *; omega)) _ | refine Below.drew ?_ | refine below_drewN ?_ _ | refine below_alloc' ?_ _ | refine below_to' ?_ (by assumption)))))).mono ?_
          rintro e w9 ⟨r, rfl, hres, hb9⟩
          have hle : r ≤ (room : Int) := by
            unfold ResRT at hres
            rw [if_pos ⟨HG.out.1, by omega, by omega⟩] at hres
            exact hres.1.2 _ ((HG.out.2.1 _).1 (Int.le_refl _))
          have HR := hide hres
          clear hres
          by_cases h1 : ys.length = 1
          · have hb1' : ((ys.length : Int) == 1) = true := beq_iff_eq.2 (by omega)
            clear h1
            go_wp2_with fail
            go_ret
            refine ⟨rfl, ?_⟩
            (repeat (first | exact Below.refl _ _ | assumption | refine Below.setCell ?_ (by first | (simp; done) | omega | (simp; omega) | (simp at *; omega)) _ | refine Below.drew ?_ | refine below_drewN ?_ _ | refine below_alloc' ?_ _ | refine below_to' ?_ (by assumption)))
          · have hb1' : ((ys.length : Int) == 1) = false := beq_eq_false_iff_ne.2 (by omega)
            go_wp2_with fail
            refine (RoomTriedI_c _ xs (ys.length - 1) _ (Rd.below hrdr (by (repeat (first | exact Below.refl _ _ | assumption | refine Below.setCell ?_ (by first | (simp; done) | omega | (simp; omega) | (simp at *; omega)) _ | refine Below.drew ?_ | refine below_drewN ?_ _ | refine below_alloc' ?_ _ | refine below_to' ?_ (by assumption)))))).mono ?_
            rintro e w10 ⟨r2, rfl, hres, hb10⟩
            have hgt : (room : Int) < r2 := by
              unfold ResRT at hres
              rw [if_pos ⟨HG.out.1, by omega, by omega⟩] at hres
              rcases Int.lt_or_le (room : Int) r2 with h | h
              · exact h
              · have := (HG.out.2.1 _).2 (hres.1.1.mono (Int.le_refl _) h)
                omega
            clear hres
            go_wp2_with fail
            go_ret
            refine ⟨ret_bool (by simp <;> omega), ?_⟩
            (repeat (first | exact Below.refl _ _ | assumption | refine Below.setCell ?_ (by first | (simp; done) | omega | (simp; omega) | (simp at *; omega)) _ | refine Below.drew ?_ | refine below_drewN ?_ _ | refine below_alloc' ?_ _ | refine below_to' ?_ (by assumption)))
end Go.Proofs.Ytgcpglefkkpdjaa
