/-
  Contracts: FewestPieces and LeastRoom, of the reference and of the program.
-/
import Derived.Test.YtgcpglefkkpdjaaC9b
import Derived.Test.YtgcpglefkkpdjaaFewP
namespace Go.Proofs.Ytgcpglefkkpdjaa
open Go.RowKit

theorem okSteps_all {xs : List Int} (h : okSteps xs = true) : allB (-30) 30 xs = true ∧ 1 ≤ xs.length ∧ xs.length ≤ 8 := by
  simp only [okSteps, Bool.and_eq_true, decide_eq_true_eq] at h
  exact h
theorem allB_wide {xs : List Int} (h : allB (-30) 30 xs = true) : allB (-1000) 1000 xs = true := allB_iff.2 fun x hx => by have := allB_iff.1 h x hx; omega
theorem ints'_snoc (l : List Nat) (k : Nat) : ints' (l ++ [k]) = ints' l ++ [(k : Int)] := by simp [ints']
theorem ints'_last {l : List Nat} (h : l ≠ []) : (ints' l).getD (l.length - 1) 0 = (l.getLastD 0 : Int) := by
  have he := List.dropLast_concat_getLast h
  have hd : l.getLastD 0 = l.getLast h := by conv => lhs; rw [← he]
                                             simp
  rw [hd]
  conv => lhs; rw [← he, ints'_snoc]
  simp [ints', List.getD]

set_option maxHeartbeats 1000000 in
theorem fewest_c (v : Value) (xs : List Int) (room : Nat) (w : World) (hr : Rd w v xs) (hall : allB (-30) 30 xs = true) (hn0 : 1 ≤ xs.length) (hn : xs.length ≤ 8) :
    Calls Try.prog 46 #[v, .int .i64 room] w fun e w' => ∃ v', e = .returned v' ∧ Sl w' w.heap.size v' (ints' (fw room xs xs.length)) ∧ Below w.heap.size w w' := by
  have hr' := hr
  obtain ⟨A, c, rfl, hc, hm, hcell⟩ := hr
  clear hcell
  have HW := hide (allB_wide hall)
  clear hall
  go_enter Try.func46, Try.ntmps46
  go_wp2_with fail
  go_loopw [5, 10] (fun o i wr => ∃ k : Nat, k ≤ xs.length ∧ i = .int .i64 k ∧ Own wr w.heap.size 3 o (ints' (fw room xs k)) ∧ Below w.heap.size w wr) (fun _ i _ => xs.length - (intOf i).toNat)
  case atStart => exact ⟨0, Nat.zero_le _, rfl, lit_own [0] rfl rfl rfl (by simp) (Nat.le_refl _), (by (repeat (first | exact Below.refl _ _ | assumption | refine Below.setCell ?_ (by first | (simp; done) | omega | (simp; omega) | (simp at *; omega)) _ | refine Below.drew ?_ | refine below_drewN ?_ _ | refine below_alloc' ?_ _ | refine below_to' ?_ (by assumption))))⟩
  case round =>
    obtain ⟨k, hk, rfl, hown, hbel⟩ := hrel
    obtain ⟨A', c', rfl, hc', hm', hcell'⟩ := hown.sl
    have hfl := fw_len room xs k
    obtain ⟨g, off, rfl, hB, hg, hcl, _⟩ := hcell' (by rw [ints'_len]; omega)
    have hlen := ints'_len (fw room xs k)
    have HLn := hide hlen
    obtain ⟨len, hlen'⟩ : ∃ n, n = (fw room xs k).length := ⟨_, rfl⟩
    rw [← hlen'] at hfl
    obtain ⟨last, hlast⟩ : ∃ n, n = (fw room xs k).getLastD 0 := ⟨_, rfl⟩
    have hlk : last < k ∨ (k = 0 ∧ last = 0) := by rw [hlast]; exact fw_last room xs k
    have hlc : wr.cell? ⟨g, off + (len - 1), none⟩ = some (.int .i64 last) := by
      rw [hcl (len - 1) (by omega), hlen', ints'_last (fw_ne room xs k), hlast]
    rw [hlen, ← hlen'] at hown ⊢
    have HL := hide (And.intro hlen' hlast)
    clear hcl hcell' hlen hlen' hlast
    by_cases hlt : k < xs.length
    · have hrk := (hr'.below hbel).seg (i := last) (k := k + 1) (by omega) (by omega)
      have hls := seg_len (xs := xs) (i := last) (k := k + 1) (by omega)
      have HS : Hid (sprd xs last (k + 1) = maxL (seg xs last (k + 1)) - minL (seg xs last (k + 1))) := rfl
      have hlen2 : (len : Int) - 1 = ((len - 1 : Nat) : Int) := by omega
      have HLn2 := hide hls
      clear hls
      go_wp2_with fail
      refine (spread_c _ _ _ hrk (by rw [HLn2.out]; omega) (seg_allB HW.out _ _)).mono ?_
      rintro e w1 ⟨rfl, rfl⟩
      by_cases hgt : (room : Int) < maxL (seg xs last (k + 1)) - minL (seg xs last (k + 1))
      · have hsz := hbel.size
        go_wp2_with (at_builtin; refine wpList_push_int _ rfl (.tmp 26) (.tmp 28) rfl ints w.heap.size _ _ _ _ 1 rfl rfl hown hsz (by have h1 := HL.out.1; have h2 := HLn.out; omega) ?_; intro v5 w5 hown5 hb5 hg5 hat5 hk5 hlt5)
        go_roundw
        case rel =>
          refine ⟨k + 1, by omega, by go_num, ?_, hbel.trans hb5⟩
          rw [fw, if_pos (by rw [← HL.out.2, HS.out]; exact hgt), ints'_snoc]
          exact hown5
        case measure => simp [intOf]; omega
      · go_wp2_with fail
        go_roundw
        case rel =>
          refine ⟨k + 1, by omega, by go_num, ?_, hbel⟩
          rw [fw, if_neg (by rw [← HL.out.2, HS.out]; exact Int.not_lt.2 hgt)]
          exact hown
        case measure => simp [intOf]; omega
    · obtain rfl : k = xs.length := by omega
      go_wp2_with fail
      refine (clip_c _ _ _ _ hown.sl).mono ?_
      rintro e w1 ⟨rfl, v', rfl, hs'⟩
      go_wp2_with fail
      go_ret
      exact ⟨_, rfl, hs', hbel⟩

set_option maxHeartbeats 400000 in
theorem FewestPiecesI_yes (v : Value) (xs : List Int) (room : Nat) (w : World) (hr : Rd w v xs) (hok : okSteps xs = true) (hroom : room ≤ 60) :
    Calls Try.prog 16 #[v, .int .i64 room] w fun e w' => ∃ v', e = .returned v' ∧ Sl w' w.heap.size v' (ints' (fw room xs xs.length)) ∧ Below w.heap.size w w' := by
  obtain ⟨hall, hl1, hl2⟩ := okSteps_all hok
  have HO := hide hok
  have HA := hide hall
  clear hok hall
  go_enter Try.func16, Try.ntmps16
  go_wp2_with fail
  refine (rowValid_c _ xs true _ hr HO.out).mono ?_
  rintro e w1 ⟨rfl, hb1⟩
  go_wp2_with fail
  refine (in_c true _ _ _ _ (by simp; omega)).mono ?_
  rintro e w' ⟨rfl, rfl⟩
  go_wp2_with fail
  refine (fewest_c _ xs room _ (hr.below hb1) HA.out hl1 hl2).mono ?_
  rintro e w2 ⟨v2, rfl, hs2, hb2⟩
  go_wp2_with fail
  go_ret
  exact ⟨_, rfl, hs2.low hb1.size, (by (repeat (first | exact Below.refl _ _ | assumption | refine Below.setCell ?_ (by first | (simp; done) | omega | (simp; omega) | (simp at *; omega)) _ | refine Below.drew ?_ | refine below_drewN ?_ _ | refine below_alloc' ?_ _ | refine below_to' ?_ (by assumption))))⟩

set_option maxHeartbeats 400000 in
theorem FewestPiecesI_no (v : Value) (xs : List Int) (room : Int) (w : World) (hr : Rd w v xs) (hno : ¬ (okSteps xs = true ∧ 0 ≤ room ∧ room ≤ 60)) :
    Calls Try.prog 16 #[v, .int .i64 room] w fun e w' => e = .returned (.slice none 0 0) ∧ Below w.heap.size w w' := by
  cases hok : okSteps xs
  · have HO := hide hok
    clear hok hno
    go_enter Try.func16, Try.ntmps16
    go_wp2_with fail
    refine (rowValid_c _ xs false _ hr HO.out).mono ?_
    rintro e w1 ⟨rfl, hb1⟩
    go_wp2_with fail
    go_ret
    exact ⟨rfl, hb1⟩
  · have h1 : ¬ (0 ≤ room ∧ room ≤ 60) := fun h => hno ⟨hok, h⟩
    have HO := hide hok
    clear hok hno
    go_enter Try.func16, Try.ntmps16
    go_wp2_with fail
    refine (rowValid_c _ xs true _ hr HO.out).mono ?_
    rintro e w1 ⟨rfl, hb1⟩
    go_wp2_with fail
    refine (in_c false _ _ _ _ (by simp; omega)).mono ?_
    rintro e w' ⟨rfl, rfl⟩
    go_wp2_with fail
    go_ret
    exact ⟨rfl, hb1⟩

set_option maxHeartbeats 1000000 in
theorem FewestPiecesS_yes (v : Value) (xs : List Int) (room : Nat) (w : World) (hr : Rd w v xs) (hok : okSteps xs = true) (hroom : room ≤ 60) :
    Calls Try.prog 14 #[v, .int .i64 room] w fun e w' => ∃ v', e = .returned v' ∧ Sl w' w.heap.size v' (ints' (fw room xs xs.length)) ∧ Below w.heap.size w w' := by
  have hr' := hr
  obtain ⟨A, c, rfl, hc, hm, hcell⟩ := hr
  obtain ⟨hall, hl1, hl2⟩ := okSteps_all hok
  obtain ⟨g, off, rfl, hg, hcl⟩ := hcell (by omega)
  clear hcell
  have HO := hide hok
  have HA := hide hall
  have HC := hide hcl
  clear hok hall hcl
  go_enter Try.func14, Try.ntmps14
  go_wp2_with fail
  refine (validSteps_c _ xs true _ hr' HO.out).mono ?_
  rintro e w1 ⟨rfl, rfl⟩
  go_wp2_with fail
  refine (inRange_c true _ _ _ _ (by simp; omega)).mono ?_
  rintro e w1 ⟨rfl, rfl⟩
  go_wp2_with fail
  go_loopw [5, 6, 7, 8] (fun o lo hi i wr => ∃ k : Nat, k ≤ xs.length ∧ i = .int .i64 k ∧ (∃ l h : Int, lo = .int .i64 l ∧ hi = .int .i64 h ∧
      ((k = 0 ∧ Own wr w.heap.size 3 o []) ∨ (0 < k ∧ Own wr w.heap.size 3 o (ints' (fw room xs k)) ∧ l = minL (seg xs ((fw room xs k).getLastD 0) k) ∧ h = maxL (seg xs ((fw room xs k).getLastD 0) k)))) ∧ Below w.heap.size w wr)
    (fun _ _ _ i _ => xs.length - (intOf i).toNat)
  case atStart => exact ⟨0, Nat.zero_le _, rfl, ⟨0, 0, rfl, rfl, .inl ⟨rfl, lit_own [] rfl rfl rfl (by simp) (Nat.le_refl _)⟩⟩, (by (repeat (first | exact Below.refl _ _ | assumption | refine Below.setCell ?_ (by first | (simp; done) | omega | (simp; omega) | (simp at *; omega)) _ | refine Below.drew ?_ | refine below_drewN ?_ _ | refine below_alloc' ?_ _ | refine below_to' ?_ (by assumption))))⟩
  case round =>
    obtain ⟨k, hk, rfl, ⟨l, h, rfl, rfl, hcase⟩, hbel⟩ := hrel
    by_cases hlt : k < xs.length
    · have hck : wr.cell? ⟨g, off + k, none⟩ = some (.int .i64 xs[k]) := by rw [hbel.cell hg, HC.out k hlt, getD_lt hlt]
      have hsz := hbel.size
      have hx := allB_get HA.out hlt
      obtain ⟨hx1, hx2⟩ := hx
      rcases hcase with ⟨rfl, hown⟩ | ⟨hk0, hown, hl, hh⟩
      · go_wp2_with fail
        go_quiet (fail)
        go_wp2_with (at_builtin; refine wpList_push_int _ rfl (.tmp 55) (.tmp 57) rfl ints w.heap.size _ _ _ _ 1 rfl rfl (hown.drewN _) hsz (by simp) ?_; intro v5 w5 hown5 hb5 hg5 hat5 hk5 hlt5; have hc5 := (hb5.cell (p := ⟨g, off, none⟩) hg).trans hck)
        go_roundw
        case rel =>
          refine ⟨1, by omega, by go_num, ⟨_, _, rfl, rfl, .inr ⟨by omega, ?_, ?_, ?_⟩⟩, hbel.trans ((below_drewN (Below.refl _ _) _).trans hb5)⟩
          · rw [fw_one hlt]
            exact hown5
          · rw [fw_one hlt]
            show xs[0] = minL (seg xs 0 (0 + 1))
            rw [seg_single hlt]; rfl
          · rw [fw_one hlt]
            show xs[0] = maxL (seg xs 0 (0 + 1))
            rw [seg_single hlt]; rfl
        case measure => simp [intOf]; omega
      · obtain ⟨last, hlast⟩ : ∃ n, n = (fw room xs k).getLastD 0 := ⟨_, rfl⟩
        rw [← hlast] at hl hh
        have hlk : last < k := by rw [hlast]; rcases fw_last room xs k with h1 | h1 <;> omega
        have hmx : maxL (seg xs last (k + 1)) = max h xs[k] := by rw [hh, seg_succ (by omega) hlt, maxL_snoc (seg_ne hlk (by omega))]
        have hmn : minL (seg xs last (k + 1)) = min l xs[k] := by rw [hl, seg_succ (by omega) hlt, minL_snoc (seg_ne hlk (by omega))]
        have hlb := minL_bounds (seg_allB HA.out last k) (seg_ne hlk (by omega))
        rw [← hl, ← hh] at hlb
        obtain ⟨hb1, hb2, hb3⟩ := hlb
        have hfwn : ∀ (b : Bool), decide ((room : Int) < max h xs[k] - min l xs[k]) = b → fw room xs (k + 1) = if b = true then fw room xs k ++ [k] else fw room xs k := by
          intro b hb
          rw [fw, ← hlast, sprd, hmx, hmn, ← hb]
          simp
        have hlen := ints'_len (fw room xs k)
        have hfl := fw_len room xs k
        have HX := hide (And.intro hlast (And.intro hmx (And.intro hmn (And.intro hfwn (And.intro hlen hfl)))))
        have hi1 : (k : Int) < (xs.length : Int) := by omega
        have hk1 : (0 : Int) < (k : Int) := by omega
        clear hlast hmx hmn hfwn hlen hfl hl hh
        have hw1 : IntKind.i64.wrap (max h xs[k] - min l xs[k]) = max h xs[k] - min l xs[k] := IntWalk.i64_in _ (by omega)
        by_cases hfit : max h xs[k] - min l xs[k] ≤ room
        · go_wp2_with fail
          go_quiet (fail)
          go_wp2_with fail
          go_roundw
          case rel =>
            have e := HX.out.2.2.2.1 false (by simpa using hfit)
            simp only [Bool.false_eq_true, if_false] at e
            refine ⟨k + 1, by omega, by go_num, ⟨_, _, rfl, rfl, .inr ⟨by omega, ?_, ?_, ?_⟩⟩, below_drewN hbel _⟩
            · rw [e]; exact hown.drewN _
            · rw [e, ← HX.out.1, HX.out.2.2.1, min_if]
            · rw [e, ← HX.out.1, HX.out.2.1, max_if]
          case measure => simp [intOf]; omega
        · go_wp2_with fail
          go_quiet (fail)
          go_wp2_with (at_builtin; refine wpList_push_int _ rfl (.tmp 55) (.tmp 57) rfl ints w.heap.size _ _ _ _ 1 rfl rfl (hown.drewN _) hsz (by have h1 := HX.out.2.2.2.2.1; have h2 := HX.out.2.2.2.2.2; omega) ?_; intro v5 w5 hown5 hb5 hg5 hat5 hk5 hlt5; have hc5 := (hb5.cell (p := ⟨g, off + k, none⟩) hg).trans hck)
          go_roundw
          case rel =>
            have e := HX.out.2.2.2.1 true (by simp; omega)
            simp only [if_true] at e
            refine ⟨k + 1, by omega, by go_num, ⟨_, _, rfl, rfl, .inr ⟨by omega, ?_, ?_, ?_⟩⟩, hbel.trans ((below_drewN (Below.refl _ _) _).trans hb5)⟩
            · rw [e, ints'_snoc]; exact hown5
            · rw [e, getLastD_snoc, seg_single hlt]; rfl
            · rw [e, getLastD_snoc, seg_single hlt]; rfl
          case measure => simp [intOf]; omega
    · obtain rfl : k = xs.length := by omega
      rcases hcase with ⟨h0, _⟩ | ⟨_, hown, _, _⟩
      · omega
      · go_wp2_with fail
        go_ret
        exact ⟨_, rfl, hown.sl, hbel⟩

set_option maxHeartbeats 400000 in
theorem FewestPiecesS_no (v : Value) (xs : List Int) (room : Int) (w : World) (hr : Rd w v xs) (hno : ¬ (okSteps xs = true ∧ 0 ≤ room ∧ room ≤ 60)) :
    Calls Try.prog 14 #[v, .int .i64 room] w fun e w' => e = .returned (.slice none 0 0) ∧ Below w.heap.size w w' := by
  cases hok : okSteps xs
  · have HO := hide hok
    clear hok hno
    go_enter Try.func14, Try.ntmps14
    go_wp2_with fail
    refine (validSteps_c _ xs false _ hr HO.out).mono ?_
    rintro e w1 ⟨rfl, rfl⟩
    go_wp2_with fail
    go_ret
    exact ⟨rfl, Below.refl _ _⟩
  · have h1 : ¬ (0 ≤ room ∧ room ≤ 60) := fun h => hno ⟨hok, h⟩
    have HO := hide hok
    clear hok hno
    go_enter Try.func14, Try.ntmps14
    go_wp2_with fail
    refine (validSteps_c _ xs true _ hr HO.out).mono ?_
    rintro e w1 ⟨rfl, rfl⟩
    go_wp2_with fail
    refine (inRange_c false _ _ _ _ (by simp; omega)).mono ?_
    rintro e w' ⟨rfl, rfl⟩
    go_wp2_with fail
    go_ret
    exact ⟨rfl, Below.refl _ _⟩

/-- What FewestPieces returns. -/
def rFew (xs : List Int) (room : Int) : List Int := if okSteps xs = true ∧ 0 ≤ room ∧ room ≤ 60 then ints' (fw room xs xs.length) else []
theorem rFew_len (xs : List Int) (room : Int) : (rFew xs room).length ≤ 9 := by
  unfold rFew
  split
  · next h =>
    have := fw_len room xs xs.length
    have := okSteps_all h.1
    rw [ints'_len]; omega
  · simp
theorem FewestPiecesS_c (v : Value) (xs : List Int) (room : Int) (w : World) (hr : Rd w v xs) :
    Calls Try.prog 14 #[v, .int .i64 room] w fun e w' => ∃ v', e = .returned v' ∧ Sl w' w.heap.size v' (rFew xs room) ∧ Below w.heap.size w w' := by
  by_cases hok : okSteps xs = true ∧ 0 ≤ room ∧ room ≤ 60
  · have e : rFew xs room = ints' (fw room xs xs.length) := by rw [rFew, if_pos hok]
    obtain ⟨hok, h1, h2⟩ := hok
    obtain ⟨room, rfl⟩ := Int.eq_ofNat_of_zero_le h1
    rw [e]
    exact FewestPiecesS_yes v xs room w hr hok (by omega)
  · have e : rFew xs room = [] := by rw [rFew, if_neg hok]
    rw [e]
    exact (FewestPiecesS_no v xs room w hr hok).mono fun e w' h => ⟨_, h.1, Sl.nil _ _, h.2⟩
theorem FewestPiecesI_c (v : Value) (xs : List Int) (room : Int) (w : World) (hr : Rd w v xs) :
    Calls Try.prog 16 #[v, .int .i64 room] w fun e w' => ∃ v', e = .returned v' ∧ Sl w' w.heap.size v' (rFew xs room) ∧ Below w.heap.size w w' := by
  by_cases hok : okSteps xs = true ∧ 0 ≤ room ∧ room ≤ 60
  · have e : rFew xs room = ints' (fw room xs xs.length) := by rw [rFew, if_pos hok]
    obtain ⟨hok, h1, h2⟩ := hok
    obtain ⟨room, rfl⟩ := Int.eq_ofNat_of_zero_le h1
    rw [e]
    exact FewestPiecesI_yes v xs room w hr hok (by omega)
  · have e : rFew xs room = [] := by rw [rFew, if_neg hok]
    rw [e]
    exact (FewestPiecesI_no v xs room w hr hok).mono fun e w' h => ⟨_, h.1, Sl.nil _ _, h.2⟩
end Go.Proofs.Ytgcpglefkkpdjaa
