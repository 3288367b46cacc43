/-
  RiseSum in all cases; the row of highest numbers so far, whether a row rises, the draw.
-/
import Derived.Test.YtahogdcmnpidiaaRiseS
import Derived.Test.YtahogdcmnpidiaaHelp
namespace Go.Proofs.Ytahogdcmnpidiaa
open Go.RowKit

theorem RiseI_c (u v : Value) (xs ws : List Int) (w : World) (hx : Rd w u xs) (hy : Rd w v ws) :
    Calls Try.prog 33 #[u, v] w fun e w' => e = .returned (.int .i64 (riseX xs ws)) ∧ Below w.heap.size w w' := by
  cases hok : okLoads xs ws
  · have hR : riseX xs ws = -1 := by rw [riseX, if_neg (by rw [hok]; simp)]
    rw [hR]
    have K := hide fun w hx hy => ValidLoadsI_c u v xs ws false w hx hy hok
    obtain ⟨A, c, rfl, _⟩ := id hx
    obtain ⟨A2, c2, rfl, _⟩ := id hy
    clear hok hR
    go_enter Try.func33, Try.ntmps33
    go_wp2_with fail
    refine (K.out _ hx hy).mono ?_
    rintro e w1 ⟨rfl, hb1⟩
    go_wp2_with fail
    go_ret
    exact ⟨rfl, hb1⟩
  · rw [riseX, if_pos hok, bestR_PL]
    exact RiseI_yes u v xs ws w hx hy hok
theorem RiseS_c (u v : Value) (xs ws : List Int) (w : World) (hx : Rd w u xs) (hy : Rd w v ws) :
    Calls Try.prog 34 #[u, v] w fun e w' => e = .returned (.int .i64 (riseX xs ws)) ∧ Below w.heap.size w w' := by
  cases hok : okLoads xs ws
  · have hR : riseX xs ws = -1 := by rw [riseX, if_neg (by rw [hok]; simp)]
    rw [hR]
    have K := hide fun w hx hy => validLoadsS_c u v xs ws false w hx hy hok
    clear hok hR
    go_enter Try.func34, Try.ntmps34
    go_wp2_with fail
    refine (K.out _ hx hy).mono ?_
    rintro e w1 ⟨rfl, rfl⟩
    go_wp2_with fail
    go_ret
    exact ⟨rfl, Below.refl _ _⟩
  · rw [riseX, if_pos hok, bestR_PL]
    have K := hide fun w hx hy => validLoadsS_c u v xs ws true w hx hy hok
    have KR := hide fun w hx hy => riseS_c u v xs ws w hx hy hok
    obtain ⟨r, hr⟩ : ∃ r, pm (PL xs ws xs.length) 60 = r := ⟨_, rfl⟩
    rw [hr] at KR ⊢
    clear hok hr
    go_enter Try.func34, Try.ntmps34
    go_wp2_with fail
    refine (K.out _ hx hy).mono ?_
    rintro e w1 ⟨rfl, rfl⟩
    go_wp2_with fail
    refine (KR.out _ hx hy).mono ?_
    rintro e w2 ⟨rfl, hb2⟩
    go_wp2_with fail
    go_ret
    exact ⟨rfl, hb2⟩

theorem Own.formK {w : World} {B e : Nat} {v : Value} {xs : List Int} {x : Int} (h : Own w B e v (xs ++ [x])) : ∃ g c, v = .slice (some ⟨g, 0, none⟩) (xs ++ [x]).length c ∧ (xs ++ [x]).length ≤ c := by
  obtain ⟨hl, ⟨_, h0⟩ | ⟨g, cap, cur, hv, _, _, hn, hc, _, _⟩⟩ := id h
  · simp at h0
  · exact ⟨g, cap, hv, hn⟩
def AscI (xs : List Int) : Prop := ∀ j, j + 1 < xs.length → atL xs j ≤ atL xs (j + 1)
set_option maxHeartbeats 1000000 in
theorem climbs_c (v : Value) (xs : List Int) (w : World) (r : Bool) (hx : Rd w v xs) (hl : xs.length ≤ 30) (hr : r = true ↔ AscI xs) :
    Calls Try.prog 36 #[v] w fun e w' => e = .returned (.bool r) ∧ Below w.heap.size w w' := by
  obtain ⟨A, c, rfl, hc, hm, _⟩ := id hx
  have hcell := hx.at
  have HR := hide hr
  clear hr
  go_enter Try.func36, Try.ntmps36
  go_wp2_with fail
  go_loopw [3] (fun i wr => ∃ m : Nat, (m = 0 ∨ m + 1 ≤ xs.length) ∧ i = .int .i64 ((m : Int) + 1) ∧ Hid (∀ j, j < m → atL xs j ≤ atL xs (j + 1)) ∧ Below w.heap.size w wr) (fun i _ => xs.length - (intOf i).toNat)
  case atStart => exact ⟨0, .inl rfl, rfl, fun j h => absurd h (by omega), by (repeat (first | exact Below.refl _ _ | assumption | refine Below.setCell ?_ (by first | (simp; done) | omega | (simp; omega) | (simp at *; omega)) _ | refine Below.drew ?_ | refine below_drewN ?_ _ | refine below_alloc' ?_ _ | refine below_to' ?_ (by assumption)))⟩
  case round =>
    obtain ⟨m, hm2, rfl, hle, hbel⟩ := hrel
    by_cases hlt : m + 1 < xs.length
    · obtain ⟨g, off, rfl, hg, hcl⟩ := hcell (by omega)
      have c1 := (hbel.cell (p := ⟨g, off + (m + 1), none⟩) hg).trans (hcl (m + 1) hlt)
      have c2 := (hbel.cell (p := ⟨g, off + m, none⟩) hg).trans (hcl m (by omega))
      have i1 : (m : Int) + 1 < (xs.length : Int) := by omega
      have i2 : (m : Int) < (xs.length : Int) := by omega
      have i0 : (0 : Int) ≤ (m : Int) + 1 := by omega
      have it : ((m : Int) + 1).toNat = m + 1 := by omega
      have e1 : IntKind.i64.wrap ((m : Int) + 1 - 1) = (m : Int) := by rw [Int.add_sub_cancel]; exact IntWalk.i64_in _ (by omega)
      have HXS : Hid (AscI xs → atL xs m ≤ atL xs (m + 1)) := fun h => h m hlt
      have HST : Hid (atL xs m ≤ atL xs (m + 1) → ∀ j, j < m + 1 → atL xs j ≤ atL xs (j + 1)) := fun h j hj => by
        by_cases e : j = m
        · subst e; exact h
        · exact hle.out j (by omega)
      obtain ⟨x, hx1⟩ : ∃ x, atL xs m = x := ⟨_, rfl⟩
      obtain ⟨y, hy1⟩ : ∃ x, atL xs (m + 1) = x := ⟨_, rfl⟩
      rw [hy1] at c1 HXS HST
      rw [hx1] at c2 HXS HST
      clear hx1 hy1 hcl hcell hm2
      by_cases hyx : y < x
      · have hrf : r = false := by
          cases hr2 : r
          · rfl
          · have := HXS.out (HR.out.1 hr2); omega
        clear HR
        go_wp2_with fail
        go_quiet (fail)
        go_wp2_with fail
        go_ret
        exact ⟨by rw [hrf]; rfl, below_drewN hbel _⟩
      · go_wp2_with fail
        go_quiet (fail)
        go_wp2_with fail
        go_roundw
        case rel => exact ⟨m + 1, .inr (by omega), by go_num, HST.out (by omega), below_drewN hbel _⟩
        case measure => simp [intOf]; omega
    · have hrt : r = true := HR.out.2 fun j hj => hle.out j (by omega)
      have i1 : ¬ ((m : Int) + 1 < (xs.length : Int)) := by omega
      clear hcell hm2
      go_wp2_with fail
      go_ret
      exact ⟨rfl, hbel⟩

/-- The highest number so far. -/
def topF (xs : List Int) : Nat → Int
  | 0 => atL xs 0
  | k + 1 => max (atL xs (k + 1)) (topF xs k)
theorem topF_allB {xs : List Int} {a b : Int} (h : allB a b xs = true) : ∀ k, k < xs.length → a ≤ topF xs k ∧ topF xs k ≤ b
  | 0, hk => allB_at h hk
  | k + 1, hk => by
    have := allB_at h hk
    have := topF_allB h k (by omega)
    simp only [topF]
    omega
theorem topF_ge (xs : List Int) : ∀ k, atL xs k ≤ topF xs k
  | 0 => Int.le_refl _
  | k + 1 => by simp only [topF]; omega
theorem topF_asc (xs : List Int) (k : Nat) : topF xs k ≤ topF xs (k + 1) := by simp only [topF]; omega
set_option maxHeartbeats 1000000 in
theorem tops_c (v : Value) (xs : List Int) (w : World) (hx : Rd w v xs) (hl : xs.length ≤ 30) :
    Calls Try.prog 35 #[v] w fun e w' => ∃ u T, e = .returned u ∧ T.length = xs.length ∧ (∀ k, k < xs.length → atL T k = topF xs k) ∧ Sl w' w.heap.size u T ∧ Below w.heap.size w w' := by
  obtain ⟨A, c, rfl, hc, hm, _⟩ := id hx
  have hcell := hx.at
  go_enter Try.func35, Try.ntmps35
  go_wp2_with fail
  go_loopw [3, 4] (fun o i wr => ∃ (k g cg : Nat) (T : List Int), k ≤ xs.length ∧ i = .int .i64 k ∧ o = .slice (some ⟨g, 0, none⟩) k cg ∧ Hid (T.length = k) ∧ Hid (∀ j, j < k → atL T j = topF xs j) ∧ Own wr w.heap.size 3 o T ∧ Below w.heap.size w wr) (fun _ i _ => xs.length - (intOf i).toNat)
  case atStart => exact ⟨0, w.heap.size, 0, [], by omega, rfl, rfl, rfl, fun j h => absurd h (by omega), lit_own [] rfl rfl rfl (by simp) (Nat.le_refl _), by (repeat (first | exact Below.refl _ _ | assumption | refine Below.setCell ?_ (by first | (simp; done) | omega | (simp; omega) | (simp at *; omega)) _ | refine Below.drew ?_ | refine below_drewN ?_ _ | refine below_alloc' ?_ _ | refine below_to' ?_ (by assumption)))⟩
  case round =>
    obtain ⟨k, g, cg, T, hk, rfl, rfl, hT, hTf, hown, hbel⟩ := hrel
    have hsz := hbel.size
    by_cases hlt : k < xs.length
    · obtain ⟨gx, ox, rfl, hg, hcl⟩ := hcell (by omega)
      have c1 := (hbel.cell (p := ⟨gx, ox + k, none⟩) hg).trans (hcl k hlt)
      have ik : (k : Int) < (xs.length : Int) := by omega
      have hTb : T.length ≤ 1000000000 := by have := hT.out; omega
      have HTB := hide hTb
      have HNEXT : Hid (∀ x, x = topF xs k → ∀ j, j < k + 1 → atL (T ++ [x]) j = topF xs j) := fun x hx j hj => by
        by_cases e : j = k
        · subst e
          rw [at_app_right (by rw [hT.out]; exact Nat.le_refl _), hT.out, Nat.sub_self, ← hx]
          rfl
        · rw [at_app_left (by rw [hT.out]; omega)]
          exact hTf.out j (by omega)
      have HTL : Hid (∀ x : Int, (T ++ [x]).length = k + 1) := fun x => by rw [List.length_append, hT.out]; rfl
      clear hcl hcell hTb
      cases k with
      | zero =>
        obtain ⟨x, hx0⟩ : ∃ x, atL xs 0 = x := ⟨_, rfl⟩
        have HX0 := hide hx0
        rw [hx0] at c1
        have c1 : wr.cell? ⟨gx, ox, none⟩ = some (.int .i64 x) := c1
        clear hx0
        go_wp2_with (at_builtin; refine wpList_push_int _ rfl (.tmp 26) (.tmp 28) rfl ints w.heap.size _ _ x _ 1 rfl rfl hown hsz HTB.out ?_; intro v5 w5 hown5 hb5 hg5 hat5 hk5 hlt5)
        obtain ⟨gz, cz, rfl⟩ : ∃ gz cz, v5 = .slice (some ⟨gz, 0, none⟩) 1 cz := by
          obtain ⟨gz, cz, h1, _⟩ := hown5.formK
          exact ⟨gz, cz, by rw [h1, HTL.out]⟩
        go_roundw
        case rel => exact ⟨1, gz, cz, _, by omega, by go_num, rfl, HTL.out x, HNEXT.out x (by rw [← HX0.out]; rfl), hown5, hbel.trans hb5⟩
        case measure => simp [intOf]; omega
      | succ m =>
        have c2 := hown.cell (j := m) (by have := hT.out; omega)
        have HTM : Hid (T.getD m 0 = topF xs m) := hTf.out m (by omega)
        rw [HTM.out] at c2
        have i1 : (m : Int) < ((m + 1 : Nat) : Int) := by omega
        have i0 : (0 : Int) < ((m + 1 : Nat) : Int) := by omega
        have e1 : IntKind.i64.wrap (((m + 1 : Nat) : Int) - 1) = (m : Int) := by rw [show ((m + 1 : Nat) : Int) - 1 = (m : Int) by omega]; exact IntWalk.i64_in _ (by omega)
        have e2 : IntKind.i64.wrap ((m : Int) + 1 - 1) = (m : Int) := by rw [Int.add_sub_cancel]; exact IntWalk.i64_in _ (by omega)
        have HM : Hid (topF xs (m + 1) = max (atL xs (m + 1)) (topF xs m)) := rfl
        obtain ⟨x, hx0⟩ : ∃ x, atL xs (m + 1) = x := ⟨_, rfl⟩
        obtain ⟨t, ht⟩ : ∃ x, topF xs m = x := ⟨_, rfl⟩
        rw [hx0] at c1 HM
        rw [ht] at c2 HM
        clear hx0 ht
        by_cases hxt : x < t
        · have HV : Hid (t = topF xs (m + 1)) := by show _ = _; rw [HM.out]; omega
          go_wp2_with (at_builtin; refine wpList_push_int _ rfl (.tmp 26) (.tmp 28) rfl ints w.heap.size _ _ t _ 1 rfl rfl hown hsz HTB.out ?_; intro v5 w5 hown5 hb5 hg5 hat5 hk5 hlt5)
          obtain ⟨gz, cz, rfl⟩ : ∃ gz cz, v5 = .slice (some ⟨gz, 0, none⟩) (m + 1 + 1) cz := by
            obtain ⟨gz, cz, h1, _⟩ := hown5.formK
            exact ⟨gz, cz, by rw [h1, HTL.out]⟩
          go_roundw
          case rel => exact ⟨m + 1 + 1, gz, cz, _, by omega, by go_num, rfl, HTL.out t, HNEXT.out t HV.out, hown5, hbel.trans hb5⟩
          case measure => simp [intOf]; omega
        · have HV : Hid (x = topF xs (m + 1)) := by show _ = _; rw [HM.out]; omega
          go_wp2_with (at_builtin; refine wpList_push_int _ rfl (.tmp 26) (.tmp 28) rfl ints w.heap.size _ _ x _ 1 rfl rfl hown hsz HTB.out ?_; intro v5 w5 hown5 hb5 hg5 hat5 hk5 hlt5)
          obtain ⟨gz, cz, rfl⟩ : ∃ gz cz, v5 = .slice (some ⟨gz, 0, none⟩) (m + 1 + 1) cz := by
            obtain ⟨gz, cz, h1, _⟩ := hown5.formK
            exact ⟨gz, cz, by rw [h1, HTL.out]⟩
          go_roundw
          case rel => exact ⟨m + 1 + 1, gz, cz, _, by omega, by go_num, rfl, HTL.out x, HNEXT.out x HV.out, hown5, hbel.trans hb5⟩
          case measure => simp [intOf]; omega
    · obtain rfl : k = xs.length := by omega
      clear hcell
      go_wp2_with fail
      go_ret
      exact ⟨_, T, rfl, hT.out, hTf.out, hown.sl, hbel⟩

set_option maxHeartbeats 1000000 in
theorem DrawRise_c (A : Option Addr) (n c : Nat) (bs : List Int) (w : World) (hl : bs.length = n) (hnc : n ≤ c) (hc : c ≤ 9223372036854775807) (hr : Rd8 w w.heap.size A bs) :
    Calls Try.prog 32 #[.slice A n c] w fun e w' => ∃ v xs u ys, e = .returned (.tuple #[v, u]) ∧ Rd w' v xs ∧ xs.length ≤ 30 ∧ Rd w' u ys ∧ ys.length ≤ 30 ∧ (allB (-100) 100 xs = true ∧ allB (-100) 100 ys = true) ∧ Below w.heap.size w w' := by
  go_enter Try.func32, Try.ntmps32
  go_wp2_with fail
  refine (newReader_c A n c bs _ hl hnc hc hr).mono ?_
  rintro e w1 ⟨R, bs', rfl, hbl, hR, ⟨A', c', hrd⟩, hb1⟩
  go_wp2_with fail
  refine (someLoads_c R c' 0 A' bs' _ hrd (by omega) hbl).mono ?_
  rintro e w2 ⟨v, xs, u, ys, p', rfl, hsv, hxl, hsu, hyl, hall, hrd2, hp', hold⟩
  have hrv := hide hsv.rd
  have hru := hide hsu.rd
  have hbb := hb1.trans (old_belowR hold hb1.size hR)
  clear hsv hsu
  go_wp2_with fail
  refine bodyPost_ret (v := .tuple #[_, _]) (by simp [results, Try.results32, go_sem]) rfl ⟨_, xs, _, ys, rfl, hrv.out, hxl, hru.out, hyl, hall, hbb⟩
end Go.Proofs.Ytahogdcmnpidiaa
