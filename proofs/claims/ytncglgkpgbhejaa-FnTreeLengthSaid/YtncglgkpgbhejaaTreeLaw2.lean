/-
  The statement FnTreeLength.
-/
import Derived.Test.YtncglgkpgbhejaaTreeLaw
import Derived.Test.YtncglgkpgbhejaaGapsD
namespace Go.Proofs.Ytncglgkpgbhejaa
open Go.RowKit

set_option maxHeartbeats 1000000 in
theorem total_c (v : Value) (xss : List (List Int)) (a n : Nat) (w : World) (h : Rd w v (rw_ xss a)) (hl : (rw_ xss a).length = n) (hn : n ≤ 6) (hb : ∀ k, k < n → 0 ≤ gp xss a k ∧ gp xss a k ≤ 40) :
    Calls Try.prog 24 #[v] w fun e w' => e = .returned (.int .i64 (starZ (gp xss) a n)) ∧ w = w' := by
  obtain ⟨A, c, rfl, hc, hm, _⟩ := id h
  have hcell := h.at
  rw [hl] at hc hcell ⊢
  have HB := hide hb
  have HS : Hid (∀ k, k ≤ n → 0 ≤ starZ (gp xss) a k ∧ starZ (gp xss) a k ≤ 40 * (k : Int)) := fun k => by
    induction k with
    | zero => intro _; simp [starZ]
    | succ k ih => intro hk; have := ih (by omega); have := hb k (by omega); simp only [starZ]; omega
  clear hl hb
  go_enter Try.func24, Try.ntmps24
  go_wp2_with fail
  go_loop [3, 4] (fun s i => ∃ k : Nat, k ≤ n ∧ i = .int .i64 k ∧ s = .int .i64 (starZ (gp xss) a k)) (fun _ i => n - (intOf i).toNat)
  case atStart => exact ⟨0, by omega, rfl, rfl⟩
  case round =>
    obtain ⟨k, hk, rfl, rfl⟩ := hrel
    by_cases hlt : k < n
    · obtain ⟨g, off, rfl, hg, hcl⟩ := hcell (by omega)
      have hck : w.cell? ⟨g, off + k, none⟩ = some (.int .i64 (gp xss a k)) := hcl k hlt
      have hb1 := HS.out k hk
      have hb2 := HB.out k hlt
      have ik : (k : Int) < (n : Int) := by omega
      have HE : Hid (starZ (gp xss) a (k + 1) = starZ (gp xss) a k + gp xss a k) := rfl
      obtain ⟨x, hx⟩ : ∃ x, gp xss a k = x := ⟨_, rfl⟩
      obtain ⟨s, hs⟩ : ∃ x, starZ (gp xss) a k = x := ⟨_, rfl⟩
      rw [hx] at hck hb2 HE
      rw [hs] at hb1 HE ⊢
      have e1 : IntKind.i64.wrap (s + x) = s + x := IntWalk.i64_in _ (by omega)
      clear hx hs hcl hcell
      go_wp2_with fail
      clear e1
      go_round
      case rel => exact ⟨k + 1, by omega, by go_num, by rw [HE.out]⟩
      case measure => simp [intOf]; omega
    · obtain rfl : k = n := by omega
      go_wp2_with fail
      go_ret
      exact ⟨rfl, rfl⟩

set_option maxHeartbeats 1000000 in
theorem DrawTree_c (A : Option Addr) (n c : Nat) (bs : List Int) (w : World) (hl : bs.length = n) (hnc : n ≤ c) (hc : c ≤ 9223372036854775807) (hr : Rd8 w w.heap.size A bs) :
    Calls Try.prog 23 #[.slice A n c] w fun e w' => ∃ v M, e = .returned v ∧ RdSS w' v M ∧ Below w.heap.size w w' := by
  go_enter Try.func23, Try.ntmps23
  go_wp2_with fail
  refine (newReader_c A n c bs _ hl hnc hc hr).mono ?_
  rintro e w1 ⟨R, bs', rfl, hbl, hR, ⟨A', c', hrd⟩, hb1⟩
  go_wp2_with fail
  refine (someGaps_c R c' 0 A' bs' _ hrd (by omega) hbl).mono ?_
  rintro e w2 ⟨v, M, p', rfl, hM, _, _, hold⟩
  go_wp2_with fail
  go_ret
  exact ⟨_, M, rfl, hM.rd, hb1.trans (old_belowR hold hb1.size hR)⟩

set_option maxHeartbeats 4000000 in
theorem FnTreeLength_c (A : Option Addr) (n c : Nat) (bs : List Int) (w : World) (hl : bs.length = n) (hnc : n ≤ c) (hc : c ≤ 9223372036854775807) (hr : Rd8 w w.heap.size A bs) :
    Calls Try.prog 6 #[.slice A n c] w fun e w' => e = .returned (.bool true) ∧ Below w.heap.size w w' := by
  by_cases hbig : 1048576 < n
  · go_enter Try.func6, Try.ntmps6
    go_wp2_with fail
    go_ret
    exact ⟨rfl, Below.refl _ _⟩
  have K := hide fun w hr => DrawTree_c A n c bs w hl hnc hc hr
  clear hl
  go_enter Try.func6, Try.ntmps6
  go_wp2_with fail
  refine (K.out _ hr).mono ?_
  rintro e w1 ⟨v, xss, rfl, hM, hb1⟩
  obtain ⟨Ag, cg, rfl, hcg, hmg, _⟩ := id hM
  have PI := hide fun u w (h1 : RdSS w u xss) => TreeI_all u xss w h1
  have PS := hide fun u w (h1 : RdSS w u xss) => TreeS_all u xss w h1
  clear K hr
  cases hok : okGaps xss
  · have ht : treeX xss = -1 := by simp [treeX, hok]
    rw [ht] at PI PS
    clear hok ht
    go_wp2_with fail
    refine (PI.out _ _ hM).mono ?_
    rintro e w2 ⟨rfl, hb2⟩
    have hM2 := hM.below hb2
    go_wp2_with fail
    refine (PS.out _ _ hM2).mono ?_
    rintro e w3 ⟨rfl, hb3⟩
    have hM3 := hM2.below hb3
    go_wp2_with fail
    refine (PS.out _ _ hM3).mono ?_
    rintro e w4 ⟨rfl, hb4⟩
    go_wp2_with fail
    go_ret
    exact ⟨rfl, (hb1.trans (hb2.mono hb1.size)).trans (((hb3.trans (hb4.mono hb3.size)).mono hb2.size).mono hb1.size)⟩
  · have ht : treeX xss = (WB (gp xss) xss.length (oneS 0) : Int) := by simp [treeX, hok]
    obtain ⟨⟨hn1, hn6⟩, hrl, hdg, hsym, hbd⟩ := okGaps_all hok
    have hb40 : ∀ i k, i < xss.length → k < xss.length → 0 ≤ gp xss i k ∧ gp xss i k ≤ 40 := fun i k hi hk => okGaps_bd hok hi hk
    have HSTAR := hide fun (a : Nat) (ha : a < xss.length) => WB_star hsym ha (by omega) fun b hb => by have := hb40 a b ha hb; omega
    have HGE := hide (WB_ge hsym (show 0 < xss.length by omega) fun a b ha hb hne => (hbd a b ha hb hne).1)
    have HROW := hide fun (w : World) (h : RdSS w (.slice Ag xss.length cg) xss) (j : Nat) (hj : j < xss.length) => h.row hj
    have HRL := hide hrl
    have HB := hide hb40
    have HUP := HSTAR.out 0 (by omega)
    have hST : starZ (gp xss) 0 xss.length ≤ 40 * (xss.length : Int) := by
      have : ∀ k, k ≤ xss.length → starZ (gp xss) 0 k ≤ 40 * (k : Int) := fun k => by
        induction k with
        | zero => intro _; simp [starZ]
        | succ k ih => intro hk; have := ih (by omega); have := hb40 0 k (by omega) (by omega); simp only [starZ]; omega
      exact this _ (Nat.le_refl _)
    rw [ht] at PI PS
    obtain ⟨T, hT⟩ : ∃ T : Nat, WB (gp xss) xss.length (oneS 0) = T := ⟨_, rfl⟩
    rw [hT] at PI PS HSTAR HGE HUP
    have hT3 : (T : Int) ≤ 1000 := by omega
    have hT0 : ¬ (T : Int) < 0 := by omega
    clear hok ht hsym hbd hdg hrl hb40 hT HUP hST
    go_wp2_with fail
    refine (PI.out _ _ hM).mono ?_
    rintro e w2 ⟨rfl, hb2⟩
    have hM2 := hM.below hb2
    go_wp2_with fail
    refine (PS.out _ _ hM2).mono ?_
    rintro e w3 ⟨rfl, hb3⟩
    have hM3 := hM2.below hb3
    have hbw3 : Below w.heap.size w w3 := (hb1.trans (hb2.mono hb1.size)).trans ((hb3.mono hb2.size).mono hb1.size)
    go_wp2_with fail
    go_loop [5] (fun i => ∃ k : Nat, k ≤ xss.length ∧ i = .int .i64 k) (fun i => xss.length - (intOf i).toNat)
    case atStart => exact ⟨0, by omega, rfl⟩
    case round =>
      obtain ⟨k, hk, rfl⟩ := hrel
      by_cases hlt : k < xss.length
      · obtain ⟨ga, oa, rfl, hga, Br, dr, hcr, hrdr, hd1, hd2, _⟩ := HROW.out _ hM3 k hlt
        have KT := hide fun w h => total_c (.slice Br (rw_ xss k).length dr) xss k xss.length w h (HRL.out k hlt) hn6 fun j hj => HB.out k j hlt hj
        have hle := HSTAR.out k hlt
        have hrl := HRL.out k hlt
        rw [hrl] at hcr hrdr KT
        have ik : (k : Int) < (xss.length : Int) := by omega
        obtain ⟨s, hs⟩ : ∃ s, starZ (gp xss) k xss.length = s := ⟨_, rfl⟩
        rw [hs] at KT hle
        have hng : ¬ s < (T : Int) := by omega
        clear hs hrl
        go_wp2_with fail
        refine (KT.out _ hrdr).mono ?_
        rintro e w4 ⟨rfl, rfl⟩
        go_wp2_with fail
        go_round
        case rel => exact ⟨k + 1, by omega, by go_num⟩
        case measure => simp [intOf]; omega
      · obtain rfl : k = xss.length := by omega
        have e1 : IntKind.i64.wrap ((xss.length : Int) - 1) = (xss.length : Int) - 1 := IntWalk.i64_in _ (by omega)
        have hge : (xss.length : Int) - 1 ≤ (T : Int) := by have := HGE.out; omega
        go_wp2_with fail
        go_ret
        exact ⟨ret_bool (by simp <;> omega), hbw3⟩
end Go.Proofs.Ytncglgkpgbhejaa
