/-
  The statement FnGroupsAt.
-/
import Derived.Test.YtncglgkpgbhejaaGrpLaw
import Derived.Test.YtncglgkpgbhejaaGapsD
import Derived.Test.YtncglgkpgbhejaaHelp
namespace Go.Proofs.Ytncglgkpgbhejaa
open Go.RowKit

section
variable {G : Nat → Nat → Int} {n : Nat} {h : Int} {ys : List Int}
theorem GrpL.eq_iff (hg : GrpL G n h ys) (hsym : ∀ a b, a < n → b < n → G a b = G b a) {a b : Nat} (ha : a < n) (hb : b < n) : ys.getD a 0 = ys.getD b 0 ↔ rcB G n h a b = true := by
  obtain ⟨u, e1, e2, e3, e4⟩ := hg.2 a ha
  obtain ⟨v, f1, f2, f3, f4⟩ := hg.2 b hb
  constructor
  · intro he
    have : u = v := by omega
    subst this
    exact rcB_trans ha hb e3 (rcB_symm hsym hb e2 f3)
  · intro hr
    have h1 := e4 v f2 (rcB_trans ha f2 hr f3)
    have h2 := f4 u e2 (rcB_trans hb e2 (rcB_symm hsym ha hb hr) e3)
    omega
theorem GrpL.self (hg : GrpL G n h ys) (hsym : ∀ a b, a < n → b < n → G a b = G b a) {a : Nat} (ha : a < n) : ∃ u : Nat, ys.getD a 0 = u ∧ u < n ∧ u ≤ a ∧ ys.getD u 0 = u := by
  obtain ⟨u, e1, e2, e3, e4⟩ := hg.2 a ha
  exact ⟨u, e1, e2, e4 a ha (rcB_refl ha), by rw [← (hg.eq_iff hsym ha e2).2 e3]; exact e1⟩
end

set_option maxHeartbeats 1000000 in
theorem DrawGroups_c (A : Option Addr) (n c : Nat) (bs : List Int) (w : World) (hl : bs.length = n) (hnc : n ≤ c) (hc : c ≤ 9223372036854775807) (hr : Rd8 w w.heap.size A bs) :
    Calls Try.prog 25 #[.slice A n c] w fun e w' => ∃ v M hh, e = .returned (.tuple #[v, .int .i64 hh]) ∧ RdSS w' v M ∧ (-1 ≤ hh ∧ hh ≤ 41) ∧ Below w.heap.size w w' := by
  go_enter Try.func25, Try.ntmps25
  go_wp2_with fail
  refine (newReader_c A n c bs _ hl hnc hc hr).mono ?_
  rintro e w1 ⟨R, bs', rfl, hbl, hR, ⟨A', c', hrd⟩, hb1⟩
  go_wp2_with fail
  refine (someGaps_c R c' 0 A' bs' _ hrd (by omega) hbl).mono ?_
  rintro e w2 ⟨v, M, p', rfl, hM, hrd2, hp', hold⟩
  have hR2 := blk_lt hrd2.blk
  have hb2 := old_belowR hold hb1.size hR
  go_wp2_with fail
  refine (one_c R c' p' A' bs' [2, 3, 1, 5, 10, 0, 40, 41, -1] _ _ (hrd2.alloc _) (by omega) hbl (lit_sl _ rfl (by simp) rfl (by simp) (by omega)) (by simp)).mono ?_
  rintro e w3 ⟨⟨y, hy, rfl⟩, hrd3, hon3⟩
  have hy' : -1 ≤ y ∧ y ≤ 41 := by simp at hy; omega
  clear hy
  have hR1 := blk_lt hrd.blk
  have hM3 : RdSS w3 v M := hM w3 (by rw [hon3.size]; simp) fun g hg hl => (hon3.block g (by omega)).trans (Below.heap_alloc _ _ _ hl)
  have hb3 : Below w.heap.size w w3 := (hb1.trans hb2).trans ((((Below.refl _ _).alloc (Nat.le_refl _) _).mono (by have := hb1.size; have := hold.size; omega)).trans (hon3.below hR))
  have HM3 := hide hM3
  clear hM hM3
  go_wp2_with fail
  go_ret2
  exact ⟨v, M, y, rfl, HM3.out, hy', hb3⟩

set_option maxHeartbeats 8000000 in
theorem FnGroupsAt_c (A : Option Addr) (n c : Nat) (bs : List Int) (w : World) (hl : bs.length = n) (hnc : n ≤ c) (hc : c ≤ 9223372036854775807) (hr : Rd8 w w.heap.size A bs) :
    Calls Try.prog 7 #[.slice A n c] w fun e w' => e = .returned (.bool true) ∧ Below w.heap.size w w' := by
  by_cases hbig : 1048576 < n
  · go_enter Try.func7, Try.ntmps7
    go_wp2_with fail
    go_ret
    exact ⟨rfl, Below.refl _ _⟩
  have K := hide fun w hr => DrawGroups_c A n c bs w hl hnc hc hr
  clear hl
  go_enter Try.func7, Try.ntmps7
  go_wp2_with fail
  refine (K.out _ hr).mono ?_
  rintro e w1 ⟨v, xss, hh, rfl, hM, ⟨hh1, hh2⟩, hb1⟩
  obtain ⟨Ag, cg, rfl, hcg, hmg, _⟩ := id hM
  have PI := hide fun u w (h1 : RdSS w u xss) => GroupsI_all u xss hh w h1
  have PS := hide fun u w (h1 : RdSS w u xss) => GroupsS_all u xss hh w h1
  have PM := hide fun u w (h1 : RdSS w u xss) => SmallI_all u xss w h1
  clear K hr
  go_wp2_with fail
  refine (PI.out _ _ hM).mono ?_
  rintro e w2 ⟨vo, ys, rfl, hso, hgo, hb2⟩
  have hM2 := hM.below hb2
  have hbw2 := hb1.trans (hb2.mono hb1.size)
  have hro := hso.rd
  obtain ⟨Ao, co, rfl, hco, hmo, _⟩ := id hro
  have hyl := hgo.len
  have HGO := hide hgo
  go_wp2_with fail
  refine (PS.out _ _ hM2).mono ?_
  rintro e w3 ⟨vs, zs, rfl, hss, hgs, hb3⟩
  obtain rfl := hgo.unique hgs
  have hbw3 := hbw2.trans (hb3.mono hbw2.size)
  have hro3 := hro.below hb3
  have hM3 := hM2.below hb3
  clear hgo hgs hro
  go_wp2_with fail
  refine (equalInts_c _ _ ys ys true _ hro3 hss.rd (by simp)).mono ?_
  rintro e w4 ⟨rfl, hb4⟩
  have hbw4 := hbw3.trans (hb4.mono hbw3.size)
  have hro4 := hro3.below hb4
  have hM4 := hM3.below hb4
  by_cases hv : okGaps xss = true ∧ hOk hh = true
  · have hgl : GrpL (gp xss) xss.length hh ys := by have := HGO.out; unfold IsG at this; rwa [if_pos hv] at this
    obtain ⟨hok, hhok⟩ := hv
    obtain ⟨⟨hn1, hn6⟩, hrl, hdg, hsym, hbd⟩ := okGaps_all hok
    have hh0 : 0 ≤ hh := by simp [hOk] at hhok; omega
    have hsm : smallX xss = fwC xss.length xss xss.length := by simp [smallX, hok]
    have hsq : Sq xss.length xss := ⟨rfl, hrl⟩
    have hz : Z0 xss.length xss := fun i hi => ⟨hdg i hi, fun j hj => (okGaps_bd hok hi hj).1⟩
    have HIFF := hide fun (a b : Nat) (ha : a < xss.length) (hb : b < xss.length) => ((hgl.eq_iff hsym ha hb).trans (fwC_iff hsq hz hh0 ha hb).symm)
    have HSELF := hide fun (a : Nat) (ha : a < xss.length) => hgl.self hsym ha
    rw [hsm] at PM
    have hsqS := hsq.fwC xss.length
    obtain ⟨S, hS⟩ : ∃ S, fwC xss.length xss xss.length = S := ⟨_, rfl⟩
    rw [hS] at PM HIFF hsqS
    have HSQ := hide hsqS
    have hyn : ys.length = xss.length := hgl.1
    rw [hyn] at hco hro4 hyl ⊢
    have HYN := hide hyn
    have hne : ((xss.length : Int) == 0) = false := beq_eq_false_iff_ne.2 (by omega)
    have hro4a := hro4.at
    clear hok hhok hrl hdg hsym hbd hsm hsq hz hgl hS hsqS hyn HGO PI PS
    go_wp2_with fail
    refine (PM.out _ _ hM4).mono ?_
    rintro e w5 ⟨vm, rfl, hom, hb5⟩
    have hrm := hom.rd
    obtain ⟨Am, cm, rfl, hcm, hmm, _⟩ := id hrm
    have hro5 := (hro4.below hb5).at
    have hbw5 := hbw4.trans (hb5.mono hbw4.size)
    have HMX : Hid (∀ a b, a < xss.length → b < xss.length → ∃ g off, Am = some ⟨g, off, none⟩ ∧ g < w5.heap.size ∧ ∃ b' o d, b' < w5.heap.size ∧ xss.length ≤ d ∧ d ≤ 9223372036854775807 ∧ w5.cell? ⟨g, off + a, none⟩ = some (.slice (some ⟨b', o, none⟩) xss.length d) ∧ w5.cell? ⟨b', o + b, none⟩ = some (.int .i64 (gp S a b))) := fun a b ha hb => by
      obtain ⟨g, off, e1, e2, Bq, d, e3, _, e6, e7, e4⟩ := hrm.row (j := a) (by rw [HSQ.out.1]; exact ha)
      have hl := HSQ.out.2 a ha
      rw [hl] at e3 e4 e6
      obtain ⟨b', o, rfl, e8, e5⟩ := e4 (by omega)
      exact ⟨g, off, e1, e2, b', o, d, e8, e6, e7, e3, e5 b hb⟩
    rw [HSQ.out.1] at hcm ⊢
    rw [HYN.out] at hro5
    clear hro4a hM4 hM3 hM2 hM hro3 hro4 hrm hom PM
    go_wp2_with fail
    go_loopw [7] (fun i wr => ∃ a : Nat, a ≤ xss.length ∧ i = .int .i64 a ∧ Below w5.heap.size w5 wr) (fun i _ => xss.length - (intOf i).toNat)
    case atStart => exact ⟨0, by omega, rfl, Below.refl _ _⟩
    case round =>
      obtain ⟨a, ha, rfl, hbel⟩ := hrel
      by_cases hal : a < xss.length
      · go_wp2_with fail
        go_loopw [8] (fun i wr' => ∃ b : Nat, b ≤ xss.length ∧ i = .int .i64 b ∧ Below w5.heap.size w5 wr') (fun i _ => xss.length - (intOf i).toNat)
        case atStart => exact ⟨0, by omega, rfl, hbel⟩
        case round =>
          rename World => wb
          clear hbel
          obtain ⟨b, hb, rfl, hbel⟩ := hrel
          by_cases hbl : b < xss.length
          · obtain ⟨go, oo, rfl, hgo, hcl⟩ := hro5 (by omega)
            have ca := (hbel.cell (p := ⟨go, oo + a, none⟩) hgo).trans (hcl a hal)
            have cb := (hbel.cell (p := ⟨go, oo + b, none⟩) hgo).trans (hcl b hbl)
            obtain ⟨gm, om, rfl, hgm, b', o, d, hb', hd1, hd2, m1, m2⟩ := HMX.out a b hal hbl
            have m1 := (hbel.cell (p := ⟨gm, om + a, none⟩) hgm).trans m1
            have m2 := (hbel.cell (p := ⟨b', o + b, none⟩) hb').trans m2
            have ia : (a : Int) < (xss.length : Int) := by omega
            have ib : (b : Int) < (xss.length : Int) := by omega
            have HI := hide (HIFF.out a b hal hbl)
            obtain ⟨s, hs⟩ : ∃ s, gp S a b = s := ⟨_, rfl⟩
            obtain ⟨x, hx⟩ : ∃ x, atL ys a = x := ⟨_, rfl⟩
            obtain ⟨y, hy⟩ : ∃ x, atL ys b = x := ⟨_, rfl⟩
            rw [hs] at m2 HI
            rw [hx] at ca
            rw [hy] at cb
            have HI : Hid (x = y ↔ s ≤ hh) := by rw [← hx, ← hy]; exact HI.out
            clear hs hx hy hcl hro5
            by_cases hsh : s ≤ hh
            · have hsd : decide (s ≤ hh) = true := decide_eq_true hsh
              obtain rfl := HI.out.2 hsh
              go_wp2_with fail
              go_quiet (fail)
              go_wp2_with fail
              go_roundw
              case rel => exact ⟨b + 1, by omega, by go_num, below_drewN hbel _⟩
              case measure => simp [intOf]; omega
            · have hsd : decide (s ≤ hh) = false := decide_eq_false hsh
              have hxy : (x == y) = false := beq_eq_false_iff_ne.2 fun e => hsh (HI.out.1 e)
              go_wp2_with fail
              go_quiet (fail)
              go_wp2_with fail
              go_roundw
              case rel => exact ⟨b + 1, by omega, by go_num, below_drewN hbel _⟩
              case measure => simp [intOf]; omega
          · obtain rfl : b = xss.length := by omega
            obtain ⟨u, hu1, hu2, hu3, hu4⟩ := HSELF.out a hal
            obtain ⟨go, oo, rfl, hgo, hcl⟩ := hro5 (by omega)
            have ca : wb.cell? ⟨go, oo + a, none⟩ = some (.int .i64 u) := ((hbel.cell (p := ⟨go, oo + a, none⟩) hgo).trans (hcl a hal)).trans (by rw [show atL ys a = u from hu1])
            have cu : wb.cell? ⟨go, oo + u, none⟩ = some (.int .i64 u) := ((hbel.cell (p := ⟨go, oo + u, none⟩) hgo).trans (hcl u hu2)).trans (by rw [show atL ys u = u from hu4])
            have ia : (a : Int) < (xss.length : Int) := by omega
            have iu : (u : Int) < (xss.length : Int) := by omega
            have hua : decide ((a : Int) < (u : Int)) = false := decide_eq_false (by omega)
            have hnl : ¬ (xss.length : Int) < (xss.length : Int) := by omega
            clear hcl hro5 hu1 hu4
            go_wp2_with fail
            go_quiet (fail)
            go_wp2_with fail
            go_roundw
            case rel => exact ⟨a + 1, by omega, by go_num, below_drewN hbel _⟩
            case measure => simp [intOf]; omega
      · obtain rfl : a = xss.length := by omega
        go_wp2_with fail
        go_ret
        exact ⟨rfl, hbw5.trans (hbel.mono hbw5.size)⟩
  · have hnil : ys = [] := by have := HGO.out; unfold IsG at this; rwa [if_neg hv] at this
    subst hnil
    have HNIL := hide HGO.out
    clear hv HGO
    go_wp2_with fail
    refine (PS.out _ _ hM4).mono ?_
    rintro e w5 ⟨vs2, zs, rfl, hss2, hgs2, hb5⟩
    obtain rfl := HNIL.out.unique hgs2
    have hbw5 := hbw4.trans (hb5.mono hbw4.size)
    go_wp2_with fail
    refine (equalInts_c _ _ [] [] true _ (hro4.below hb5) hss2.rd (by simp)).mono ?_
    rintro e w6 ⟨rfl, hb6⟩
    go_wp2_with fail
    go_ret
    exact ⟨rfl, hbw5.trans (hb6.mono hbw5.size)⟩
end Go.Proofs.Ytncglgkpgbhejaa
