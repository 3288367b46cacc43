/-
  The blocks of numbers with weights, in the program; BlocksOf of both.
-/
import Derived.Test.YtahogdcmnpidiaaPool
namespace Go.Proofs.Ytahogdcmnpidiaa
open Go.RowKit

set_option maxHeartbeats 400000 in
theorem clip_c (v : Value) (xs : List Int) (B : Nat) (w : World) (hr : Sl w B v xs) :
    Calls Try.prog 94 #[v] w fun e w' => w = w' ∧ ∃ v', e = .returned v' ∧ Sl w B v' xs := by
  obtain ⟨A, c, rfl, hc, hm, hcell⟩ := hr
  go_enter Try.func94, Try.ntmps94
  go_wp2
  go_ret
  exact ⟨rfl, _, rfl, A, xs.length, rfl, Nat.le_refl _, by omega, hcell⟩
theorem dec_len {s : List Nat} {m : Nat} (h1 : s.Pairwise (· > ·)) (h2 : ∀ x ∈ s, x ≤ m) : s.length ≤ m + 1 := by
  induction s generalizing m with
  | nil => simp
  | cons y s ih =>
    rw [List.pairwise_cons] at h1
    have := h2 y List.mem_cons_self
    cases s with
    | nil => simp
    | cons z t =>
      have hz := h1.1 z List.mem_cons_self
      have := ih (m := y - 1) h1.2 (fun x hx => by have := h1.1 x hx; omega)
      simp at this ⊢
      omega

set_option maxHeartbeats 8000000 in
theorem blocks_c (u v : Value) (xs ws : List Int) (w : World) (hx : Rd w u xs) (hy : Rd w v ws) (hok : okLoads xs ws = true) :
    Calls Try.prog 77 #[u, v] w fun e w' => ∃ v', e = .returned v' ∧ Sl w' w.heap.size v' (ints' (poolR xs ws xs.length).reverse) ∧ Below w.heap.size w w' := by
  obtain ⟨l1, l8, hl, hxs, hws⟩ := okLoads_all hok
  have KM := hide fun (i n : Nat) (K : Int) (w : World) (hx : Rd w u xs) (hy : Rd w v ws) (hn : 1 ≤ n) (hin : i + n ≤ xs.length) (hK : K = (i : Int) + n - 1) => meanI_c u v xs ws i n K w hx hy hxs hws hn (by omega) hin (by omega) (by omega) hK
  have SM := hide fun (i n : Nat) (hn : 1 ≤ n) (hin : i + n ≤ xs.length) => mean_sm hxs hws (i := i) (n := n) hn (by omega) hin (by omega)
  have KL := hide fun (p q : Rat) (w : World) (hp : Sm p) (hq : Sm q) => lessI_c p q w hp hq
  obtain ⟨A, c, rfl, hc, hm, _⟩ := id hx
  obtain ⟨A2, c2, rfl, hc2, hm2, _⟩ := id hy
  clear hl hok hxs hws
  go_enter Try.func77, Try.ntmps77
  go_wp2_with fail
  go_loopw [5, 10] (fun st i wr => ∃ (k : Nat), k ≤ xs.length ∧ i = .int .i64 k ∧ Own wr w.heap.size 3 st (ints' (poolR xs ws k).reverse) ∧ Below w.heap.size w wr) (fun _ i _ => xs.length - (intOf i).toNat)
  case atStart => exact ⟨0, by omega, rfl, Own.nil _ _ _, Below.refl _ _⟩
  case round =>
    obtain ⟨k, hk, rfl, hown, hbel⟩ := hrel
    by_cases hlt : k < xs.length
    · obtain ⟨hd1, hd2⟩ := poolR_dec xs ws k
      have hlen : (poolR xs ws k).length ≤ k + 1 := dec_len hd1 fun x hx => by have := hd2 x hx; omega
      have hszw := hbel.size
      have HP : Hid (poolR xs ws (k + 1) = popS xs ws k (k :: poolR xs ws k)) := rfl
      have HD : Hid ((k :: poolR xs ws k).Pairwise (· > ·) ∧ ∀ x ∈ k :: poolR xs ws k, x ≤ k) := ⟨List.pairwise_cons.2 ⟨hd2, hd1⟩, fun x hx => by
        rcases List.mem_cons.1 hx with rfl | h
        · exact Nat.le_refl _
        · have := hd2 x h; omega⟩
      have HPU := hide (ints_push (poolR xs ws k) k)
      have hilen : (ints' (poolR xs ws k).reverse).length ≤ 1000 := by rw [ints_len]; simp; omega
      obtain ⟨L, hL⟩ : ∃ L, ints' (poolR xs ws k).reverse = L := ⟨_, rfl⟩
      rw [hL] at hown hilen HPU
      obtain ⟨PR, hPR⟩ : ∃ L, poolR xs ws k = L := ⟨_, rfl⟩
      rw [hPR] at HP HD HPU hlen
      obtain ⟨L2, hL2⟩ : ∃ L, ints' (k :: PR).reverse = L := ⟨_, rfl⟩
      have HL2 := hide hL2
      have HLL : Hid (((k :: PR).length : Int) = (L2.length : Int)) := by show _ = _; rw [← hL2, ints_len]; simp
      have hL2p : 0 < L2.length := by rw [← hL2, ints_len]; simp
      rw [hL2] at HPU
      clear hd1 hd2 hL hPR hL2
      obtain ⟨Av, cv, rfl, _, _, _⟩ := hown.sl
      go_wp2_with (at_builtin; refine wpList_push_int _ rfl (.tmp 13) (.tmp 15) rfl ints w.heap.size _ L k _ 1 rfl rfl hown (by omega) (by omega) ?_; intro v2 w2 hown2 hb2 hg2 hat2 hk2 hlt2; rw [HPU.out] at hown2; obtain ⟨gz, cz, rfl, _⟩ := hown2.form hL2p)
      have hbel2 := hbel.trans hb2
      clear hown HPU hb2 hg2 hat2 hk2
      go_loopg [5, 7] (k + 3) (fun gk st n wr => ∃ (s : List Nat), n = .int .i64 s.length ∧ Own wr w.heap.size 3 st (ints' s.reverse) ∧ Hid (s ≠ [] ∧ s.Pairwise (· > ·) ∧ (∀ x ∈ s, x ≤ k) ∧ popS xs ws k s = poolR xs ws (k + 1) ∧ s.length < gk) ∧ Below w.heap.size w wr)
      case atStart => exact ⟨k :: PR, by rw [HLL.out], by rw [HL2.out]; exact hown2, ⟨by simp, HD.out.1, HD.out.2, HP.out.symm, by simp; omega⟩, hbel2⟩
      case round =>
        obtain ⟨s, rfl, hown, hs, hbel⟩ := hrel
        match s, hs, hown with
        | [], hs, _ => exact absurd rfl hs.out.1
        | [b], hs, hown =>
          have HF : Hid (poolR xs ws (k + 1) = [b]) := by show _ = _; rw [← hs.out.2.2.2.1, popS_one]
          have h1 : (ints' [b].reverse).length = 1 := by simp [ints']
          obtain ⟨g, cg, rfl, _⟩ := hown.form (by omega)
          rw [h1] at hown ⊢
          go_wp2_with fail
          go_quiet (fail)
          go_wp2_with fail
          go_roundw
          case rel => exact ⟨k + 1, by omega, by go_num, by rw [HF.out]; exact hown.drewN _, below_drewN hbel _⟩
          case measure => simp [intOf]; omega
        | b :: a :: r, hs, hown =>
          obtain ⟨f1, f2, f3, f4⟩ := ints_two b a r
          have F4 := hide f4
          have hab : a < b ∧ b ≤ k := by
            have h1 := hs.out.2.1
            rw [List.pairwise_cons] at h1
            exact ⟨h1.1 a List.mem_cons_self, hs.out.2.2.1 b List.mem_cons_self⟩
          obtain ⟨hab1, hab2⟩ := hab
          have hrl : r.length + 2 < gk := hs.out.2.2.2.2
          obtain ⟨g, cg, rfl, hgB, hgl, hgc, hgm⟩ := hown.form (by omega)
          have c1 : wr.cell? ⟨g, r.length, none⟩ = some (.int .i64 a) := by rw [← f3]; exact hown.at (by omega)
          have c2' : wr.cell? ⟨g, r.length + 1, none⟩ = some (.int .i64 b) := by rw [← f2]; exact hown.at (by omega)
          have hrk : r.length + 2 ≤ 100 := by
            have := dec_len hs.out.2.1 hs.out.2.2.1
            simp at this
            omega
          rw [f1] at hown hgc ⊢
          have hsl : (b :: a :: r).length = r.length + 2 := by simp
          rw [hsl]
          clear f1 f2 f3 f4 hsl
          have hxr := hx.below hbel
          have hyr := hy.below hbel
          have F1 := hide fun w (h1 : Rd w _ xs) (h2 : Rd w _ ws) => KM.out a (b - a) ((b : Int) - 1) w h1 h2 (by omega) (by omega) (by omega)
          have F2 := hide fun w (h1 : Rd w _ xs) (h2 : Rd w _ ws) => KM.out b (k + 1 - b) (k : Int) w h1 h2 (by omega) (by omega) (by omega)
          have s1 := SM.out a (b - a) (by omega) (by omega)
          have s2 := SM.out b (k + 1 - b) (by omega) (by omega)
          have F3 := hide fun w => KL.out (meanR xs ws a (b - a)) (meanR xs ws b (k + 1 - b)) w s1 s2
          have HT := hide (popS_two xs ws k b a r)
          obtain ⟨p, hp⟩ : ∃ p, meanR xs ws a (b - a) = p := ⟨_, rfl⟩
          obtain ⟨q, hq⟩ : ∃ p, meanR xs ws b (k + 1 - b) = p := ⟨_, rfl⟩
          rw [hp] at F1 F3 HT
          rw [hq] at F2 F3 HT
          obtain ⟨N, hN⟩ : ∃ N, r.length + 2 = N := ⟨_, rfl⟩
          have hN1 : r.length = N - 2 := by omega
          have hN2 : r.length + 1 = N - 1 := by omega
          have HN := hide hN
          rw [hN] at hown hgc hrk hrl ⊢
          rw [hN1] at c1
          rw [hN2] at c2' F4
          have hN3 : 2 ≤ N := by omega
          clear hN hN1 hN2
          have hgt : (1 : Int) < (N : Int) := by omega
          have hgd : decide ((1 : Int) < (N : Int)) = true := decide_eq_true hgt
          have i1 : (0 : Int) ≤ (N : Int) - 2 := by omega
          have i2 : (0 : Int) ≤ (N : Int) - 1 := by omega
          have i3 : (N : Int) - 2 < (N : Int) := by omega
          have i4 : (N : Int) - 1 < (N : Int) := by omega
          have t1 : ((N : Int) - 2).toNat = N - 2 := by omega
          have t2 : ((N : Int) - 1).toNat = N - 1 := by omega
          have hnc : N - 1 ≤ cg := by omega
          have e1 : IntKind.i64.wrap ((N : Int) - 2) = (N : Int) - 2 := IntWalk.i64_in _ (by omega)
          have e2 : IntKind.i64.wrap ((N : Int) - 1) = (N : Int) - 1 := IntWalk.i64_in _ (by omega)
          have e3 : IntKind.i64.wrap ((b : Int) - 1) = (b : Int) - 1 := IntWalk.i64_in _ (by omega)
          have k1 := cell_grn (Below.refl wr.heap.size wr) hgl c1
          have k2 := cell_grn (Below.refl wr.heap.size wr) hgl c2'
          by_cases hpq : p < q
          · have hdp : decide (p < q) = true := decide_eq_true hpq
            have HF : Hid (poolR xs ws (k + 1) = b :: a :: r) := by show _ = _; rw [← hs.out.2.2.2.1, HT.out, if_pos hpq]
            rw [hdp] at F3
            clear hp hq s1 s2 c1 c2' hpq hdp
            go_wp2_with fail
            refine wp_region_below (by kernel_rfl) (by kernel_rfl) ?_
            repeat (go_big_quiet_step ((first
              | (go_at_call 49; with_reducible exact calls_grn' (fun w hw => F1.out _ (hxr.below hw) (hyr.below hw)))
              | (go_at_call 49; with_reducible exact calls_grn' (fun w hw => F2.out _ (hxr.below hw) (hyr.below hw)))
              | (go_at_call 50; with_reducible exact calls_grn F3.out))))
            refine wpQuiet_nil ?_
            intro w5 hb5
            have hown5 := hown.below hb5
            have hbel5 := hbel.trans (hb5.mono hbel.size)
            clear e1 e2 e3
            go_wp2_with fail
            go_roundw
            case rel => exact ⟨k + 1, by omega, by go_num, by rw [HF.out]; exact hown5, hbel5⟩
            case measure => simp [intOf]; omega
          · have hdp : decide (p < q) = false := decide_eq_false hpq
            have HF : Hid (popS xs ws k (a :: r) = poolR xs ws (k + 1)) := by show _ = _; rw [← hs.out.2.2.2.1, HT.out, if_neg hpq]
            rw [hdp] at F3
            clear hp hq s1 s2 c1 c2' hpq hdp
            go_wp2_with fail
            refine wp_region_below (by kernel_rfl) (by kernel_rfl) ?_
            repeat (go_big_quiet_step ((first
              | (go_at_call 49; with_reducible exact calls_grn' (fun w hw => F1.out _ (hxr.below hw) (hyr.below hw)))
              | (go_at_call 49; with_reducible exact calls_grn' (fun w hw => F2.out _ (hxr.below hw) (hyr.below hw)))
              | (go_at_call 50; with_reducible exact calls_grn F3.out))))
            refine wpQuiet_nil ?_
            intro w5 hb5
            have hown5 := hown.below hb5
            have hbel5 := hbel.trans (hb5.mono hbel.size)
            have hfr := hown5.front (m := N - 1) (by omega)
            rw [F4.out] at hfr
            have HFR := hide hfr
            have hN1 : ((N - 1 : Nat) : Int) = ((a :: r).length : Int) := by have := HN.out; simp; omega
            have HN1 := hide hN1
            clear e1 e3 hfr hown hown5 hN1
            go_wp2_with fail
            go_roundg (gk - 1)
            case measure => have := hs.out.2.2.2.2; simp at this; omega
            case rel => exact ⟨a :: r, by rw [HN1.out], HFR.out, ⟨by simp, List.Pairwise.of_cons hs.out.2.1, fun x hx => hs.out.2.2.1 x (List.mem_cons_of_mem _ hx), HF.out, by have := hs.out.2.2.2.2; simp at this ⊢; omega⟩, hbel5⟩
    · obtain rfl : k = xs.length := by omega
      have hsl := hown.sl
      go_wp2_with fail
      refine (clip_c _ _ _ _ hsl).mono ?_
      rintro e w2 ⟨rfl, v', rfl, hs'⟩
      go_wp2_with fail
      go_ret
      exact ⟨_, rfl, hs', hbel⟩

def blocksX (xs ws : List Int) : List Int := if okLoads xs ws then ints' (poolR xs ws xs.length).reverse else []
set_option maxHeartbeats 1000000 in
theorem BlocksS_c (u v : Value) (xs ws : List Int) (w : World) (hx : Rd w u xs) (hy : Rd w v ws) :
    Calls Try.prog 29 #[u, v] w fun e w' => ∃ v', e = .returned v' ∧ Sl w' w.heap.size v' (blocksX xs ws) ∧ Below w.heap.size w w' := by
  cases hok : okLoads xs ws
  · have HX : Hid (blocksX xs ws = []) := by show _ = _; simp [blocksX, hok]
    have K := hide fun w hx hy => validLoadsS_c u v xs ws false w hx hy hok
    clear hok
    go_enter Try.func29, Try.ntmps29
    go_wp2_with fail
    refine (K.out _ hx hy).mono ?_
    rintro e w1 ⟨rfl, rfl⟩
    go_wp2_with fail
    go_ret
    exact ⟨_, rfl, by rw [HX.out]; exact Sl.nil _ _, Below.refl w.heap.size w⟩
  · have HX : Hid (blocksX xs ws = ints' (poolR xs ws xs.length).reverse) := by show _ = _; simp [blocksX, hok]
    have K := hide fun w hx hy => validLoadsS_c u v xs ws true w hx hy hok
    have K2 := hide fun w hx hy => pool_c u v xs ws w hx hy hok
    clear hok
    go_enter Try.func29, Try.ntmps29
    go_wp2_with fail
    refine (K.out _ hx hy).mono ?_
    rintro e w1 ⟨rfl, rfl⟩
    go_wp2_with fail
    refine (K2.out _ (Rd.below hx (by (repeat (first | exact Below.refl _ _ | assumption | refine Below.setCell ?_ (by first | (simp; done) | omega | (simp; omega) | (simp at *; omega)) _ | refine Below.drew ?_ | refine below_drewN ?_ _ | refine below_alloc' ?_ _ | refine below_to' ?_ (by assumption))))) (Rd.below hy (by (repeat (first | exact Below.refl _ _ | assumption | refine Below.setCell ?_ (by first | (simp; done) | omega | (simp; omega) | (simp at *; omega)) _ | refine Below.drew ?_ | refine below_drewN ?_ _ | refine below_alloc' ?_ _ | refine below_to' ?_ (by assumption)))))).mono ?_
    rintro e w2 ⟨v2, rfl, hs2, hb2⟩
    go_wp2_with fail
    go_ret
    exact ⟨_, rfl, by rw [HX.out]; exact hs2.low (Below.refl w.heap.size w).size, by (repeat (first | exact Below.refl _ _ | assumption | refine Below.setCell ?_ (by first | (simp; done) | omega | (simp; omega) | (simp at *; omega)) _ | refine Below.drew ?_ | refine below_drewN ?_ _ | refine below_alloc' ?_ _ | refine below_to' ?_ (by assumption)))⟩
set_option maxHeartbeats 1000000 in
theorem BlocksI_c (u v : Value) (xs ws : List Int) (w : World) (hx : Rd w u xs) (hy : Rd w v ws) :
    Calls Try.prog 30 #[u, v] w fun e w' => ∃ v', e = .returned v' ∧ Sl w' w.heap.size v' (blocksX xs ws) ∧ Below w.heap.size w w' := by
  cases hok : okLoads xs ws
  · have HX : Hid (blocksX xs ws = []) := by show _ = _; simp [blocksX, hok]
    have K := hide fun w hx hy => ValidLoadsI_c u v xs ws false w hx hy hok
    clear hok
    go_enter Try.func30, Try.ntmps30
    go_wp2_with fail
    refine (K.out _ hx hy).mono ?_
    rintro e w1 ⟨rfl, hb1⟩
    go_wp2_with fail
    go_ret
    exact ⟨_, rfl, by rw [HX.out]; exact Sl.nil _ _, hb1⟩
  · have HX : Hid (blocksX xs ws = ints' (poolR xs ws xs.length).reverse) := by show _ = _; simp [blocksX, hok]
    have K := hide fun w hx hy => ValidLoadsI_c u v xs ws true w hx hy hok
    have K2 := hide fun w hx hy => blocks_c u v xs ws w hx hy hok
    clear hok
    go_enter Try.func30, Try.ntmps30
    go_wp2_with fail
    refine (K.out _ hx hy).mono ?_
    rintro e w1 ⟨rfl, hb1⟩
    go_wp2_with fail
    refine (K2.out _ (Rd.below hx (by (repeat (first | exact Below.refl _ _ | assumption | refine Below.setCell ?_ (by first | (simp; done) | omega | (simp; omega) | (simp at *; omega)) _ | refine Below.drew ?_ | refine below_drewN ?_ _ | refine below_alloc' ?_ _ | refine below_to' ?_ (by assumption))))) (Rd.below hy (by (repeat (first | exact Below.refl _ _ | assumption | refine Below.setCell ?_ (by first | (simp; done) | omega | (simp; omega) | (simp at *; omega)) _ | refine Below.drew ?_ | refine below_drewN ?_ _ | refine below_alloc' ?_ _ | refine below_to' ?_ (by assumption)))))).mono ?_
    rintro e w2 ⟨v2, rfl, hs2, hb2⟩
    go_wp2_with fail
    go_ret
    exact ⟨_, rfl, by rw [HX.out]; exact hs2.low (hb1).size, by (repeat (first | exact Below.refl _ _ | assumption | refine Below.setCell ?_ (by first | (simp; done) | omega | (simp; omega) | (simp at *; omega)) _ | refine Below.drew ?_ | refine below_drewN ?_ _ | refine below_alloc' ?_ _ | refine below_to' ?_ (by assumption)))⟩
end Go.Proofs.Ytahogdcmnpidiaa
