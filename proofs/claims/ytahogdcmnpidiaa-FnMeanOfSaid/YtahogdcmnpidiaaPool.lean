/-
  The blocks of numbers with weights: one stack of first indices, in the program and in its reference.
-/
import Derived.Test.YtahogdcmnpidiaaLoads
namespace Go.Proofs.Ytahogdcmnpidiaa
open Go.RowKit

/-- Blocks (the last one first) joined as long as the one ahead of the last is not less. -/
def popS (xs ws : List Int) (k : Nat) : List Nat → List Nat
  | b :: a :: r => if meanR xs ws a (b - a) < meanR xs ws b (k + 1 - b) then b :: a :: r else popS xs ws k (a :: r)
  | s => s
def poolR (xs ws : List Int) : Nat → List Nat
  | 0 => []
  | k + 1 => popS xs ws k (k :: poolR xs ws k)
theorem popS_two (xs ws : List Int) (k b a : Nat) (r : List Nat) : popS xs ws k (b :: a :: r) = if meanR xs ws a (b - a) < meanR xs ws b (k + 1 - b) then b :: a :: r else popS xs ws k (a :: r) := by rw [popS]
theorem popS_one (xs ws : List Int) (k b : Nat) : popS xs ws k [b] = [b] := by rw [popS]; intro _ _ _ h; cases h
theorem popS_mem (xs ws : List Int) (k : Nat) : ∀ s : List Nat, (∀ x ∈ popS xs ws k s, x ∈ s) ∧ (s.Pairwise (· > ·) → (popS xs ws k s).Pairwise (· > ·))
  | [] => by rw [popS]; · exact ⟨fun _ h => h, fun h => h⟩
             · intro _ _ _ h; cases h
  | [b] => by rw [popS_one]; exact ⟨fun _ h => h, fun h => h⟩
  | b :: a :: r => by
    rw [popS_two]
    obtain ⟨h1, h2⟩ := popS_mem xs ws k (a :: r)
    split
    · exact ⟨fun _ h => h, fun h => h⟩
    · exact ⟨fun x hx => List.mem_cons_of_mem _ (h1 x hx), fun h => h2 (List.Pairwise.of_cons h)⟩
theorem poolR_dec (xs ws : List Int) : ∀ k, (poolR xs ws k).Pairwise (· > ·) ∧ ∀ x ∈ poolR xs ws k, x < k
  | 0 => ⟨List.Pairwise.nil, fun _ h => by cases h⟩
  | k + 1 => by
    obtain ⟨h1, h2⟩ := poolR_dec xs ws k
    obtain ⟨h3, h4⟩ := popS_mem xs ws k (k :: poolR xs ws k)
    refine ⟨h4 (List.pairwise_cons.2 ⟨h2, h1⟩), fun x hx => ?_⟩
    rcases List.mem_cons.1 (h3 x hx) with rfl | h
    · omega
    · have := h2 x h; omega
def ints' (l : List Nat) : List Int := l.map fun (n : Nat) => (n : Int)
theorem ints_len (l : List Nat) : (ints' l).length = l.length := by simp [ints']
theorem ints_push (s : List Nat) (k : Nat) : ints' s.reverse ++ [(k : Int)] = ints' (k :: s).reverse := by simp [ints']
theorem ints_two (b a : Nat) (r : List Nat) : (ints' (b :: a :: r).reverse).length = r.length + 2 ∧ atL (ints' (b :: a :: r).reverse) (r.length + 1) = b ∧ atL (ints' (b :: a :: r).reverse) r.length = a ∧ (ints' (b :: a :: r).reverse).take (r.length + 1) = ints' (a :: r).reverse := by
  refine ⟨by simp [ints'], ?_, ?_, ?_⟩
  · simp [ints', atL, List.getD, List.getElem?_append]
  · simp [ints', atL, List.getD, List.getElem?_append]
  · have e : ints' (b :: a :: r).reverse = ints' (a :: r).reverse ++ [(b : Int)] := by simp [ints']
    rw [e, List.take_append_of_le_length (by simp [ints'])]
    exact List.take_of_length_le (by simp [ints'])
theorem Own.front {w : World} {B e g n c m : Nat} {xs : List Int} (h : Own w B e (.slice (some ⟨g, 0, none⟩) n c) xs) (hm : m ≤ n) : Own w B e (.slice (some ⟨g, 0, none⟩) m c) (xs.take m) := by
  obtain ⟨hl, h0 | ⟨g', cap, cur, hv, hB, hg, hn, hc, hs, ht⟩⟩ := id h
  · simp at h0
  · simp only [Value.slice.injEq, Option.some.injEq, Addr.mk.injEq, and_true] at hv
    obtain ⟨rfl, hnl, rfl⟩ := hv
    subst hnl
    have hl' : (xs.take m).length = m := by simp; omega
    refine ⟨by simp, .inr ⟨g, c, cur, by rw [hl'], hB, hg, by rw [hl']; omega, hc, hs, ?_⟩⟩
    rw [hl', Nat.mul_one, List.map_take, ← ht, List.take_take, Nat.mul_one]
    congr 1
    omega
theorem Own.at {w : World} {B e g n c : Nat} {xs : List Int} (h : Own w B e (.slice (some ⟨g, 0, none⟩) n c) xs) {j : Nat} (hj : j < xs.length) : w.cell? ⟨g, j, none⟩ = some (.int .i64 (atL xs j)) := h.cell hj
theorem Own.form {w : World} {B e : Nat} {v : Value} {xs : List Int} (h : Own w B e v xs) (h0 : 0 < xs.length) : ∃ g c, v = .slice (some ⟨g, 0, none⟩) xs.length c ∧ B ≤ g ∧ g < w.heap.size ∧ xs.length ≤ c ∧ c ≤ 9223372036854775807 := by
  obtain ⟨A, c, rfl, h2, h3, h4⟩ := h.sl
  obtain ⟨hl, h5 | ⟨g', cap, cur, hv, hB, hg, hn, hc, hs, ht⟩⟩ := id h
  · omega
  · simp only [Value.slice.injEq] at hv
    obtain ⟨rfl, _, rfl⟩ := hv
    exact ⟨g', c, rfl, hB, (Array.getElem?_eq_some_iff.1 hg).1, h2, h3⟩

/-- The store into a new pair of cells. -/
theorem put_pair {w w3 : World} {nb : Nat} {x y u v : Value} {T : TypeId} (hb3 : Below w.heap.size w w3) (hnb : w.heap.size ≤ nb) (hob : w3.heap[nb]? = some (.cells #[u, v] T)) :
    (w3.cell? ⟨nb, 0, none⟩ = some u ∧ w3.cell? ⟨nb, 1, none⟩ = some v ∧ w3.frozen? ⟨nb, 0, none⟩ = false ∧ w3.frozen? ⟨nb, 1, none⟩ = false) ∧
    ∃ Z, (w3.setCell ⟨nb, 0, none⟩ x).setCell ⟨nb, 1, none⟩ y = Z ∧ Below w.heap.size w Z ∧ Z.cell? ⟨nb, 0, none⟩ = some x ∧ Z.cell? ⟨nb, 1, none⟩ = some y ∧ nb < Z.heap.size := by
  have q1 : w3.cell? ⟨nb, 0, none⟩ = some u := by simp [World.cell?, hob]
  have q2 : w3.cell? ⟨nb, 1, none⟩ = some v := by simp [World.cell?, hob]
  refine ⟨⟨q1, q2, by simp [World.frozen?, hob], by simp [World.frozen?, hob]⟩, _, rfl, (hb3.setCell hnb _).setCell hnb _, ?_, ?_, ?_⟩
  · rw [World.cell?_setCell_other _ _ _ _ (by simp)]
    exact World.cell?_setCell_same _ _ _ q1
  · exact World.cell?_setCell_same _ _ _ (by rw [World.cell?_setCell_other _ _ _ _ (by simp)]; exact q2)
  · have := (Array.getElem?_eq_some_iff.1 hob).1
    simpa [World.setCell] using this

set_option maxHeartbeats 8000000 in
theorem pool_c (u v : Value) (xs ws : List Int) (w : World) (hx : Rd w u xs) (hy : Rd w v ws) (hok : okLoads xs ws = true) :
    Calls Try.prog 76 #[u, v] w fun e w' => ∃ v', e = .returned v' ∧ Sl w' w.heap.size v' (ints' (poolR xs ws xs.length).reverse) ∧ Below w.heap.size w w' := by
  obtain ⟨l1, l8, hl, hxs, hws⟩ := okLoads_all hok
  have KM := hide fun (i n : Nat) (K : Int) (w : World) (hx : Rd w u xs) (hy : Rd w v ws) (hn : 1 ≤ n) (hin : i + n ≤ xs.length) (hK : K = (i : Int) + n - 1) => meanS_c u v xs ws i n K w hx hy hxs hws hn (by omega) hin (by omega) (by omega) hK
  have SM := hide fun (i n : Nat) (hn : 1 ≤ n) (hin : i + n ≤ xs.length) => mean_sm hxs hws (i := i) (n := n) hn (by omega) hin (by omega)
  have KL := hide fun (p q : Rat) (w : World) (hp : Sm p) (hq : Sm q) => lessS_c p q w hp hq
  obtain ⟨A, c, rfl, hc, hm, _⟩ := id hx
  obtain ⟨A2, c2, rfl, hc2, hm2, _⟩ := id hy
  clear hl hok hxs hws
  go_enter Try.func76, Try.ntmps76
  go_wp2_with fail
  go_loopw [5, 6] (fun st i wr => ∃ (k : Nat), k ≤ xs.length ∧ i = .int .i64 k ∧ Own wr w.heap.size 3 st (ints' (poolR xs ws k).reverse) ∧ Below w.heap.size w wr) (fun _ i _ => xs.length - (intOf i).toNat)
  case atStart => exact ⟨0, by omega, rfl, lit_own [] rfl rfl rfl (by simp) (Nat.le_refl _), by (repeat (first | exact Below.refl _ _ | assumption | refine Below.setCell ?_ (by first | (simp; done) | omega | (simp; omega) | (simp at *; omega)) _ | refine Below.drew ?_ | refine below_drewN ?_ _ | refine below_alloc' ?_ _ | refine below_to' ?_ (by assumption)))⟩
  case round =>
    obtain ⟨k, hk, rfl, hown, hbel⟩ := hrel
    by_cases hlt : k < xs.length
    · obtain ⟨hd1, hd2⟩ := poolR_dec xs ws k
      have hlen : (poolR xs ws k).length ≤ k := by
        have : ∀ (s : List Nat) (m : Nat), s.Pairwise (· > ·) → (∀ x ∈ s, x < m) → s.length ≤ m := fun s => by
          induction s with
          | nil => intro m _ _; simp
          | cons y s ih =>
            intro m h1 h2
            rw [List.pairwise_cons] at h1
            have := ih y h1.2 h1.1
            have := h2 y List.mem_cons_self
            simp
            omega
        exact this _ _ hd1 hd2
      have hszw := hbel.size
      have HP : Hid (poolR xs ws (k + 1) = popS xs ws k (k :: poolR xs ws k)) := rfl
      have HD : Hid ((k :: poolR xs ws k).Pairwise (· > ·) ∧ ∀ x ∈ k :: poolR xs ws k, x ≤ k) := ⟨List.pairwise_cons.2 ⟨hd2, hd1⟩, fun x hx => by
        rcases List.mem_cons.1 hx with rfl | h
        · exact Nat.le_refl _
        · have := hd2 x h; omega⟩
      have HPU := hide (ints_push (poolR xs ws k) k)
      have hilen : (ints' (poolR xs ws k).reverse).length ≤ 1000 := by rw [ints_len]; simp; omega
      obtain ⟨L, hL⟩ : ∃ L, ints' (poolR xs ws k).reverse = L := ⟨_, rfl⟩
      rw [hL] at hown hilen HPU
      obtain ⟨PR, hPR⟩ : ∃ L, poolR xs ws k = L := ⟨_, rfl⟩
      rw [hPR] at HP HD HPU hlen
      clear hd1 hd2 hL hPR
      obtain ⟨Av, cv, rfl, _, _, _⟩ := hown.sl
      go_wp2_with (at_builtin; refine wpList_push_int _ rfl (.tmp 17) (.tmp 19) rfl ints w.heap.size _ L k _ 1 rfl rfl hown (by omega) (by omega) ?_; intro v2 w2 hown2 hb2 hg2 hat2 hk2 hlt2)
      rw [HPU.out] at hown2
      have hbel2 := hbel.trans hb2
      clear hown HPU hb2 hg2 hat2 hk2
      go_loopg [5] (k + 2) (fun gk st wr => ∃ (s : List Nat), Own wr w.heap.size 3 st (ints' s.reverse) ∧ Hid (s ≠ [] ∧ s.Pairwise (· > ·) ∧ (∀ x ∈ s, x ≤ k) ∧ popS xs ws k s = poolR xs ws (k + 1) ∧ s.length < gk) ∧ Below w.heap.size w wr)
      case atStart => exact ⟨_, hown2, ⟨by simp, HD.out.1, HD.out.2, HP.out.symm, by simp; omega⟩, hbel2⟩
      case round =>
        obtain ⟨s, hown, hs, hbel⟩ := hrel
        match s, hs, hown with
        | [], hs, _ => exact absurd rfl hs.out.1
        | [b], hs, hown =>
          have HF : Hid (poolR xs ws (k + 1) = [b]) := by show _ = _; rw [← hs.out.2.2.2.1, popS_one]
          have h1 : (ints' [b].reverse).length = 1 := by simp [ints']
          obtain ⟨g, cg, rfl, _⟩ := hown.form (by omega)
          rw [h1] at hown ⊢
          go_wp2_with fail
          go_roundw
          case rel => exact ⟨k + 1, by omega, by go_num, by rw [HF.out]; exact hown, hbel⟩
          case measure => simp [intOf]; omega
        | b :: a :: r, hs, hown =>
          obtain ⟨f1, f2, f3, f4⟩ := ints_two b a r
          have F4 := hide f4
          have hab : a < b ∧ b ≤ k := by
            have h1 := hs.out.2.1
            rw [List.pairwise_cons] at h1
            exact ⟨h1.1 a List.mem_cons_self, hs.out.2.2.1 b List.mem_cons_self⟩
          obtain ⟨hab1, hab2⟩ := hab
          have hrl : r.length + 2 < gk := hs.out.2.2.2.2
          obtain ⟨g, cg, rfl, hgB, hgl, hgc, hgm⟩ := hown.form (by omega)
          have c1 : wr.cell? ⟨g, r.length, none⟩ = some (.int .i64 a) := by rw [← f3]; exact hown.at (by omega)
          have c2' : wr.cell? ⟨g, r.length + 1, none⟩ = some (.int .i64 b) := by rw [← f2]; exact hown.at (by omega)
          have hrk : r.length + 2 ≤ 100 := by
            have := hs.out.2.1
            have hle : ∀ (s : List Nat) (m : Nat), s.Pairwise (· > ·) → (∀ x ∈ s, x ≤ m) → s.length ≤ m + 1 := fun s => by
              induction s with
              | nil => intro m _ _; simp
              | cons y s ih =>
                intro m h1 h2
                rw [List.pairwise_cons] at h1
                have := h2 y List.mem_cons_self
                cases s with
                | nil => simp
                | cons z t =>
                  have hz := h1.1 z List.mem_cons_self
                  have := ih (y - 1) h1.2 (fun x hx => by have := h1.1 x hx; omega)
                  simp at this ⊢
                  omega
            have := hle _ _ hs.out.2.1 hs.out.2.2.1
            simp at this
            omega
          rw [f1] at hown hgc ⊢
          clear f1 f2 f3 f4
          have hxr := hx.below hbel
          have hyr := hy.below hbel
          have F1 := hide fun w (h1 : Rd w _ xs) (h2 : Rd w _ ws) => KM.out a (b - a) ((b : Int) - 1) w h1 h2 (by omega) (by omega) (by omega)
          have F2 := hide fun w (h1 : Rd w _ xs) (h2 : Rd w _ ws) => KM.out b (k + 1 - b) (k : Int) w h1 h2 (by omega) (by omega) (by omega)
          have s1 := SM.out a (b - a) (by omega) (by omega)
          have s2 := SM.out b (k + 1 - b) (by omega) (by omega)
          have F3 := hide fun w => KL.out (meanR xs ws a (b - a)) (meanR xs ws b (k + 1 - b)) w s1 s2
          have HT := hide (popS_two xs ws k b a r)
          obtain ⟨p, hp⟩ : ∃ p, meanR xs ws a (b - a) = p := ⟨_, rfl⟩
          obtain ⟨q, hq⟩ : ∃ p, meanR xs ws b (k + 1 - b) = p := ⟨_, rfl⟩
          rw [hp] at F1 F3 HT
          rw [hq] at F2 F3 HT
          obtain ⟨N, hN⟩ : ∃ N, r.length + 2 = N := ⟨_, rfl⟩
          have hN1 : r.length = N - 2 := by omega
          have hN2 : r.length + 1 = N - 1 := by omega
          rw [hN] at hown hgc hrk hrl ⊢
          rw [hN1] at c1
          rw [hN2] at c2' F4
          have hN3 : 2 ≤ N := by omega
          clear hN hN1 hN2
          have e1 : IntKind.i64.wrap ((N : Int) - 2) = (N : Int) - 2 := IntWalk.i64_in _ (by omega)
          have e2 : IntKind.i64.wrap ((N : Int) - 1) = (N : Int) - 1 := IntWalk.i64_in _ (by omega)
          have e3 : IntKind.i64.wrap ((b : Int) - 1) = (b : Int) - 1 := IntWalk.i64_in _ (by omega)
          have hgt : (1 : Int) < (N : Int) := by omega
          have i1 : (0 : Int) ≤ (N : Int) - 2 := by omega
          have i2 : (0 : Int) ≤ (N : Int) - 1 := by omega
          have i3 : (N : Int) - 2 < (N : Int) := by omega
          have i4 : (N : Int) - 1 < (N : Int) := by omega
          have t1 : ((N : Int) - 2).toNat = N - 2 := by omega
          have t2 : ((N : Int) - 1).toNat = N - 1 := by omega
          have hc1 := hide c1
          have hc2 := hide c2'
          clear hp hq s1 s2
          clear c1 c2'
          go_wp2_with fail
          refine wp_region_free_ex 14 8 (.cells #[.int .i64 0, .int .i64 0] 31) (by kernel_rfl) (by kernel_rfl) (by kernel_rfl) (fun oa hoa => by cases hoa; exact ⟨rfl, fun ρ w => by simp [execOp, go_sem]⟩) ?_
          apply Exists.intro
          refine ⟨fun z hz => ?_, ?_⟩
          · have k1 := cell_grn hz hgl hc1.out
            have k2 := cell_grn hz hgl hc2.out
            have hxz := hxr.below hz
            have hyz := hyr.below hz
            simp only [List.take_succ_cons, List.take_zero]
            repeat (go_big_quiet_step ((go_at_call 46; with_reducible exact calls_grn' (fun w hw => F1.out _ (hxz.below hw) (hyz.below hw)))))
            exact wpQuiet_nil rfl
          intro nb w3 hb3 hnb hob
          obtain ⟨⟨q1, q2, q3, q4⟩, Z, hZ, hbZ, z1, z2, zs⟩ := put_pair (x := .int .i64 p.num) (y := .int .i64 (p.den : Int)) hb3 hnb hob
          have hownZ := hown.below hbZ
          have c2Z : Z.cell? ⟨g, N - 1, none⟩ = some (.int .i64 b) := (hbZ.cell hgl).trans hc2.out
          simp only [List.drop_succ_cons, List.drop_zero, Act.put]
          go_wp2_with fail
          clear hZ q1 q2 q3 q4
          refine (F2.out _ (hxr.below hbZ) (hyr.below hbZ)).mono ?_
          rintro e w4 ⟨rfl, hb4⟩
          obtain ⟨V, hV, hbV, v1, v2', v3, v4⟩ : ∃ V, w4.alloc (.cells #[.int .i64 q.num, .int .i64 (q.den : Int)] 31) = V ∧ Below Z.heap.size Z V ∧ V.cell? ⟨nb, 0, none⟩ = some (.int .i64 p.num) ∧ V.cell? ⟨nb, 1, none⟩ = some (.int .i64 (p.den : Int)) ∧ V.cell? ⟨w4.heap.size, 0, none⟩ = some (.int .i64 q.num) ∧ V.cell? ⟨w4.heap.size, 1, none⟩ = some (.int .i64 (q.den : Int)) := by
            have hbx : Below Z.heap.size Z (w4.alloc (.cells #[.int .i64 q.num, .int .i64 (q.den : Int)] 31)) := below_alloc' hb4 _
            exact ⟨_, rfl, hbx, (hbx.cell zs).trans z1, (hbx.cell zs).trans z2, by simp [go_sem], by simp [go_sem]⟩
          clear c2Z e3
          go_wp2_with fail
          clear hV
          refine (F3.out _).mono ?_
          rintro e w5 ⟨rfl, hb5⟩
          have hb35 : Below wr.heap.size wr w5 := hbZ.trans ((hbV.trans (hb5.mono hbV.size)).mono hbZ.size)
          have hown5 := hown.below hb35
          have hbel5 := hbel.trans (hb35.mono hbel.size)
          by_cases hpq : p < q
          · have hdp : decide (p < q) = true := decide_eq_true hpq
            have HF : Hid (poolR xs ws (k + 1) = b :: a :: r) := by show _ = _; rw [← hs.out.2.2.2.1, HT.out, if_pos hpq]
            clear hpq e1 e2
            go_wp2_with fail
            go_roundw
            case rel => exact ⟨k + 1, by omega, by go_num, by rw [HF.out]; exact hown5, hbel5⟩
            case measure => simp [intOf]; omega
          · have hdp : decide (p < q) = false := decide_eq_false hpq
            have HF : Hid (popS xs ws k (a :: r) = poolR xs ws (k + 1)) := by show _ = _; rw [← hs.out.2.2.2.1, HT.out, if_neg hpq]
            have hfr := hown5.front (m := N - 1) (by omega)
            rw [F4.out] at hfr
            have HFR := hide hfr
            clear hpq hfr hown hownZ hown5
            go_wp2_with fail
            go_roundg (gk - 1)
            case measure => have := hs.out.2.2.2.2; simp at this; omega
            case rel => exact ⟨a :: r, HFR.out, ⟨by simp, List.Pairwise.of_cons hs.out.2.1, fun x hx => hs.out.2.2.1 x (List.mem_cons_of_mem _ hx), HF.out, by have := hs.out.2.2.2.2; simp at this ⊢; omega⟩, hbel5⟩
    · obtain rfl : k = xs.length := by omega
      go_wp2_with fail
      go_ret
      exact ⟨_, rfl, hown.sl, hbel⟩
end Go.Proofs.Ytahogdcmnpidiaa
