
/-
  The factors of the curve through points, in the program.
-/
import Derived.Test.YtgageljahebjnaaCurS
import Derived.Test.YtgageljahebjnaaCurV
import Derived.Test.YtgageljahebjnaaQO
namespace Go.Proofs.Ytgageljahebjnaa
open Go.RowKit

/-- The row of differences in the middle of a pass: the first m are of degree d + 1, the others of degree d. -/
def Half (x y : Nat → Int) (n d m : Nat) (ps : List (Int × Int)) : Prop :=
  ps.length = n ∧ (∀ j, j < m → pAt ps j = rp (dd x y (d + 1) j)) ∧ ∀ j, m ≤ j → j + d < n → pAt ps j = rp (dd x y d j)
theorem Half.start (x y : Nat → Int) (n : Nat) : Half x y n 0 0 (rr x y 0 n) := ⟨rr_len _ _ _ _, fun j h => absurd h (by omega), fun _ _ h => rr_at (by omega)⟩
theorem pAt_set {ps : List (Int × Int)} {m j : Nat} {q : Int × Int} (hm : m < ps.length) : pAt (ps.set m q) j = if j = m then q else pAt ps j := by
  unfold pAt
  by_cases h : j = m
  · subst h; simp [List.getD, hm]
  · simp [List.getD, h, List.getElem?_set, Ne.symm h]
theorem Half.step {x y : Nat → Int} {n d m : Nat} {ps : List (Int × Int)} (h : Half x y n d m ps) (hm : m < n) : Half x y n d (m + 1) (ps.set m (rp (dd x y (d + 1) m))) := by
  obtain ⟨h1, h2, h3⟩ := h
  refine ⟨by simp [h1], fun j hj => ?_, fun j hj hjn => ?_⟩
  · rw [pAt_set (by omega)]
    split
    · next e => rw [e]
    · exact h2 j (by omega)
  · rw [pAt_set (by omega), if_neg (by omega)]
    exact h3 j (by omega) hjn
theorem Half.next {x y : Nat → Int} {n d m : Nat} {ps : List (Int × Int)} (h : Half x y n d m ps) (hm : n ≤ d + 1 + m) : Half x y n (d + 1) 0 ps :=
  ⟨h.1, fun j hj => absurd hj (by omega), fun j _ hj => h.2.1 j (by omega)⟩

theorem atL_seg {xs : List Int} {i k : Nat} (h : k < i) : atL (seg xs 0 i) k = atL xs k := by
  unfold atL seg
  simp [List.getD, List.getElem?_take, h]

theorem Rd.pre {w : World} {A : Option Addr} {n c k : Nat} {xs : List Int} (h : Rd w (.slice A n c) xs) (hk : k ≤ n) : Rd w (.slice A k c) (Go.Proofs.Ytgageljahebjnaa.seg xs 0 k) := by
  have h1 := h.cut (i := 0) (Nat.zero_le k) hk
  have e : (if c = 0 then A else A.map (·.add 0)) = A := by cases A <;> simp [Addr.add]
  rw [e] at h1
  exact h1

theorem OwnP.putOther {w : World} {B g a b : Nat} {v : Value} {ps : List (Int × Int)} (h : OwnP w B v ps) (hp : v.ownBlock ≠ some g) (x y : Value) : OwnP ((w.setCell ⟨g, a, none⟩ x).setCell ⟨g, b, none⟩ y) B v ps := by
  have h1 : ∀ (w : World) (c : Nat) (x : Value), OwnP w B v ps → OwnP (w.setCell ⟨g, c, none⟩ x) B v ps := fun w c x h =>
    World.ownsRow.kept h (row := some g) ⟨rfl, rfl, rfl, by simp [World.setCell], fun k _ hk => Below.heap_setCell _ _ _ _ (fun e => hk (by rw [e]))⟩ (.inr hp)
  exact h1 _ _ _ (h1 _ _ _ h)
theorem Half.after {x y : Nat → Int} {n d m : Nat} {ps : List (Int × Int)} (h : Half x y n d m ps) (hm : 0 < m) : pAt ps 0 = rp (dd x y (d + 1) 0) := h.2.1 0 hm

set_option maxRecDepth 100000 in
set_option maxHeartbeats 4000000 in
theorem curveI_yes (u v : Value) (xs ys : List Int) (n : Nat) (w : World) (hx : Rd w u xs) (hy : Rd w v ys) (hp : okP5 xs ys = true) (hN1 : xs.length = n) (hN2 : ys.length = n) (h1 : 1 ≤ n) (h5 : n ≤ 5) (hd : Dif (atL xs) n) (px : Pl (atL xs) n) (py : Pl (atL ys) n) :
    Calls Try.prog 28 #[u, v] w fun e w' => ∃ v', e = .returned (.tuple #[v', .bool true]) ∧ SlP w' w.heap.size v' (fac (atL xs) (atL ys) n) ∧ Below w.heap.size w w' := by
  have K1 := hide fun w hx hy => placesFive_c u v xs ys true w hx hy hp
  have hcut := fun (i : Nat) (hi : i ≤ n) (wz : World) (hb : Below w.heap.size w wz) => hx.below hb
  obtain ⟨A, c, rfl, hc, hm, _⟩ := id hx
  obtain ⟨A2, c2, rfl, hc2, hm2, _⟩ := id hy
  have HHX := hide hx
  have HHY := hide hy
  obtain ⟨g, off, rfl, hg, hcl⟩ := hx.at (by omega)
  obtain ⟨g2, off2, rfl, hg2, hcl2⟩ := hy.at (by omega)
  rw [hN1] at hc hcl HHX K1 ⊢
  rw [hN2] at hc2 hcl2 HHY K1 ⊢
  have HX := hide fun (wz : World) (hb : Below w.heap.size w wz) k hk => (hb.cell (p := ⟨g, off + k, none⟩) hg).trans (hcl k hk)
  have HY := hide fun (wz : World) (hb : Below w.heap.size w wz) k hk => (hb.cell (p := ⟨g2, off2 + k, none⟩) hg2).trans (hcl2 k hk)
  have HLS : Hid (∀ i, i ≤ n → (seg xs 0 i).length = i) := fun i hi => by have := seg_len (xs := xs) (i := 0) (k := i) (by omega); omega
  have HCT : Hid (∀ i, i < n → ∀ v' w', Rd w' v' (seg xs 0 i) → Calls Try.prog 55 #[v', .int .i64 (atL xs i)] w' fun e w'' => e = .returned (.bool false) ∧ w' = w'') := fun i hi v' w' hr =>
    containsI_c v' (seg xs 0 i) (atL xs i) false w' hr ⟨fun h => (by cases h), fun ⟨k, h1, h2⟩ => by
      rw [HLS.out i (by omega)] at h1
      rw [atL_seg h1] at h2
      exact absurd h2.symm (hd k i h1 hi)⟩
  obtain ⟨X, hX⟩ : ∃ X, atL xs = X := ⟨_, rfl⟩
  obtain ⟨Y, hY⟩ : ∃ Y, atL ys = Y := ⟨_, rfl⟩
  rw [hX] at HX hd px HCT ⊢
  rw [hY] at HY py ⊢
  have HD : Hid (Dis X n) := fun i j a b e => hd i j a b (by omega)
  have HPX := hide px
  have HPY := hide py
  clear hcl hcl2 hx hy hX hY hN1 hN2 hd px py hp hcut
  go_enter Try.func28, Try.ntmps28
  go_wp2_with fail
  refine (K1.out _ HHX.out HHY.out).mono ?_
  rintro e w1 ⟨rfl, hb1⟩
  have hsz1 := hb1.size
  go_wp2_with fail
  go_loopw [20] (fun i wr => ∃ k : Nat, k ≤ n ∧ i = .int .i64 k ∧ Below w.heap.size w wr) (fun i _ => n - (intOf i).toNat)
  case atStart => exact ⟨0, by omega, rfl, hb1⟩
  case round =>
    obtain ⟨k, hk, rfl, hbel⟩ := hrel
    by_cases hlt : k < n
    · have x1 := HX.out wr hbel k hlt
      have i1 : (k : Int) < (n : Int) := by omega
      have HR := hide ((HHX.out.below hbel).pre (k := k) (by omega))
      have HCK := hide (HCT.out k hlt)
      obtain ⟨x, hxe⟩ : ∃ x, X k = x := ⟨_, rfl⟩
      rw [hxe] at x1 HCK
      clear hxe
      go_wp2_with fail
      refine (HCK.out _ _ HR.out).mono ?_
      rintro e w2 ⟨rfl, rfl⟩
      go_wp2_with fail
      go_roundw
      case rel => exact ⟨k + 1, by omega, by go_num, hbel⟩
      case measure => simp [intOf]; omega
    · obtain rfl : k = n := by omega
      have hni : ¬ (k : Int) < (k : Int) := by omega
      have hbW := hbel
      clear hbel hb1 hsz1 HCT HLS
      go_wp2_with fail
      go_loopw [8, 33] (fun now i wr => ∃ j : Nat, j ≤ k ∧ i = .int .i64 j ∧ Hid (OwnP wr w.heap.size now (rr X Y 0 j)) ∧ Below w.heap.size w wr) (fun _ i _ => k - (intOf i).toNat)
      case atStart => exact ⟨0, by omega, rfl, OwnP.nil _ _, hbW⟩
      case round =>
        rename World => wq
        clear hbW
        obtain ⟨j, hj, rfl, hnow, hbel⟩ := hrel
        by_cases hlt : j < k
        · have hc1 := HY.out wq hbel j hlt
          have HRS := hide (rr_succ X Y 0 j)
          have F1 := hide fun w => whole_c (Y j) w
          have hre : ((Y j : Int) : Rat) = dd X Y 0 j := (qf_one _).symm
          rw [hre] at F1
          obtain ⟨r, hr⟩ : ∃ r, dd X Y 0 j = r := ⟨_, rfl⟩
          rw [hr] at F1 HRS
          obtain ⟨a, hYa⟩ : ∃ a, Y j = a := ⟨_, rfl⟩
          rw [hYa] at hc1 F1
          obtain ⟨PS, hPS⟩ : ∃ P, rr X Y 0 j = P := ⟨_, rfl⟩
          have hpl := rr_len X Y 0 j
          rw [hPS] at hnow hpl HRS
          replace hpl : PS.length ≤ 1000 := by omega
          have i1 : (j : Int) < (k : Int) := by omega
          clear hr hre hYa hPS
          have hO := hnow.out
          obtain ⟨At, ct, rfl, _, _, _⟩ := hO.sl
          have HO := hide hO
          clear hO
          go_wp2_with fail
          refine (F1.out _).mono ?_
          rintro e w1 ⟨rfl, hb1⟩
          have hO1 := HO.out.below hb1
          have hbw1 : Below w.heap.size w w1 := hbel.trans (hb1.mono hbel.size)
          have hs1 := hbw1.size
          go_wp2_with (at_builtin; refine wpList_push_frac _ rfl (.tmp 37) (.tmp 40) rfl w.heap.size _ PS r.num (r.den : Int) _ 1 rfl rfl hO1 hs1 (by omega) ?_; intro v8 w8 hown8 hb8 hg8 hat8 hlt8)
          have hown8 : Hid (OwnP w8 w.heap.size v8 (rr X Y 0 (j + 1))) := by show OwnP _ _ _ _; rw [HRS.out]; exact hown8
          go_roundw
          case rel => exact ⟨j + 1, by omega, by go_num, hown8, hbw1.trans hb8⟩
          case measure => simp [intOf]; omega
        · obtain rfl : j = k := by omega
          have hni : ¬ (j : Int) < (j : Int) := by omega
          have hpl := rr_len X Y 0 j
          obtain ⟨gn, cn, rfl, hgn, hgn2⟩ := hnow.out.form (by omega)
          rw [hpl] at hnow ⊢
          have HN0 := hide hnow.out
          have e0 : pAt (rr X Y 0 j) 0 = rp (dd X Y 0 0) := rr_at (by omega)
          obtain ⟨⟨q1, q2⟩, _, _⟩ := hnow.out.pr (j := 0) (by omega)
          rw [e0] at q1 q2
          replace q1 : wq.cell? ⟨gn, 0, none⟩ = some (.int .i64 (dd X Y 0 0).num) := q1
          replace q2 : wq.cell? ⟨gn, 1, none⟩ = some (.int .i64 ((dd X Y 0 0).den : Int)) := q2
          have HF1 : Hid (fac X Y 1 = [((dd X Y 0 0).num, ((dd X Y 0 0).den : Int))]) := rfl
          have HHF := hide (Half.start X Y j)
          obtain ⟨r, hr⟩ : ∃ r, dd X Y 0 0 = r := ⟨_, rfl⟩
          rw [hr] at q1 q2 HF1
          have i0 : (0 : Int) < (j : Int) := by omega
          clear hr e0 hpl hnow
          go_wp2_with fail
          obtain ⟨V, hV, hbV, hO0, hN1, hA0⟩ : ∃ V, wq.alloc (.cells #[.int .i64 r.num, .int .i64 (r.den : Int)] 24) = V ∧ Below wq.heap.size wq V ∧ Hid (OwnP V w.heap.size (.slice (some ⟨wq.heap.size, 0, none⟩) 1 1) (fac X Y (0 + 1))) ∧ Hid (OwnP V w.heap.size (.slice (some ⟨gn, 0, none⟩) j cn) (rr X Y 0 j)) ∧ Hid (ApF (.slice (some ⟨wq.heap.size, 0, none⟩) 1 1) (.slice (some ⟨gn, 0, none⟩) j cn)) :=
            ⟨_, rfl, by (repeat (first | exact Below.refl _ _ | assumption | refine Below.setCell ?_ (by first | (simp; done) | omega | (simp; omega) | (simp at *; omega)) _ | refine Below.drew ?_ | refine below_drewN ?_ _ | refine below_alloc' ?_ _ | refine below_to' ?_ (by assumption))), by show OwnP _ _ _ _; rw [HF1.out]; exact (OwnP.one wq _ _).low hbel.size, HN0.out.alloc _, ApF.new HN0.out (Nat.le_refl _)⟩
          rw [hV]
          have hbwV : Below w.heap.size w V := hbel.trans (hbV.mono hbel.size)
          clear hV hbV HN0 q1 q2 HF1 hbel
          have HNW0 : Hid (∃ PS, OwnP V w.heap.size (.slice (some ⟨gn, 0, none⟩) j cn) PS ∧ Half X Y j 0 0 PS) := ⟨_, hN1.out, HHF.out⟩
          clear hN1 HHF
          go_loopw [11, 12] (fun out i wr => ∃ d : Nat, d + 1 ≤ j ∧ i = .int .i64 ((d : Int) + 1) ∧ Hid (OwnP wr w.heap.size out (fac X Y (d + 1))) ∧ Hid (∃ PS, OwnP wr w.heap.size (.slice (some ⟨gn, 0, none⟩) j cn) PS ∧ Half X Y j d 0 PS) ∧ Hid (ApF out (.slice (some ⟨gn, 0, none⟩) j cn)) ∧ Below w.heap.size w wr) (fun _ i _ => j - (intOf i).toNat)
          case atStart => exact ⟨0, by omega, by simp, hO0, HNW0, hA0, hbwV⟩
          case round =>
            rename World => wp
            clear hbwV hO0 HNW0 hA0
            obtain ⟨d, hd, rfl, hout, hnow, hap, hbel⟩ := hrel
            have hfl := fac_len X Y (d + 1)
            obtain ⟨FS, hFS⟩ : ∃ P, fac X Y (d + 1) = P := ⟨_, rfl⟩
            have HFS := hide hFS
            rw [hFS] at hout hfl
            obtain ⟨At, ct, rfl, _, _, _⟩ := hout.out.sl
            have HFL : Hid (FS.length = d + 1) := hfl
            clear hFS hfl
            by_cases hlt : d + 1 < j
            · have i1 : (d : Int) + 1 < (j : Int) := by omega
              have ew : IntKind.i64.wrap ((j : Int) - ((d : Int) + 1)) = (j : Int) - ((d : Int) + 1) := IntWalk.i64_in _ (by omega)
              go_wp2_with fail
              go_loopw [57] (fun i wr => ∃ m : Nat, m + d + 1 ≤ j ∧ i = .int .i64 m ∧ Hid (OwnP wr w.heap.size (.slice At FS.length ct) FS) ∧ Hid (∃ PS, OwnP wr w.heap.size (.slice (some ⟨gn, 0, none⟩) j cn) PS ∧ Half X Y j d m PS) ∧ Below w.heap.size w wr) (fun i _ => j - (intOf i).toNat)
              case atStart => exact ⟨0, by omega, rfl, hout, hnow, hbel⟩
              case round =>
                rename World => wz
                clear hbel hout hnow
                obtain ⟨m, hm, rfl, hout, hnow, hbel⟩ := hrel
                obtain ⟨PS, hN, hH⟩ := hnow.out
                clear hnow
                by_cases hml : m + d + 1 < j
                · have hsz := hbel.size
                  have i2 : (m : Int) < (j : Int) - ((d : Int) + 1) := by omega
                  have j1 : (m : Int) + 1 < (j : Int) := by omega
                  have j0 : (0 : Int) ≤ (m : Int) + 1 := by omega
                  have jt : ((m : Int) + 1).toNat = m + 1 := by omega
                  have j2 : (m : Int) < (j : Int) := by omega
                  have l0 : (0 : Int) ≤ (m : Int) + ((d : Int) + 1) := by omega
                  have l1 : (m : Int) + ((d : Int) + 1) < (j : Int) := by omega
                  have lt : ((m : Int) + ((d : Int) + 1)).toNat = m + d + 1 := by omega
                  have ew1 : IntKind.i64.wrap ((m : Int) + 1) = (m : Int) + 1 := IntWalk.i64_in _ (by omega)
                  have ew2 : IntKind.i64.wrap ((m : Int) + ((d : Int) + 1)) = (m : Int) + ((d : Int) + 1) := IntWalk.i64_in _ (by omega)
                  obtain ⟨gl, hgb, hgz⟩ := hN.len
                  have hpl : PS.length = j := hH.1
                  obtain ⟨⟨n1, n2⟩, _, _⟩ := hN.pr (j := m + 1) (by omega)
                  obtain ⟨⟨n3, n4⟩, _, _⟩ := hN.pr (j := m) (by omega)
                  rw [hH.2.2 (m + 1) (by omega) (by omega)] at n1 n2
                  rw [hH.2.2 m (by omega) (by omega)] at n3 n4
                  replace n1 : wz.cell? ⟨gn, (m + 1) * 2, none⟩ = some (.int .i64 (dd X Y d (m + 1)).num) := n1
                  replace n2 : wz.cell? ⟨gn, (m + 1) * 2 + 1, none⟩ = some (.int .i64 ((dd X Y d (m + 1)).den : Int)) := n2
                  replace n3 : wz.cell? ⟨gn, m * 2, none⟩ = some (.int .i64 (dd X Y d m).num) := n3
                  replace n4 : wz.cell? ⟨gn, m * 2 + 1, none⟩ = some (.int .i64 ((dd X Y d m).den : Int)) := n4
                  have x1 := HX.out wz hbel (m + d + 1) hml
                  have x2 := HX.out wz hbel m (by omega)
                  have hgx : g < wz.heap.size := Nat.lt_of_lt_of_le hg hsz
                  have p1 := HPX.out (m + d + 1) hml
                  have p2 := HPX.out m (by omega)
                  have d0 := HD.out m (m + d + 1) (by omega) hml
                  have f1 := dd_fit1 (k := d) (i := m) HD.out HPX.out HPY.out (by omega) (by omega)
                  have f2 := dd_fit2 (k := d) (i := m) HD.out HPX.out HPY.out (by omega) (by omega) d0 (by omega)
                  have HST := hide (hH.step (by omega))
                  have hE : dd X Y (d + 1) m = (dd X Y d (m + 1) - dd X Y d m) * qf 1 (X (m + d + 1) - X m) := rfl
                  have HML := hide hml
                  obtain ⟨x, hxe⟩ : ∃ x, X (m + d + 1) = x := ⟨_, rfl⟩
                  obtain ⟨y, hye⟩ : ∃ x, X m = x := ⟨_, rfl⟩
                  rw [hxe] at x1 p1 d0 f2 hE
                  rw [hye] at x2 p2 d0 f2 hE
                  have ew3 : IntKind.i64.wrap (x - y) = x - y := IntWalk.i64_in _ (by omega)
                  have G2 := hide fun w => whole_c (x - y) w
                  obtain ⟨c1, c2, c3⟩ : ((x - y : Int) : Rat) ≠ 0 ∧ (-4611686018427387904 ≤ ((x - y : Int) : Rat).num ∧ ((x - y : Int) : Rat).num ≤ 4611686018427387904) ∧ ((((x - y : Int) : Rat).den : Int) ≤ 4611686018427387904) := by
                    rw [Rat.num_intCast, Rat.den_intCast]
                    exact ⟨fun e => d0 (Rat.intCast_eq_zero_iff.1 e), by omega, by omega⟩
                  have c4 : qf 1 (x - y) = ((x - y : Int) : Rat)⁻¹ := by
                    rw [← qf_inv, Rat.num_intCast, Rat.den_intCast]; rfl
                  rw [c4] at f2 hE
                  obtain ⟨r1, hr1⟩ : ∃ r, dd X Y d (m + 1) = r := ⟨_, rfl⟩
                  obtain ⟨r2, hr2⟩ : ∃ r, dd X Y d m = r := ⟨_, rfl⟩
                  obtain ⟨r3, hr3⟩ : ∃ r, dd X Y (d + 1) m = r := ⟨_, rfl⟩
                  obtain ⟨s, hs⟩ : ∃ r, ((x - y : Int) : Rat) = r := ⟨_, rfl⟩
                  rw [hr1] at n1 n2 f1 f2 hE
                  rw [hr2] at n3 n4 f1 f2 hE
                  rw [hr3] at HST hE
                  rw [hs] at G2 f2 hE c1 c2 c3
                  have G1 := hide fun w => minusI_d r1 r2 w f1
                  obtain ⟨t, ht⟩ : ∃ r, r1 - r2 = r := ⟨_, rfl⟩
                  rw [ht] at G1 f2 hE
                  have G3 := hide fun w => overI_d t s w c1 c2 c3 f2
                  rw [← hE] at G3
                  have k1 := cell_grn (Below.refl wz.heap.size wz) hgz n1
                  have k2 := cell_grn (Below.refl wz.heap.size wz) hgz n2
                  have k3 := cell_grn (Below.refl wz.heap.size wz) hgz n3
                  have k4 := cell_grn (Below.refl wz.heap.size wz) hgz n4
                  have k5 := cell_grn (Below.refl wz.heap.size wz) hgx x1
                  have k6 := cell_grn (Below.refl wz.heap.size wz) hgx x2
                  have HN := hide hN
                  have HPL := hide hpl
                  clear hr1 hr2 hr3 hs ht hE f1 f2 d0 p1 p2 hxe hye x1 x2 n1 n2 n3 n4 gl c1 c2 c3 c4 hN hH hpl hml
                  go_wp2_with fail
                  refine wp_region_below_tail 25 (by kernel_rfl) (by kernel_rfl) ?_
                  simp only [List.take_succ_cons, List.take_zero, List.drop_succ_cons, List.drop_zero]
                  repeat (go_big_quiet_step ((first | (go_at_call 56; with_reducible exact calls_grn G1.out) | (go_at_call 30; with_reducible exact calls_grn G2.out) | (go_at_call 57; with_reducible exact calls_grn G3.out))))
                  refine wpQuiet_nil ?_
                  intro w6 hb6
                  clear k1 k2 k3 k4 k5 k6
                  have hN6 := HN.out.below hb6
                  have hO6 := hout.out.below hb6
                  have hbw6 := hbel.trans (hb6.mono hsz)
                  obtain ⟨⟨b1, b2⟩, b3, b4⟩ := hN6.pr (j := m) (by have := HPL.out; omega)
                  obtain ⟨Z, hZ, hNZ, hbZ, hZs⟩ := hN6.put (j := m) (by have := HPL.out; omega) r3.num (r3.den : Int)
                  have hOZ := hO6.putOther (g := gn) (a := m * 2) (b := m * 2 + 1) (fun e => hap.out gn e rfl) (.int .i64 r3.num) (.int .i64 (r3.den : Int))
                  rw [hZ] at hOZ
                  have HOZ := hide hOZ
                  have HNZ := hide hNZ
                  clear hN6 hO6 hOZ hNZ
                  go_wp2_with fail
                  clear hZ b1 b2 b3 b4
                  go_roundw
                  case rel => exact ⟨m + 1, by have := HML.out; omega, by go_num, HOZ, ⟨_, HNZ.out, HST.out⟩, hbw6.trans hbZ⟩
                  case measure => simp [intOf]; omega
                · have hni : ¬ (m : Int) < (j : Int) - ((d : Int) + 1) := by omega
                  have hsz := hbel.size
                  have i0 : (0 : Int) < (j : Int) := by omega
                  have hpl : PS.length = j := hH.1
                  have ew5 : IntKind.i64.wrap ((d : Int) + 1 + 1) = (d : Int) + 1 + 1 := IntWalk.i64_in _ (by omega)
                  obtain ⟨⟨n1, n2⟩, _, _⟩ := hN.pr (j := 0) (by omega)
                  rw [hH.after (by omega)] at n1 n2
                  replace n1 : wz.cell? ⟨gn, 0, none⟩ = some (.int .i64 (dd X Y (d + 1) 0).num) := n1
                  replace n2 : wz.cell? ⟨gn, 1, none⟩ = some (.int .i64 ((dd X Y (d + 1) 0).den : Int)) := n2
                  have HNX := hide (hH.next (by omega))
                  have HFSS : Hid (fac X Y (d + 1 + 1) = FS ++ [((dd X Y (d + 1) 0).num, ((dd X Y (d + 1) 0).den : Int))]) := by show _ = _; rw [fac_succ, HFS.out]; rfl
                  obtain ⟨r, hr⟩ : ∃ r, dd X Y (d + 1) 0 = r := ⟨_, rfl⟩
                  rw [hr] at n1 n2 HFSS
                  have HN := hide hN
                  have hfb : FS.length ≤ 1000000000 := by have := HFL.out; omega
                  clear hN hH hpl hr
                  go_wp2_with (at_builtin; refine wpList_push_frac _ rfl (.tmp 87) (.tmp 91) rfl w.heap.size _ FS r.num (r.den : Int) _ 1 rfl rfl hout.out hsz hfb ?_; intro v8 w8 hown8 hb8 hg8 hat8 hlt8)
                  have hown8 : Hid (OwnP w8 w.heap.size v8 (fac X Y (d + 1 + 1))) := by show OwnP _ _ _ _; rw [HFSS.out]; exact hown8
                  have hN8 := HN.out.keep hg8 hap.out.ne
                  have hap8 := hide (hap.out.grow hat8 (fun b hb => by have := World.ownsRow.lt HN.out b hb; omega))
                  go_roundw
                  case rel => exact ⟨d + 1, by omega, by go_num, hown8, ⟨_, hN8, HNX.out⟩, hap8, hbel.trans hb8⟩
                  case measure => simp [intOf]; omega
            · have HDJ : Hid (d + 1 = j) := by show _ = _; omega
              have hni2 : ¬ (d : Int) + 1 < (j : Int) := by have := HDJ.out; omega
              have hsl : SlP wp w.heap.size (.slice At FS.length ct) FS := hout.out.sl
              have HSL := hide hsl
              clear hlt hd hsl
              go_wp2_with fail
              refine (clipF_c _ FS _ w.heap.size HSL.out).mono ?_
              rintro e w9 ⟨rfl, v', rfl, hs⟩
              have HS := hide hs
              clear hs
              go_wp2_with fail
              go_ret2
              exact ⟨_, rfl, by rw [← HDJ.out, HFS.out]; exact HS.out, hbel⟩

set_option maxHeartbeats 1000000 in
theorem curveI_no (u v : Value) (xs ys : List Int) (w : World) (hx : Rd w u xs) (hy : Rd w v ys) (h : ¬ (okP5 xs ys = true ∧ Dif (atL xs) xs.length)) :
    Calls Try.prog 28 #[u, v] w fun e w' => e = .returned (.tuple #[.slice none 0 0, .bool false]) ∧ Below w.heap.size w w' := by
  have HHX := hide hx
  have HHY := hide hy
  obtain ⟨A, c, rfl, hc, hm, _⟩ := id hx
  obtain ⟨A2, c2, rfl, hc2, hm2, _⟩ := id hy
  cases hok : okP5 xs ys
  · have HO := hide hok
    clear hok h hx hy
    go_enter Try.func28, Try.ntmps28
    go_wp2_with fail
    refine (placesFive_c _ _ xs ys false _ HHX.out HHY.out HO.out).mono ?_
    rintro e w1 ⟨rfl, hb1⟩
    go_wp2_with fail
    go_ret2
    exact ⟨rfl, hb1⟩
  · have HO := hide hok
    have HD : Hid (¬ Dif (atL xs) xs.length) := fun hd => h ⟨hok, hd⟩
    have hat := hx.at
    clear hok h hx hy
    go_enter Try.func28, Try.ntmps28
    go_wp2_with fail
    refine (placesFive_c _ _ xs ys true _ HHX.out HHY.out HO.out).mono ?_
    rintro e w1 ⟨rfl, hb1⟩
    go_wp2_with fail
    go_loopw [20] (fun i wr => ∃ k : Nat, k ≤ xs.length ∧ i = .int .i64 k ∧ Hid (Dif (atL xs) k) ∧ Below w.heap.size w wr) (fun i _ => xs.length - (intOf i).toNat)
    case atStart => exact ⟨0, by omega, rfl, (fun i j h1 h2 => by omega), hb1⟩
    case round =>
      obtain ⟨k, hk, rfl, hdf, hbel⟩ := hrel
      by_cases hlt : k < xs.length
      · obtain ⟨g, off, rfl, hg, hcl⟩ := hat (by omega)
        have x1 := (hbel.cell (p := ⟨g, off + k, none⟩) hg).trans (hcl k hlt)
        have i1 : (k : Int) < (xs.length : Int) := by omega
        have HR := hide ((HHX.out.below hbel).pre (k := k) (by omega))
        have HLS : Hid ((seg xs 0 k).length = k) := by show _ = _; have := seg_len (xs := xs) (i := 0) (k := k) (by omega); omega
        clear hcl hat
        by_cases he : ∃ j, j < k ∧ atL xs j = atL xs k
        · have HCK : Hid (∀ v' w', Rd w' v' (seg xs 0 k) → Calls Try.prog 55 #[v', .int .i64 (atL xs k)] w' fun e w'' => e = .returned (.bool true) ∧ w' = w'') := fun v' w' hr =>
            containsI_c v' (seg xs 0 k) (atL xs k) true w' hr ⟨fun _ => by
              obtain ⟨j, h1, h2⟩ := he
              exact ⟨j, by rw [HLS.out]; exact h1, by rw [atL_seg h1]; exact h2⟩, fun _ => rfl⟩
          obtain ⟨x, hxe⟩ : ∃ x, atL xs k = x := ⟨_, rfl⟩
          rw [hxe] at x1 HCK
          clear hxe he
          go_wp2_with fail
          refine (HCK.out _ _ HR.out).mono ?_
          rintro e w2 ⟨rfl, rfl⟩
          go_wp2_with fail
          go_ret2
          exact ⟨rfl, hbel⟩
        · have HCK : Hid (∀ v' w', Rd w' v' (seg xs 0 k) → Calls Try.prog 55 #[v', .int .i64 (atL xs k)] w' fun e w'' => e = .returned (.bool false) ∧ w' = w'') := fun v' w' hr =>
            containsI_c v' (seg xs 0 k) (atL xs k) false w' hr ⟨fun h => (by cases h), fun ⟨j, h1, h2⟩ => by
              rw [HLS.out] at h1
              rw [atL_seg h1] at h2
              exact absurd ⟨j, h1, h2⟩ he⟩
          have HDN : Hid (Dif (atL xs) (k + 1)) := fun i j h1 h2 => by
            by_cases e : j = k
            · subst e; exact fun e => he ⟨i, h1, e.symm⟩
            · exact hdf.out i j h1 (by omega)
          obtain ⟨x, hxe⟩ : ∃ x, atL xs k = x := ⟨_, rfl⟩
          rw [hxe] at x1 HCK
          clear hxe he
          go_wp2_with fail
          refine (HCK.out _ _ HR.out).mono ?_
          rintro e w2 ⟨rfl, rfl⟩
          go_wp2_with fail
          go_roundw
          case rel => exact ⟨k + 1, by omega, by go_num, HDN, hbel⟩
          case measure => simp [intOf]; omega
      · exact absurd (show Dif (atL xs) xs.length from fun i j h1 h2 => hdf.out i j h1 (by omega)) HD.out
end Go.Proofs.Ytgageljahebjnaa
