
/-
  The factors of the curve through points, in the reference.
-/
import Derived.Test.YtgageljahebjnaaCurQ
import Derived.Test.YtgageljahebjnaaFrM
import Derived.Test.YtgageljahebjnaaSum
import Derived.Test.YtgageljahebjnaaOne
namespace Go.Proofs.Ytgageljahebjnaa
open Go.RowKit

/-- The two numbers of a fraction. -/
def rp (r : Rat) : Int × Int := (r.num, (r.den : Int))
/-- The first m divided differences of degree k. -/
def rr (x y : Nat → Int) (k m : Nat) : List (Int × Int) := (List.range m).map fun i => rp (dd x y k i)
/-- The first m factors. -/
def fac (x y : Nat → Int) (m : Nat) : List (Int × Int) := (List.range m).map fun k => rp (dd x y k 0)
theorem rr_len (x y : Nat → Int) (k m : Nat) : (rr x y k m).length = m := by simp [rr]
theorem fac_len (x y : Nat → Int) (m : Nat) : (fac x y m).length = m := by simp [fac]
theorem rr_succ (x y : Nat → Int) (k m : Nat) : rr x y k (m + 1) = rr x y k m ++ [rp (dd x y k m)] := by simp [rr, List.range_succ]
theorem fac_succ (x y : Nat → Int) (m : Nat) : fac x y (m + 1) = fac x y m ++ [rp (dd x y m 0)] := by simp [fac, List.range_succ]
theorem rr_at {x y : Nat → Int} {k m j : Nat} (h : j < m) : pAt (rr x y k m) j = rp (dd x y k j) := by simp [pAt, rr, List.getD, h]
theorem fac_at {x y : Nat → Int} {m j : Nat} (h : j < m) : pAt (fac x y m) j = rp (dd x y j 0) := by simp [pAt, fac, List.getD, h]
theorem OwnP.form {w : World} {B : Nat} {v : Value} {ps : List (Int × Int)} (h : OwnP w B v ps) (hn : 0 < ps.length) : ∃ g c, v = .slice (some ⟨g, 0, none⟩) ps.length c ∧ B ≤ g ∧ g < w.heap.size := by
  obtain ⟨hl, h0 | ⟨g, cap, cur, hv, hb, hg, _⟩⟩ := id h
  · omega
  · exact ⟨g, cap, hv, hb, (Array.getElem?_eq_some_iff.1 hg).1⟩
/-- Two slices of the call's own do not share a block. -/
def ApF (s z : Value) : Prop := ∀ g, s.ownBlock = some g → z.ownBlock ≠ some g
theorem ApF.symm {s z : Value} (h : ApF s z) : ApF z s := fun g hz hs => h g hs hz
theorem ApF.grow {s s' z : Value} {n : Nat} (h : ApF s z) (hs : s'.ownBlock = s.ownBlock ∨ s'.ownBlock = some (n + 1)) (hz : ∀ g, z.ownBlock = some g → g < n + 1) : ApF s' z := by
  intro g hg hzg
  rcases hs with e | e
  · exact h g (e ▸ hg) hzg
  · have := hz g hzg
    rw [e] at hg
    simp at hg
    omega
theorem ApF.ne {s z : Value} (h : ApF s z) : z.ownBlock = none ∨ z.ownBlock ≠ s.ownBlock := by
  cases hz : z.ownBlock with
  | none => exact .inl rfl
  | some g => exact .inr fun e => h g e.symm hz
theorem ApF.new {w : World} {B : Nat} {z : Value} {ps : List (Int × Int)} {b n c : Nat} (h : OwnP w B z ps) (hb : w.heap.size ≤ b) : ApF (.slice (some ⟨b, 0, none⟩) n c) z := fun g hg hzg => by
  have := World.ownsRow.lt h g hzg
  simp [Value.ownBlock] at hg
  omega

set_option maxRecDepth 100000 in
set_option maxHeartbeats 4000000 in
theorem factorsS_c (u v : Value) (xs ys : List Int) (n : Nat) (w : World) (hx : Rd w u xs) (hy : Rd w v ys) (hN1 : xs.length = n) (hN2 : ys.length = n) (h1 : 1 ≤ n) (h5 : n ≤ 5) (hd : Dis (atL xs) n) (px : Pl (atL xs) n) (py : Pl (atL ys) n) :
    Calls Try.prog 24 #[u, v] w fun e w' => ∃ v', e = .returned v' ∧ OwnP w' w.heap.size v' (fac (atL xs) (atL ys) n) ∧ Below w.heap.size w w' := by
  obtain ⟨A, c, rfl, hc, hm, _⟩ := id hx
  obtain ⟨A2, c2, rfl, hc2, hm2, _⟩ := id hy
  obtain ⟨g, off, rfl, hg, hcl⟩ := hx.at (by omega)
  obtain ⟨g2, off2, rfl, hg2, hcl2⟩ := hy.at (by omega)
  rw [hN1] at hc hcl ⊢
  rw [hN2] at hc2 hcl2 ⊢
  have HX := hide fun (wz : World) (hb : Below w.heap.size w wz) k hk => (hb.cell (p := ⟨g, off + k, none⟩) hg).trans (hcl k hk)
  have HY := hide fun (wz : World) (hb : Below w.heap.size w wz) k hk => (hb.cell (p := ⟨g2, off2 + k, none⟩) hg2).trans (hcl2 k hk)
  obtain ⟨X, hX⟩ : ∃ X, atL xs = X := ⟨_, rfl⟩
  obtain ⟨Y, hY⟩ : ∃ Y, atL ys = Y := ⟨_, rfl⟩
  rw [hX] at HX hd px ⊢
  rw [hY] at HY py ⊢
  have HD := hide hd
  have HPX := hide px
  have HPY := hide py
  clear hcl hcl2 hx hy hX hY hN1 hN2 hd px py
  go_enter Try.func24, Try.ntmps24
  go_wp2_with fail
  obtain ⟨W, hW, hbW, hO, hR⟩ : ∃ W, (w.alloc (.cells #[] 24)).alloc (.cells #[] 24) = W ∧ Below w.heap.size w W ∧ OwnP W w.heap.size (.slice (some ⟨w.heap.size, 0, none⟩) 0 0) [] ∧ OwnP W w.heap.size (.slice (some ⟨w.heap.size + 1, 0, none⟩) 0 0) [] :=
    ⟨_, rfl, by (repeat (first | exact Below.refl _ _ | assumption | refine Below.setCell ?_ (by first | (simp; done) | omega | (simp; omega) | (simp at *; omega)) _ | refine Below.drew ?_ | refine below_drewN ?_ _ | refine below_alloc' ?_ _ | refine below_to' ?_ (by assumption))), (lit_ownP rfl (Nat.le_refl _)).alloc _, lit_ownP (by simp) (by omega)⟩
  rw [hW]
  clear hW
  have HO := hide hO
  have HR := hide hR
  clear hO hR
  go_loopw [6, 7] (fun now i wr => ∃ k : Nat, k ≤ n ∧ i = .int .i64 k ∧ Hid (OwnP wr w.heap.size now (rr X Y 0 k)) ∧ Hid (OwnP wr w.heap.size (.slice (some ⟨w.heap.size, 0, none⟩) 0 0) []) ∧ Hid (ApF (.slice (some ⟨w.heap.size, 0, none⟩) 0 0) now) ∧ Below w.heap.size w wr) (fun _ i _ => n - (intOf i).toNat)
  case atStart => exact ⟨0, by omega, rfl, HR.out, HO.out, (fun b hb => by simp [Value.ownBlock] at hb ⊢; omega), hbW⟩
  case round =>
    clear hbW HO HR
    obtain ⟨k, hk, rfl, hnow, hout, hap, hbel⟩ := hrel
    by_cases hlt : k < n
    · have hc1 := HY.out wr hbel k hlt
      have hYk := HPY.out k hlt
      have HRS := hide (rr_succ X Y 0 k)
      obtain ⟨r, hr⟩ : ∃ r, dd X Y 0 k = r := ⟨_, rfl⟩
      have F1 := hide fun w => fracS_c (Y k) 1 w (by omega) (by omega) (by omega)
      rw [show qf (Y k) 1 = r from hr] at F1
      rw [hr] at HRS
      obtain ⟨a, hYa⟩ : ∃ a, Y k = a := ⟨_, rfl⟩
      rw [hYa] at hc1 F1
      obtain ⟨PS, hPS⟩ : ∃ P, rr X Y 0 k = P := ⟨_, rfl⟩
      have hpl := rr_len X Y 0 k
      rw [hPS] at hnow hpl HRS
      replace hpl : PS.length ≤ 1000 := by omega
      have i1 : (k : Int) < (n : Int) := by omega
      clear hr hYa hPS hYk
      have hO := hnow.out
      obtain ⟨At, ct, rfl, _, _, _⟩ := hO.sl
      have HO := hide hO
      clear hO
      go_wp2_with fail
      refine (F1.out _).mono ?_
      rintro e w1 ⟨rfl, hb1⟩
      have hO1 := HO.out.below hb1
      have hbw1 : Below w.heap.size w w1 := by (repeat (first | exact Below.refl _ _ | assumption | refine Below.setCell ?_ (by first | (simp; done) | omega | (simp; omega) | (simp at *; omega)) _ | refine Below.drew ?_ | refine below_drewN ?_ _ | refine below_alloc' ?_ _ | refine below_to' ?_ (by assumption)))
      have hs1 := hbw1.size
      go_wp2_with (at_builtin; refine wpList_push_frac _ rfl (.tmp 19) (.tmp 25) rfl w.heap.size _ PS r.num (r.den : Int) _ 1 rfl rfl hO1 hs1 (by omega) ?_; intro v8 w8 hown8 hb8 hg8 hat8 hlt8)
      have hown8 : Hid (OwnP w8 w.heap.size v8 (rr X Y 0 (k + 1))) := by show OwnP _ _ _ _; rw [HRS.out]; exact hown8
      have hout8 := hide ((hout.out.below hb1).keep hg8 hap.out.symm.ne)
      have hap8 := hide ((hap.out.symm.grow hat8 (fun b hb => by simp [Value.ownBlock] at hb; omega)).symm)
      go_roundw
      case rel => exact ⟨k + 1, by omega, by go_num, hown8, hout8, hap8, hbw1.trans hb8⟩
      case measure => simp [intOf]; omega
    · obtain rfl : k = n := by omega
      have hF0 : Hid (OwnP wr w.heap.size (.slice (some ⟨w.heap.size, 0, none⟩) 0 0) (fac X Y 0)) := hout.out
      have hni : ¬ (k : Int) < (k : Int) := by omega
      have hnow0 : Hid (OwnP wr w.heap.size _ (rr X Y 0 (k - 0))) := hnow.out
      have hbW := hbel
      clear hnow hout hbel hk
      go_wp2_with fail
      go_loopw [5, 6, 8] (fun out now i wr => ∃ j : Nat, j ≤ k ∧ i = .int .i64 j ∧ Hid (OwnP wr w.heap.size out (fac X Y j)) ∧ Hid (OwnP wr w.heap.size now (rr X Y j (k - j))) ∧ Hid (ApF out now) ∧ Below w.heap.size w wr) (fun _ _ i _ => k - (intOf i).toNat)
      case atStart => exact ⟨0, by omega, rfl, hF0, hnow0, hap, hbW⟩
      case round =>
        rename World => wq
        clear hbW hF0 hnow0 hap
        obtain ⟨j, hj, rfl, hout, hnow, hap, hbel⟩ := hrel
        by_cases hlt : j < k
        · have HFS := hide (fac_succ X Y j)
          have hpl := rr_len X Y j (k - j)
          have hal := rr_at (x := X) (y := Y) (k := j) (m := k - j) (j := 0) (by omega)
          have hfl := fac_len X Y j
          obtain ⟨r, hr⟩ : ∃ r, dd X Y j 0 = r := ⟨_, rfl⟩
          rw [hr] at HFS hal
          obtain ⟨PS, hPS⟩ : ∃ P, rr X Y j (k - j) = P := ⟨_, rfl⟩
          have HPS := hide hPS
          rw [hPS] at hnow hpl hal
          obtain ⟨FS, hFS⟩ : ∃ P, fac X Y j = P := ⟨_, rfl⟩
          rw [hFS] at hout hfl HFS
          have hN := hnow.out
          have hF := hout.out
          obtain ⟨gn, cn, rfl, hgn, hgn2⟩ := hN.form (by omega)
          obtain ⟨⟨q1, q2⟩, _, _⟩ := hN.pr (j := 0) (by omega)
          rw [hal] at q1 q2
          have q1 : wq.cell? ⟨gn, 0, none⟩ = some (.int .i64 r.num) := q1
          have q2 : wq.cell? ⟨gn, 1, none⟩ = some (.int .i64 (r.den : Int)) := q2
          obtain ⟨At, ct, rfl, _, _, _⟩ := hF.sl
          have HN := hide hN
          have HF := hide hF
          have i0 : (0 : Int) < (PS.length : Int) := by omega
          have i1 : (j : Int) < (k : Int) := by omega
          have HPL : Hid (PS.length = k - j) := hpl
          replace hfl : FS.length ≤ 1000 := by omega
          have hsq := hbel.size
          clear hr hPS hFS hpl hN hF hnow hout hal
          go_wp2_with (at_builtin; refine wpList_push_frac _ rfl (.tmp 33) (.tmp 37) rfl w.heap.size _ FS r.num (r.den : Int) _ 1 rfl rfl HF.out hsq (by omega) ?_; intro v8 w8 hown8 hb8 hg8 hat8 hlt8)
          have HF8 : Hid (OwnP w8 w.heap.size v8 (fac X Y (j + 1))) := by show OwnP _ _ _ _; rw [HFS.out]; exact hown8
          have HN8 := hide (HN.out.keep hg8 hap.out.ne)
          have hbw8 := hbel.trans hb8
          have hs8 := hbw8.size
          clear hown8 HF HN hap q1 q2 hg8 hat8 HFS
          obtain ⟨V, hV, hbV, hO0, hA1, hA2, hF0, hN0⟩ : ∃ V, w8.alloc (.cells #[] 24) = V ∧ Below w8.heap.size w8 V ∧ Hid (OwnP V w.heap.size (.slice (some ⟨w8.heap.size, 0, none⟩) 0 0) []) ∧ Hid (ApF v8 (.slice (some ⟨w8.heap.size, 0, none⟩) 0 0)) ∧ Hid (ApF (.slice (some ⟨gn, 0, none⟩) PS.length cn) (.slice (some ⟨w8.heap.size, 0, none⟩) 0 0)) ∧ Hid (OwnP V w.heap.size v8 (fac X Y (j + 1))) ∧ Hid (OwnP V w.heap.size (.slice (some ⟨gn, 0, none⟩) PS.length cn) PS) :=
            ⟨_, rfl, by (repeat (first | exact Below.refl _ _ | assumption | refine Below.setCell ?_ (by first | (simp; done) | omega | (simp; omega) | (simp at *; omega)) _ | refine Below.drew ?_ | refine below_drewN ?_ _ | refine below_alloc' ?_ _ | refine below_to' ?_ (by assumption))), lit_ownP rfl hs8, (ApF.new HF8.out (Nat.le_refl _)).symm, (ApF.new HN8.out (Nat.le_refl _)).symm, HF8.out.alloc _, HN8.out.alloc _⟩
          rw [hV]
          have hbwV := hbw8.trans (hbV.mono hs8)
          clear hV hbV HF8 HN8 hbw8 hs8 hb8 hlt8 hsq hbel
          obtain ⟨ok, hok⟩ : ∃ o, o = v8 := ⟨_, rfl⟩
          go_loopw [9, 10] (fun nx i wr => ∃ m : Nat, m + 1 ≤ PS.length ∧ i = .int .i64 m ∧ Hid (OwnP wr w.heap.size nx (rr X Y (j + 1) m)) ∧ Hid (ApF v8 nx) ∧ Hid (ApF (.slice (some ⟨gn, 0, none⟩) PS.length cn) nx) ∧ Hid (OwnP wr w.heap.size v8 (fac X Y (j + 1))) ∧ Hid (OwnP wr w.heap.size (.slice (some ⟨gn, 0, none⟩) PS.length cn) PS) ∧ Below w.heap.size w wr) (fun _ i _ => PS.length - (intOf i).toNat)
          case atStart => exact ⟨0, by omega, rfl, hO0, hA1, hA2, hF0, hN0, hbwV⟩
          case round =>
            rename World => wz
            clear hbwV hO0 hA1 hA2 hF0 hN0
            obtain ⟨m, hm, rfl, hO, hA1, hA2, hF, hN, hbel⟩ := hrel
            have hsz := hbel.size
            by_cases hlm : m + 1 < PS.length
            · have j1 : (m : Int) + 1 < (PS.length : Int) := by omega
              have j0 : (0 : Int) ≤ (m : Int) + 1 := by omega
              have jt : ((m : Int) + 1).toNat = m + 1 := by omega
              have j2 : (m : Int) < (PS.length : Int) := by omega
              have l0 : (0 : Int) ≤ (m : Int) + (j : Int) + 1 := by omega
              have l1 : (m : Int) + (j : Int) + 1 < (k : Int) := by have := HPL.out; omega
              have lt : ((m : Int) + (j : Int) + 1).toNat = m + j + 1 := by omega
              have l2 : (m : Int) < (k : Int) := by omega
              have HKL : Hid (m + 1 + j < k) := by show _ < _; have := HPL.out; omega
              obtain ⟨gl, hgb, hgz⟩ := hN.out.len
              obtain ⟨⟨n1, n2⟩, _, _⟩ := hN.out.pr (j := m + 1) (by omega)
              obtain ⟨⟨n3, n4⟩, _, _⟩ := hN.out.pr (j := m) (by omega)
              have ea : pAt PS (m + 1) = rp (dd X Y j (m + 1)) := by rw [← HPS.out]; exact rr_at (by have := HKL.out; omega)
              have eb : pAt PS m = rp (dd X Y j m) := by rw [← HPS.out]; exact rr_at (by have := HKL.out; omega)
              rw [ea] at n1 n2
              rw [eb] at n3 n4
              have n1 : wz.cell? ⟨gn, (m + 1) * 2, none⟩ = some (.int .i64 (dd X Y j (m + 1)).num) := n1
              have n2 : wz.cell? ⟨gn, (m + 1) * 2 + 1, none⟩ = some (.int .i64 ((dd X Y j (m + 1)).den : Int)) := n2
              have n3 : wz.cell? ⟨gn, m * 2, none⟩ = some (.int .i64 (dd X Y j m).num) := n3
              have n4 : wz.cell? ⟨gn, m * 2 + 1, none⟩ = some (.int .i64 ((dd X Y j m).den : Int)) := n4
              have x1 := HX.out wz hbel (m + j + 1) (by have := HKL.out; omega)
              have x2 := HX.out wz hbel m (by have := HKL.out; omega)
              have hgx : g < wz.heap.size := Nat.lt_of_lt_of_le hg hsz
              have p1 := HPX.out (m + j + 1) (by have := HKL.out; omega)
              have p2 := HPX.out m (by have := HKL.out; omega)
              have d0 := HD.out m (m + j + 1) (by omega) (by have := HKL.out; omega)
              have f1 := dd_fit1 (k := j) (i := m) HD.out HPX.out HPY.out (by have := HKL.out; omega) (by have := HKL.out; omega)
              have f2 := dd_fit2 (k := j) (i := m) HD.out HPX.out HPY.out (by have := HKL.out; omega) (by have := HKL.out; omega) d0 (by omega)
              have HRS := hide (rr_succ X Y (j + 1) m)
              have hE : dd X Y (j + 1) m = (dd X Y j (m + 1) - dd X Y j m) * qf 1 (X (m + j + 1) - X m) := rfl
              obtain ⟨x, hxe⟩ : ∃ x, X (m + j + 1) = x := ⟨_, rfl⟩
              obtain ⟨y, hye⟩ : ∃ x, X m = x := ⟨_, rfl⟩
              rw [hxe] at x1 p1 d0 f2 hE
              rw [hye] at x2 p2 d0 f2 hE
              have ew : IntKind.i64.wrap (x - y) = x - y := IntWalk.i64_in _ (by omega)
              have G2 := hide fun w => fracS_c 1 (x - y) w (by omega) (by omega) d0
              obtain ⟨r1, hr1⟩ : ∃ r, dd X Y j (m + 1) = r := ⟨_, rfl⟩
              obtain ⟨r2, hr2⟩ : ∃ r, dd X Y j m = r := ⟨_, rfl⟩
              obtain ⟨r3, hr3⟩ : ∃ r, dd X Y (j + 1) m = r := ⟨_, rfl⟩
              obtain ⟨s, hs⟩ : ∃ r, qf 1 (x - y) = r := ⟨_, rfl⟩
              rw [hr1] at n1 n2 f1 f2 hE
              rw [hr2] at n3 n4 f1 f2 hE
              rw [hr3] at HRS hE
              rw [hs] at G2 f2 hE
              have G1 := hide fun w => minusS_d r1 r2 w f1
              obtain ⟨t, ht⟩ : ∃ r, r1 - r2 = r := ⟨_, rfl⟩
              rw [ht] at G1 f2 hE
              have G3 := hide fun w => timesS_d t s w f2
              rw [← hE] at G3
              have k1 := cell_grn (Below.refl wz.heap.size wz) hgz n1
              have k2 := cell_grn (Below.refl wz.heap.size wz) hgz n2
              have k3 := cell_grn (Below.refl wz.heap.size wz) hgz n3
              have k4 := cell_grn (Below.refl wz.heap.size wz) hgz n4
              have k5 := cell_grn (Below.refl wz.heap.size wz) hgx x1
              have k6 := cell_grn (Below.refl wz.heap.size wz) hgx x2
              have hol := rr_len X Y (j + 1) m
              obtain ⟨RS, hRS⟩ : ∃ P, rr X Y (j + 1) m = P := ⟨_, rfl⟩
              rw [hRS] at hO hol HRS
              obtain ⟨Ar, cr, rfl, _, _, _⟩ := hO.out.sl
              have HOL : Hid (RS.length ≤ 1000) := by show _ ≤ _; have := HKL.out; omega
              clear hr1 hr2 hr3 hs ht hE f1 f2 d0 p1 p2 hxe hye hRS hol x1 x2 n1 n2 n3 n4 ea eb gl
              go_wp2_with fail
              refine wp_region_one_tail 25 (v := .slice Ar RS.length cr) (by kernel_rfl) (by kernel_rfl) rfl (Or.inl ⟨by rfl, fun _ _ => rfl⟩) ?_
              simp only [List.take_succ_cons, List.take_zero, List.drop_succ_cons, List.drop_zero, Act.put, List.setIfInBounds_toArray, List.set_cons_zero, List.set_cons_succ]
              repeat (go_big_quiet_step ((first | (go_at_call 52; with_reducible exact calls_grn G1.out) | (go_at_call 25; with_reducible exact calls_grn G2.out) | (go_at_call 27; with_reducible exact calls_grn G3.out))))
              refine wpQuiet_nil ?_
              intro w6 hb6
              clear k1 k2 k3 k4 k5 k6
              have hO6 := hO.out.below hb6
              have hF6 := hide (hF.out.below hb6)
              have hN6 := hide (hN.out.below hb6)
              have hbw6 := hbel.trans (hb6.mono hsz)
              have hs6 := hbw6.size
              go_wp2_with (at_builtin; refine wpList_push_frac _ rfl (.tmp 47) (.tmp 72) rfl w.heap.size _ RS r3.num (r3.den : Int) _ 1 rfl rfl hO6 hs6 (by have := HOL.out; omega) ?_; intro v9 w9 hown9 hb9 hg9 hat9 hlt9)
              refine noPanic_normal ?_
              have hown9 : Hid (OwnP w9 w.heap.size v9 (rr X Y (j + 1) (m + 1))) := by show OwnP _ _ _ _; rw [HRS.out]; exact hown9
              have hF9 := hide (hF6.out.keep hg9 hA1.out.symm.ne)
              have hN9 := hide (hN6.out.keep hg9 hA2.out.symm.ne)
              have hA19 := hide (hA1.out.symm.grow hat9 (fun b hb => by have := World.ownsRow.lt hF6.out b hb; omega)).symm
              have hA29 := hide (hA2.out.symm.grow hat9 (fun b hb => by have := World.ownsRow.lt hN6.out b hb; omega)).symm
              go_wp2_with fail
              go_roundw
              case rel => exact ⟨m + 1, by omega, by go_num, hown9, hA19, hA29, hF9, hN9, hbw6.trans hb9⟩
              case measure => simp [intOf]; omega
            · have hne : ¬ (m : Int) + 1 < (PS.length : Int) := by omega
              have hme : m = k - (j + 1) := by have := HPL.out; omega
              have HME := hide hme
              have hd : decide ((m : Int) + 1 < (PS.length : Int)) = false := decide_eq_false hne
              have ew : IntKind.i64.wrap ((m : Int) + 1) = (m : Int) + 1 := IntWalk.i64_in _ (by have := HPL.out; omega)
              have hmp : PS.length = m + 1 := by omega
              have HMP := hide hmp
              clear hme hlm hd hmp
              go_wp2_with fail
              go_roundw
              case rel => exact ⟨j + 1, by omega, by go_num, hF, (by rw [← HME.out]; exact hO), hA1, hbel⟩
              case measure => simp [intOf]; omega
        · obtain rfl : j = k := by omega
          have hni2 : ¬ (j : Int) < (j : Int) := by omega
          go_wp2_with fail
          go_ret
          exact ⟨_, rfl, hout.out, hbel⟩
end Go.Proofs.Ytgageljahebjnaa
