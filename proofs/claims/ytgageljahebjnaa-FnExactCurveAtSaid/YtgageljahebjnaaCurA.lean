
/-
  CurveAt of the program.
-/
import Derived.Test.YtgageljahebjnaaCurI
import Derived.Test.YtgageljahebjnaaCurB
import Derived.Test.YtgageljahebjnaaCurU
import Derived.Test.YtgageljahebjnaaRound
import Derived.RangeFuncLeaves
namespace Go.Proofs.Ytgageljahebjnaa
open Go.RowKit Go.Shelf
attribute [local go_sem] Oper.semAt_some

theorem cell_putObj {W : World} {l b o : Nat} {x : Obj} (h : b ≠ l) : (W.putObj l x).cell? ⟨b, o, none⟩ = W.cell? ⟨b, o, none⟩ := by
  simp only [World.cell?, World.putObj_heap_other h]
theorem frozen_putObj {W : World} {l b o : Nat} {x : Obj} (h : b ≠ l) : (W.putObj l x).frozen? ⟨b, o, none⟩ = W.frozen? ⟨b, o, none⟩ := by
  simp only [World.frozen?, World.putObj_heap_other h]
theorem Pr.putObj {W : World} {l b : Nat} {x y : Int} (h : Pr W b x y) (o : Obj) (hne : b ≠ l) : Pr (W.putObj l o) b x y := by
  obtain ⟨⟨h1, h2⟩, h3, h4⟩ := h
  exact ⟨⟨(cell_putObj hne).trans h1, (cell_putObj hne).trans h2⟩, (frozen_putObj hne).trans h3, (frozen_putObj hne).trans h4⟩
theorem Pr.not_book {W : World} {b l : Nat} {x y : Int} (h : Pr W b x y) {o : Obj} (ho : W.heap[l]? = some o) (hc : o.isCells = false) : b ≠ l := by
  rintro rfl
  have h1 := h.1.1
  simp only [World.cell?, ho] at h1
  cases o <;> simp_all [Obj.isCells]
theorem below_putObj {B : Nat} {A W : World} (h : Below B A W) {l : Nat} (o : Obj) (hl : B ≤ l) : Below B A (W.putObj l o) :=
  ⟨h.os, h.tape, h.output, by rw [World.putObj_size]; exact h.size, fun k hk => (World.putObj_heap_other (by omega)).trans (h.block k hk)⟩

/-- What holds between two rounds. -/
def RndI (W0 : World) (vb gf off n cf : Nat) (X Y : Nat → Int) (z : Int) (k : Nat) (W : World) : Prop :=
  Pr W vb (hv X Y n z k).num ((hv X Y n z k).den : Int) ∧ Below vb W0 W ∧ W.cell? ⟨vb + 1, 0, none⟩ = some (.slice (some ⟨gf, off, none⟩) n cf)
theorem RndI.abides {W0 : World} {vb gf off n cf : Nat} {X Y : Nat → Int} {z : Int} {k B : Nat} (hB : vb + 1 < B) : Abides B (RndI W0 vb gf off n cf X Y z k) := fun W l o o' hl _ _ ⟨h1, h2, h3⟩ =>
  ⟨h1.putObj o' (by omega), below_putObj h2 o' (by omega), (cell_putObj (by omega)).trans h3⟩

theorem box3 (w : World) (T1 T2 T3 : TypeId) (x y : Value) : ∃ V, ((w.alloc (.cells #[x] T1)).alloc (.cells #[y] T2)).alloc (.cells #[.int .i64 0, .int .i64 0] T3) = V ∧ Below w.heap.size w V ∧ V.heap.size = w.heap.size + 3 ∧
    V.cell? ⟨w.heap.size, 0, none⟩ = some x ∧ V.cell? ⟨w.heap.size + 1, 0, none⟩ = some y ∧ Pr V (w.heap.size + 1 + 1) 0 0 := by
  have h1 := Boxed.new w T1 x
  have h2 := Boxed.new (w.alloc (.cells #[x] T1)) T2 y
  have e2 : (w.alloc (.cells #[x] T1)).heap.size = w.heap.size + 1 := by simp
  have e3 : ((w.alloc (.cells #[x] T1)).alloc (.cells #[y] T2)).heap.size = w.heap.size + 1 + 1 := by simp
  obtain ⟨V, hV, hb, hs, hp⟩ := new1 ((w.alloc (.cells #[x] T1)).alloc (.cells #[y] T2)) T3 0 0
  rw [e2] at h2
  rw [e3] at hp hs
  refine ⟨V, hV, ?_, by omega, ?_, ?_, hp⟩
  · rw [← hV]; exact below_alloc' (below_alloc' (below_alloc' (Below.refl _ _) _) _) _
  · rw [← hV]; exact ((h1.alloc _).alloc _).cell
  · rw [← hV]; exact (h2.alloc _).cell

set_option maxRecDepth 100000 in
set_option maxHeartbeats 4000000 in
theorem CurveI_yes (u v : Value) (xs ys : List Int) (z : Int) (n : Nat) (w : World) (hx : Rd w u xs) (hy : Rd w v ys) (hp : okP5 xs ys = true) (hN1 : xs.length = n) (hN2 : ys.length = n) (h1 : 1 ≤ n) (h5 : n ≤ 5) (hd : Dif (atL xs) n) (px : Pl (atL xs) n) (py : Pl (atL ys) n) (hz : -12 ≤ z ∧ z ≤ 12) :
    Calls Try.prog 10 #[u, v, .int .i64 z] w fun e w' => e = .returned (.tuple #[.agg #[.int .i64 (hv (atL xs) (atL ys) n z n).num, .int .i64 ((hv (atL xs) (atL ys) n z n).den : Int)], .bool true]) ∧ Below w.heap.size w w' := by
  have K1 := hide fun w hx hy => curveI_yes u v xs ys n w hx hy hp hN1 hN2 h1 h5 hd px py
  have K2 := hide (in_c true z (-12) 12 · (by simp; omega))
  obtain ⟨A, c, rfl, hc, hm, _⟩ := id hx
  obtain ⟨A2, c2, rfl, hc2, hm2, _⟩ := id hy
  have HHX := hide hx
  have HHY := hide hy
  obtain ⟨g, off, rfl, hg, hcl⟩ := hx.at (by omega)
  rw [hN1] at hc hcl HHX K1 ⊢
  rw [hN2] at hc2 HHY K1 ⊢
  have HX := hide fun (wz : World) (hb : Below w.heap.size w wz) k hk => (hb.cell (p := ⟨g, off + k, none⟩) hg).trans (hcl k hk)
  obtain ⟨X, hX⟩ : ∃ X, atL xs = X := ⟨_, rfl⟩
  obtain ⟨Y, hY⟩ : ∃ Y, atL ys = Y := ⟨_, rfl⟩
  rw [hX] at HX hd px K1 ⊢
  rw [hY] at py K1 ⊢
  have HD : Hid (Dis X n) := fun i j a b e => hd i j a b (by omega)
  have HPX := hide px
  have HPY := hide py
  clear hcl hx hy hX hY hN1 hN2 hd px py hp
  refine (callsIn_wide (n := 6)).1 (callsIn_of_wp_marks Try.func10 rfl trivial (wpIn_wide.2 ?_) rfl)
  simp only [Try.ntmps10, List.size_toArray, List.length_cons, List.length_nil, Nat.reduceAdd, Nat.reduceSub, Array.replicate_succ, Array.replicate_zero, List.push_toArray, List.append_toArray, List.nil_append, List.cons_append]
  go_wp2_with fail
  obtain ⟨V, hV, hbV, hVs, b1, b2, hR⟩ := box3 w 22 3 24 (.slice (some ⟨g, off, none⟩) n c) (.int .i64 z)
  rw [hV]
  clear hV
  refine (K1.out _ (HHX.out.below hbV) (HHY.out.below hbV)).mono ?_
  rintro e w1 ⟨v', rfl, hsl, hb1⟩
  have hs1 := hb1.size
  have hfl := fac_len X Y n
  obtain ⟨Af, cf, rfl, hcf, hmf, h4⟩ := hsl
  obtain ⟨gf, of, rfl, hgf, hgf2, hcf2, _⟩ := h4 (by omega)
  rw [hfl] at hcf hcf2 ⊢
  have c1 := (hb1.cell (p := ⟨w.heap.size, 0, none⟩) (by show w.heap.size < _; omega)).trans b1
  have c2' := (hb1.cell (p := ⟨w.heap.size + 1, 0, none⟩) (by show w.heap.size + 1 < _; omega)).trans b2
  have hR1 := hR.below hb1 (by omega)
  have HCF := hide hcf2
  have HR1 := hide hR1
  have hbw1 : Below w.heap.size w w1 := hbV.trans (hb1.mono (by omega))
  have F0 := hide fun w => whole_c 0 w
  have hr0 : (((0 : Int)) : Rat) = hv X Y n z 0 := (qf_one 0).symm
  rw [hr0] at F0
  obtain ⟨r, hr⟩ : ∃ r, hv X Y n z 0 = r := ⟨_, rfl⟩
  rw [hr] at F0
  have HR0 := hide hr
  have HFL := hide hfl
  clear hr hr0 hcf2 h4 hR hR1 hfl b1 b2
  go_wp2_with (first | (go_at_call 29; refine (K2.out _).mono ?_; rintro e wa ⟨rfl, rfl⟩))
  refine (F0.out _).mono ?_
  rintro e w2 ⟨rfl, hb2⟩
  have hs2 := hb2.size
  go_wp2_with fail
  obtain ⟨U, hU, hbU, hUs, hP⟩ := new1 w2 24 r.num (r.den : Int)
  rw [hU]
  have HP := hide hP
  clear hU hP
  refine (backward_c _ _ _ _).mono ?_
  rintro e w3 ⟨rfl, rfl⟩
  go_wp2_with fail
  obtain ⟨vb, hvb⟩ : ∃ b, w2.heap.size = b := ⟨_, rfl⟩
  rw [hvb] at hbU hUs HP hs2 ⊢
  have HP0 : Pr U vb r.num (r.den : Int) := HP.out
  obtain ⟨W0, hW0, hb0, hs0, hp0, hbx⟩ : ∃ W0, U.alloc (.cells #[.slice (some ⟨gf, of, none⟩) n cf] 39) = W0 ∧ Below U.heap.size U W0 ∧ W0.heap.size = vb + 2 ∧ Pr W0 vb r.num (r.den : Int) ∧ W0.cell? ⟨vb + 1, 0, none⟩ = some (.slice (some ⟨gf, of, none⟩) n cf) := by
    have hB := below_alloc' (Below.refl U.heap.size U) (.cells #[.slice (some ⟨gf, of, none⟩) n cf] 39)
    refine ⟨_, rfl, hB, by simp; omega, HP0.below hB (by omega), ?_⟩
    have := (Boxed.new U 39 (.slice (some ⟨gf, of, none⟩) n cf)).cell
    rwa [hUs] at this
  rw [hW0]
  have hb10 : Below w1.heap.size w1 W0 := hb2.trans ((hbU.mono hs2).trans (hb0.mono (by omega)))
  have hbw0 : Below w.heap.size w W0 := hbw1.trans (hb10.mono hbw1.size)
  have e1 := (hb10.cell (p := ⟨w.heap.size, 0, none⟩) (by show w.heap.size < _; omega)).trans c1
  have e2 := (hb10.cell (p := ⟨w.heap.size + 1, 0, none⟩) (by show w.heap.size + 1 < _; omega)).trans c2'
  have HR2 := hide (HR1.out.below hb10 (by omega))
  have HCF0 : Hid (∀ j, j < n → W0.cell? ⟨gf, of + j * 2, none⟩ = some (.int .i64 (dd X Y j 0).num) ∧ W0.cell? ⟨gf, of + j * 2 + 1, none⟩ = some (.int .i64 ((dd X Y j 0).den : Int))) := fun j hj => by
    have h := HCF.out j hj
    rw [fac_at hj] at h
    exact ⟨(hb10.cell (p := ⟨gf, of + j * 2, none⟩) (by show gf < _; omega)).trans h.1, (hb10.cell (p := ⟨gf, of + j * 2 + 1, none⟩) (by show gf < _; omega)).trans h.2⟩
  have hgv : gf < vb := by omega
  have hswv : w.heap.size + 2 < vb := by omega
  have HI0 : Hid (RndI W0 vb gf of n cf X Y z 0 W0) := ⟨by rw [HR0.out]; exact hp0, Below.refl _ _, hbx⟩
  clear hW0 hb0 HP0 HP hbU hUs hb2 hs2 c1 c2' HCF HR1 hvb hb1 hs1 hgf2 hb10 hp0 hbx
  refine (wpIn_wide (n := 6)).1 ?_
  refine wpIn_rangeFunc_idx (F := Fence.wide) (n := 6) rfl (by omega) (gf := 59) (lb := #[.pointer (some ⟨vb + 1, 0, none⟩)]) rfl trivial (enters_of Try.func59 (by kernel_rfl) rfl)
    n (encB (fac X Y n)) (fun _ => rfl) (RndI W0 vb gf of n cf X Y z) ?abides ?start ?seq
    (fun k a' W => ∃ Bx, vb + 1 < Bx ∧ Pr W Bx (dd X Y (n - 1 - k) 0).num ((dd X Y (n - 1 - k) 0).den : Int) ∧ a' =
        { tmps := #[Value.slice (some { block := g, off := off }) n c, Value.slice A2 n c2, Value.int IntKind.i64 z,
          Value.pointer (some { block := w.heap.size, off := 0 }), undef,
          Value.pointer (some { block := w.heap.size + 1, off := 0 }),
          Value.pointer (some { block := w.heap.size + 1 + 1, off := 0 }), Value.bool false,
          Value.slice (some { block := gf, off := of }) n cf, Value.bool true,
          Value.pointer (some { block := vb, off := 0 }), Value.int .i64 ((n - 1 - k : Nat) : Int), Value.pointer (some { block := Bx, off := 0 }),
          Value.tuple #[Value.slice (some { block := gf, off := of }) n cf, Value.bool true],
          Value.slice (some { block := g, off := off }) n c, Value.slice A2 n c2,
          Value.tuple #[Value.slice (some { block := gf, off := of }) n cf, Value.bool true],
          Value.slice (some { block := gf, off := of }) n cf, Value.bool true, Value.bool true, Value.bool false,
          Value.bool false, Value.int IntKind.i64 z, Value.bool true, Value.bool false, Value.bool false, undef,
          Value.agg #[Value.int IntKind.i64 r.num, Value.int IntKind.i64 (r.den : Int)],
          Value.slice (some { block := gf, off := of }) n cf,
          Value.func (Fn.func 59) #[] #[Value.pointer (some { block := vb + 1, off := 0 })], Value.int .i64 ((n - 1 - k : Nat) : Int), .agg #[.int .i64 (dd X Y (n - 1 - k) 0).num, .int .i64 ((dd X Y (n - 1 - k) 0).den : Int)],
          undef, undef, undef, undef, undef, undef, undef, undef, undef, undef, undef, undef]
          defers := [] })
    ?ax ?assign ?body ?done
  case abides => exact fun k => RndI.abides (by omega)
  case start =>
    intro o o'
    obtain ⟨h1, h2, h3⟩ := HI0.out
    have hb := below_alloc' (below_alloc' (Below.refl W0.heap.size W0) o) o'
    exact ⟨h1.below hb (by omega), h2.trans (hb.mono (by omega)), (hb.cell (p := ⟨vb + 1, 0, none⟩) (by show vb + 1 < _; omega)).trans h3⟩
  case seq =>
    intro l J hJ hY W hj
    have := back_idx Fence.wide 5 trivial rfl (by omega) l (vb + 1) gf of cf (fac X Y n) (by rw [HFL.out]; omega) J (fun k W h => ?_) (by rw [HFL.out]; exact hY) W hj
    · rw [HFL.out] at this
      exact this
    · rw [HFL.out]
      obtain ⟨-, h2, h3⟩ := hJ k W h
      refine ⟨h3, fun j hj => ?_⟩
      rw [fac_at hj]
      have h := HCF0.out j hj
      exact ⟨(h2.cell (p := ⟨gf, of + j * 2, none⟩) hgv).trans h.1, (h2.cell (p := ⟨gf, of + j * 2 + 1, none⟩) hgv).trans h.2⟩
  case ax =>
    rintro k a' W l o o' hl ho hc ⟨Bx, h1, h2, h3⟩
    exact ⟨Bx, h1, h2.putObj o' (h2.not_book ho hc), h3⟩
  case assign =>
    intro l k W K hk hI hK
    obtain ⟨i, hi⟩ : ∃ i, n - 1 - k = i := ⟨_, rfl⟩
    have he : encB (fac X Y n) k = #[.int .i64 (i : Int), .agg #[.int .i64 (dd X Y i 0).num, .int .i64 ((dd X Y i 0).den : Int)]] := by
      simp only [encB]
      rw [HFL.out, hi, fac_at (by omega)]
      rfl
    rw [he]
    rw [hi] at hK
    obtain ⟨p, hp⟩ : ∃ p, (dd X Y i 0).num = p := ⟨_, rfl⟩
    obtain ⟨q, hq⟩ : ∃ p, ((dd X Y i 0).den : Int) = p := ⟨_, rfl⟩
    rw [hp, hq] at hK ⊢
    clear he hp hq hi
    gi_wp2
    obtain ⟨W', hW', hbW', hs', hP'⟩ := new1 W 24 p q
    obtain ⟨h1, h2, h3⟩ := hI
    have hlt := cell_lt h3
    refine hK _ _ ((KeepsOthers.alloc _ _).from _) ?_ ⟨W.heap.size, hlt, by rw [hW']; exact hP', rfl⟩
    rw [hW']
    exact ⟨h1.below hbW' (by omega), h2.trans (hbW'.mono (by omega)), (hbW'.cell (p := ⟨vb + 1, 0, none⟩) (by show vb + 1 < _; omega)).trans h3⟩
  case body =>
    rintro l k a' W hk ⟨hp, hb, hbx⟩ ⟨Bx, hBx, hpx, rfl⟩
    obtain ⟨i, hi⟩ : ∃ i, n - 1 - k = i := ⟨_, rfl⟩
    have hlt := cell_lt hbx
    have hlx := cell_lt hpx.1.1
    have hin : i < n := by omega
    have i1 : (i : Int) < (n : Int) := by omega
    have hbwW : Below w.heap.size w W := hbw0.trans (hb.mono (by omega))
    have x1 := HX.out W hbwW i hin
    have z1 := (hb.cell (p := ⟨w.heap.size, 0, none⟩) (by show w.heap.size < _; omega)).trans e1
    have z2 := (hb.cell (p := ⟨w.heap.size + 1, 0, none⟩) (by show w.heap.size + 1 < _; omega)).trans e2
    have f1 := hv_fit1 (m := k) HD.out HPX.out HPY.out h5 hz hk
    have f2 := hv_fit2 (m := k) HD.out HPX.out HPY.out h5 hz hk
    have hE : hv X Y n z (k + 1) = hv X Y n z k * qf (z - X (n - 1 - k)) 1 + dd X Y (n - 1 - k) 0 := rfl
    have pxi := HPX.out i hin
    rw [hi] at f1 f2 hE hpx ⊢
    obtain ⟨x, hxe⟩ : ∃ x, X i = x := ⟨_, rfl⟩
    rw [hxe] at x1 f1 f2 hE pxi
    rw [qf_one] at f1 f2 hE
    have ew : IntKind.i64.wrap (z - x) = z - x := IntWalk.i64_in _ (by omega)
    have G1 := hide fun w => whole_c (z - x) w
    have HKI : Hid (∀ Z, Pr Z vb (hv X Y n z (k + 1)).num ((hv X Y n z (k + 1)).den : Int) → Below vb W0 Z → Z.cell? ⟨vb + 1, 0, none⟩ = some (.slice (some ⟨gf, of, none⟩) n cf) → RndI W0 vb gf of n cf X Y z (k + 1) Z) := fun Z h1 h2 h3 => ⟨h1, h2, h3⟩
    obtain ⟨p, hpe⟩ : ∃ r, hv X Y n z k = r := ⟨_, rfl⟩
    obtain ⟨q, hqe⟩ : ∃ r, hv X Y n z (k + 1) = r := ⟨_, rfl⟩
    obtain ⟨d, hde⟩ : ∃ r, dd X Y i 0 = r := ⟨_, rfl⟩
    obtain ⟨s, hse⟩ : ∃ r, ((z - x : Int) : Rat) = r := ⟨_, rfl⟩
    rw [hpe] at f1 f2 hE hp
    rw [hqe] at hE HKI
    rw [hde] at f2 hE hpx ⊢
    rw [hse] at G1 f1 f2 hE
    have G2 := hide fun w => timesI_d p s w f1
    obtain ⟨t, hte⟩ : ∃ r, p * s = r := ⟨_, rfl⟩
    rw [hte] at G2 f2 hE
    have G3 := hide fun w => plusI_d t d w f2
    rw [← hE] at G3
    obtain ⟨⟨a1, a2⟩, a3, a4⟩ := id hp
    obtain ⟨⟨b1, b2⟩, -, -⟩ := id hpx
    have hgw : g < W.heap.size := Nat.lt_of_lt_of_le hg hbwW.size
    have k1 := cell_grn (Below.refl W.heap.size W) hgw x1
    have k2 := cell_grn (Below.refl W.heap.size W) (by omega) z1
    have k3 := cell_grn (Below.refl W.heap.size W) (by omega) z2
    have k4 := cell_grn (Below.refl W.heap.size W) (by omega) a1
    have k5 := cell_grn (Below.refl W.heap.size W) (by omega) a2
    have k6 := cell_grn (Below.refl W.heap.size W) hlx b1
    have k7 := cell_grn (Below.refl W.heap.size W) hlx b2
    have HP := hide hp
    have HB := hide hb
    have HBX := hide hbx
    clear hxe hpe hqe hde hse hte hE f1 f2 x1 z1 z2 a1 a2 a3 a4 b1 b2 hp hpx hi pxi hb hbx e1 e2
    refine wpIn_block ?_
    refine wpIn_region_below_tail 11 (fun ⟨_, _, h⟩ => h) (by kernel_rfl) (by kernel_rfl) (by kernel_rfl) ?_
    simp only [List.take_succ_cons, List.take_zero, List.drop_succ_cons, List.drop_zero]
    repeat (go_big_quiet_step ((first | (go_at_call 30; with_reducible exact calls_grn G1.out) | (go_at_call 32; with_reducible exact calls_grn G2.out) | (go_at_call 33; with_reducible exact calls_grn G3.out))))
    refine wpQuiet_nil ?_
    intro w6 hb6
    have hpr6 := HP.out.below hb6 (by omega)
    obtain ⟨Z, hZ, hbZ, hPZ, hZs, hZo⟩ := hpr6.put q.num (q.den : Int)
    obtain ⟨⟨a1, a2⟩, a3, a4⟩ := hpr6
    have HKF : Hid (KeepsFrom W0.heap.size W Z) := by
      show KeepsFrom _ _ _
      rw [← hZ]
      refine KeepsFrom.trans (Y := w6) ⟨hb6.size, fun j o _ hj _ => (hb6.block j (Array.getElem?_eq_some_iff.1 hj).1).trans hj⟩ (((KeepsOthers.setCell _ _ _).trans (KeepsOthers.setCell _ _ _)).from _)
    have HC := hide ((hZo (vb + 1) 0 (by omega)).1.trans ((hb6.cell (p := ⟨vb + 1, 0, none⟩) (by show vb + 1 < _; omega)).trans HBX.out))
    have HPZ := hide hPZ
    clear hPZ hZo k1 k2 k3 k4 k5 k6 k7
    go_wp2_with fail
    exact ⟨HKF.out, HKI.out _ HPZ.out ((HB.out.trans (hb6.mono (by omega))).trans hbZ) HC.out⟩
  case done =>
    rintro D W hD ⟨hp, hb, hbx⟩ hK
    have hRW := HR2.out.keep hb (by omega)
    obtain ⟨q, hq⟩ : ∃ r, hv X Y n z n = r := ⟨_, rfl⟩
    have HQ := hide hq
    rw [hq] at hp
    obtain ⟨⟨a1, a2⟩, -, -⟩ := hp
    obtain ⟨Z, hZ, hbZ, hPZ, hZs, hZo⟩ := hRW.put q.num (q.den : Int)
    obtain ⟨⟨b1, b2⟩, b3, b4⟩ := hRW
    have hKZ : Z.heap[D]? = some (.deferred (some [])) := by
      rw [← hZ]
      exact ((KeepsOthers.setCell _ _ _).trans (KeepsOthers.setCell _ _ _)).same _ _ hK rfl
    have HK := hide hKZ
    have HPZ := hide hPZ
    have hbwZ : Below w.heap.size w Z := (hbw0.trans (hb.mono (by omega))).trans (hbZ.mono (by omega))
    clear hPZ hZo hq hKZ hK e1 e2
    go_wp2_with fail
    refine ⟨by simp, .inl ⟨D, _, rfl, run_takeDeferred HK.out, ?_⟩⟩
    obtain ⟨⟨p1, p2⟩, -, -⟩ := HPZ.out.putObj (l := D) (.deferred none) (by omega)
    exact ⟨.tuple #[.agg #[.int .i64 (q).num, .int .i64 ((q).den : Int)], .bool true], by simp [results, Try.results10, go_sem, p1, p2], by rw [HQ.out], below_putObj hbwZ _ (by omega)⟩

set_option maxHeartbeats 1000000 in
theorem CurveI_no (u v : Value) (xs ys : List Int) (z : Int) (w : World) (hx : Rd w u xs) (hy : Rd w v ys) (h : ¬ ((okP5 xs ys = true ∧ Dif (atL xs) xs.length) ∧ (-12 ≤ z ∧ z ≤ 12))) :
    Calls Try.prog 10 #[u, v, .int .i64 z] w fun e w' => e = .returned (.tuple #[.agg #[.int .i64 0, .int .i64 0], .bool false]) ∧ Below w.heap.size w w' := by
  have HHX := hide hx
  have HHY := hide hy
  obtain ⟨A, c, rfl, hc, hm, _⟩ := hx
  obtain ⟨A2, c2, rfl, hc2, hm2, _⟩ := hy
  obtain ⟨V, hV, hbV, hVs, b1, b2, hR⟩ := box3 w 22 3 24 (.slice A xs.length c) (.int .i64 z)
  have HV := hide hV
  have HR := hide hR
  by_cases hok : okP5 xs ys = true ∧ Dif (atL xs) xs.length
  · have hz : (decide (-12 ≤ z) && decide (z ≤ 12)) = false := by
      cases hz : (decide (-12 ≤ z) && decide (z ≤ 12))
      · rfl
      · exact absurd ⟨hok, by simpa using hz⟩ h
    obtain ⟨hok, hdf⟩ := hok
    have hok' := hok
    simp only [okP5, Bool.and_eq_true, decide_eq_true_eq] at hok'
    obtain ⟨⟨⟨k1, k2, k3⟩, k4⟩, k5⟩ := hok'
    have K := hide fun w hx hy => curveI_yes (.slice A xs.length c) (.slice A2 ys.length c2) xs ys xs.length w hx hy hok rfl k1.symm (by omega) (by omega) hdf (fun i hi => by rw [atL_lt hi]; exact allB_get k4 hi) (fun i hi => by rw [atL_lt (by omega)]; exact allB_get k5 (by omega))
    have HZ := hide hz
    clear h hok hdf hz k1 k2 k3 k4 k5 hV hR
    go_enter Try.func10, Try.ntmps10
    go_wp2_with fail
    rw [HV.out]
    refine (K.out _ (HHX.out.below hbV) (HHY.out.below hbV)).mono ?_
    rintro e w1 ⟨v', rfl, hsl, hb1⟩
    have c2' := (hb1.cell (p := ⟨w.heap.size + 1, 0, none⟩) (by show w.heap.size + 1 < _; omega)).trans b2
    have HR1 := hide (HR.out.below hb1 (by omega))
    obtain ⟨Af, cf, rfl, hcf, hmf, h4⟩ := hsl
    clear h4 hcf hmf
    obtain ⟨Z, hZ, hbZ, hPZ, -⟩ := HR1.out.put 0 0
    obtain ⟨⟨r1, r2⟩, r3, r4⟩ := HR1.out
    obtain ⟨⟨z1, z2⟩, -, -⟩ := hPZ
    go_wp2_with (first | (go_at_call 29; refine (in_c false z (-12) 12 _ HZ.out).mono ?_; rintro e wa ⟨rfl, rfl⟩))
    refine bodyPost_ret (v := .tuple #[.agg #[.int .i64 0, .int .i64 0], .bool false]) (by simp [results, Try.results10, go_sem, z1, z2]) rfl ⟨rfl, (hbV.trans (hb1.mono (by omega))).trans (hbZ.mono (by omega))⟩
  · have K := hide fun w hx hy => curveI_no (.slice A xs.length c) (.slice A2 ys.length c2) xs ys w hx hy hok
    clear h hok hV hR
    go_enter Try.func10, Try.ntmps10
    go_wp2_with fail
    rw [HV.out]
    refine (K.out _ (HHX.out.below hbV) (HHY.out.below hbV)).mono ?_
    rintro e w1 ⟨rfl, hb1⟩
    have HR1 := hide (HR.out.below hb1 (by omega))
    obtain ⟨Z, hZ, hbZ, hPZ, -⟩ := HR1.out.put 0 0
    obtain ⟨⟨r1, r2⟩, r3, r4⟩ := HR1.out
    obtain ⟨⟨z1, z2⟩, -, -⟩ := hPZ
    go_wp2_with fail
    refine bodyPost_ret (v := .tuple #[.agg #[.int .i64 0, .int .i64 0], .bool false]) (by simp [results, Try.results10, go_sem, z1, z2]) rfl ⟨rfl, (hbV.trans (hb1.mono (by omega))).trans (hbZ.mono (by omega))⟩
end Go.Proofs.Ytgageljahebjnaa
