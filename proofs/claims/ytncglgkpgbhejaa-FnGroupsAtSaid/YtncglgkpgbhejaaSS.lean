/-
  Slices of slices of numbers: what the statements' own helpers do (copies, sizes, comparisons), for every input that can be read.
-/
import Derived.Test.YtncglgkpgbhejaaIn2
import Derived.Test.YtncglgkpgbhejaaFree
import Derived.Test.YtncglgkpgbhejaaSum
namespace Go.Proofs.Ytncglgkpgbhejaa
open Go.RowKit

theorem OwnV.cell {w : World} {B e g n c : Nat} {vs : List Value} (h : OwnV w B e (.slice (some ⟨g, 0, none⟩) n c) vs) {j : Nat} {u : Value} (hu : vs[j]? = some u) : w.cell? ⟨g, j, none⟩ = some u := by
  obtain ⟨A, c', hv, h2, h3, h4⟩ := h.shape
  simp only [Value.slice.injEq] at hv
  obtain ⟨rfl, rfl, rfl⟩ := hv
  have hj : j < vs.length := (List.getElem?_eq_some_iff.1 hu).1
  obtain ⟨g', e1, _, _, h5⟩ := h4 (by omega)
  simp only [Option.some.injEq, Addr.mk.injEq, and_true] at e1
  subst e1
  exact h5 j u hu
theorem OwnV.len {w : World} {B e g n c : Nat} {vs : List Value} (h : OwnV w B e (.slice (some ⟨g, 0, none⟩) n c) vs) : n = vs.length ∧ n ≤ c ∧ c ≤ 9223372036854775807 := by
  obtain ⟨A, c', hv, h2, h3, _⟩ := h.shape
  simp only [Value.slice.injEq] at hv
  obtain ⟨_, rfl, rfl⟩ := hv
  exact ⟨rfl, h2, h3⟩
theorem OwnV.frozen {w : World} {B e g n c : Nat} {vs : List Value} (h : OwnV w B e (.slice (some ⟨g, 0, none⟩) n c) vs) (j : Nat) : w.frozen? ⟨g, j, none⟩ = false := by
  obtain ⟨rfl, _, _⟩ := h.len
  exact World.ownsRow.frozenAt (by unfold OwnV at h; exact h) j
theorem OwnV.lt {w : World} {B e g n c : Nat} {vs : List Value} (h : OwnV w B e (.slice (some ⟨g, 0, none⟩) n c) vs) : B ≤ g ∧ g < w.heap.size := World.ownsRow.lt h g rfl
theorem OwnV.set {w : World} {B e g n c : Nat} {vs : List Value} (h : OwnV w B e (.slice (some ⟨g, 0, none⟩) n c) vs) (j : Nat) (u : Value) : OwnV (w.setCell ⟨g, j, none⟩ u) B e (.slice (some ⟨g, 0, none⟩) n c) (vs.set j u) := by
  obtain ⟨rfl, _, _⟩ := h.len
  unfold OwnV
  rw [List.length_set]
  exact (World.ownsRow.stored h j u).1

theorem rows : ValsOf Try.prog 22 28 (.slice none 0 0) 24 := ⟨Try.underlying22, by kernel_rfl, rfl⟩

/-- make([][]int, n) -/
theorem wpList_make_rows {P : Program} {t e : TypeId} (w : World) {ops : Array Oper} {rest : List Oper} {o : Oper} {a : Act} {Q : Exit → Act → World → Prop}
    (hg : o.guard = none) (l c : Operand) (hop : o.op = Op.makeSlice t l c) {z : Value} {b : Nat} (E : ValsOf P t e z b) (n : Nat)
    (hl : a.eval l = .int .i64 n) (hc : a.eval c = .int .i64 n) (hn : b * n ≤ 281474976710656) (hn2 : n ≤ 9223372036854775807) (hz : (madeCells z.cells n).toList = List.replicate n z)
    (hK : ∀ w', OwnV w' w.heap.size e (.slice (some ⟨w.heap.size, 0, none⟩) n n) (List.replicate n z) → Below w.heap.size w w' → w.heap.size < w'.heap.size →
      wpList P ops Q rest (a.put o.dst (.slice (some ⟨w.heap.size, 0, none⟩) n n)) w') : wpList P ops Q (o :: rest) a w := by
  obtain ⟨i0, hi, hz0, hz1, hz2⟩ := info_parts E.info
  refine wpList_make_full w hg l c t hop w.heap.size e i0 z 1 E.slice hi hz0 hz1 .i64 .i64 n n n hl hc rfl rfl (by rw [hz2]; exact hn) (by unfold maxLen; omega) (Nat.le_refl _) ?_
  intro w' h1 h2
  refine hK w' ?_ ⟨h2.os, h2.tape, h2.output, h2.size, fun k hk => h2.block k hk (by simp)⟩ (World.ownsRow.lt h1 _ rfl).2
  unfold OwnV
  rw [Nat.mul_one, hz] at h1
  rw [List.length_replicate]
  exact h1

/-- Row j of what v reads as. -/
theorem RdSS.at {w : World} {A : Option Addr} {n c : Nat} {xss : List (List Int)} (h : RdSS w (.slice A n c) xss) : n = xss.length ∧ n ≤ c ∧ c ≤ 9223372036854775807 ∧ (0 < n → ∃ g off, A = some ⟨g, off, none⟩ ∧ g < w.heap.size ∧
    ∀ j, j < n → ∃ u, w.cell? ⟨g, off + j, none⟩ = some u ∧ Rd w u (xss.getD j [])) := by
  obtain ⟨A', c', hv, h2, h3, h4⟩ := h
  simp only [Value.slice.injEq] at hv
  obtain ⟨rfl, rfl, rfl⟩ := hv
  exact ⟨rfl, h2, h3, h4⟩

set_option maxHeartbeats 400000 in
theorem szIntS_c (v : Value) (xs : List Int) (l : Int) (w : World) (h : Rd w v xs) (hl : 0 ≤ l ∧ l ≤ 1048576) :
    Calls Try.prog 29 #[v, .int .i64 l] w fun e w' => (∃ r : Int, e = .returned (.int .i64 r) ∧ r ≤ l ∧ (0 ≤ r → (xs.length : Int) ≤ 1048576)) ∧ w = w' := by
  obtain ⟨A, c, rfl, hc, hm, _⟩ := h
  obtain ⟨l1, l2⟩ := hl
  by_cases hlt : l - (xs.length : Int) < 0
  · go_enter Try.func29, Try.ntmps29
    go_wp2
    go_ret
    exact ⟨⟨-1, rfl, by omega, by omega⟩, rfl⟩
  · go_enter Try.func29, Try.ntmps29
    go_wp2
    go_ret
    exact ⟨⟨_, rfl, by omega, by omega⟩, rfl⟩

set_option maxHeartbeats 1000000 in
theorem szIntSS_c (v : Value) (xss : List (List Int)) (w : World) (h : RdSS w v xss) :
    Calls Try.prog 9 #[v, .int .i64 1048576] w fun e w' => (∃ r : Int, e = .returned (.int .i64 r) ∧ (0 ≤ r → xss.length ≤ 1048576 ∧ ∀ j, j < xss.length → (xss.getD j []).length ≤ 1048576)) ∧ w = w' := by
  obtain ⟨A, c, rfl, hc, hm, hcell⟩ := h
  by_cases hlt : 1048576 - (xss.length : Int) < 0
  · go_enter Try.func9, Try.ntmps9
    go_wp2
    go_ret
    exact ⟨⟨-1, rfl, by omega⟩, rfl⟩
  · go_enter Try.func9, Try.ntmps9
    go_wp2
    go_loop [1, 5] (fun l i => ∃ (k : Nat) (r : Int), k ≤ xss.length ∧ i = .int .i64 k ∧ l = .int .i64 r ∧ 0 ≤ r ∧ r ≤ 1048576 ∧ Hid (∀ j, j < k → (xss.getD j []).length ≤ 1048576)) (fun _ i => xss.length - (intOf i).toNat)
    case atStart => exact ⟨0, _, by omega, rfl, rfl, by omega, by omega, fun j hj => by omega⟩
    case round =>
      obtain ⟨k, r, hk, rfl, rfl, h0, h1, hall⟩ := hrel
      by_cases hlt : k < xss.length
      · obtain ⟨g, off, rfl, hg, hcl⟩ := hcell (by omega)
        obtain ⟨u, hu, hr⟩ := hcl k hlt
        have i1 : (k : Int) < (xss.length : Int) := by omega
        clear hcl hcell
        go_wp2_with fail
        refine (szIntS_c _ _ _ _ hr ⟨h0, h1⟩).mono ?_
        rintro e w' ⟨⟨r2, rfl, hr2, hr3⟩, rfl⟩
        by_cases hn : r2 < 0
        · go_wp2_with fail
          go_ret
          exact ⟨⟨-1, rfl, by omega⟩, rfl⟩
        · have HN : Hid (∀ j, j < k + 1 → (xss.getD j []).length ≤ 1048576) := fun j hj => by
            by_cases e : j = k
            · subst e; have := hr3 (by omega); omega
            · exact hall.out j (by omega)
          clear hr3
          go_wp2_with fail
          go_round
          case rel => exact ⟨k + 1, r2, by omega, by go_num, rfl, by omega, by omega, HN⟩
          case measure => simp [intOf]; omega
      · go_wp2_with fail
        go_ret
        exact ⟨⟨r, rfl, fun _ => ⟨by omega, fun j hj => hall.out j (by omega)⟩⟩, rfl⟩

/-- Rows of the call's own, each in a block of its own, in order. -/
def OwnSS (w : World) (B : Nat) (v : Value) (xss : List (List Int)) : Prop :=
  ∃ (g : Nat) (us : List Value) (bl : Nat → Nat), OwnV w B 28 v us ∧ v = .slice (some ⟨g, 0, none⟩) xss.length xss.length ∧ us.length = xss.length ∧ g < bl 0 ∧ bl xss.length ≤ w.heap.size ∧
    ∀ j, j < xss.length → bl j ≤ bl (j + 1) ∧ ∃ u, us[j]? = some u ∧ Sl w (bl j) u (xss.getD j []) ∧ (0 < (xss.getD j []).length → ∀ g, u.ownBlock = some g → g < bl (j + 1))
theorem OwnSS.rd {w : World} {B : Nat} {v : Value} {xss : List (List Int)} (h : OwnSS w B v xss) : RdSS w v xss := by
  obtain ⟨g, us, bl, h1, h2, h3, h4, h5, h6⟩ := h
  refine h1.rdSS ⟨h3, fun j u hu => ?_⟩
  have hj : j < xss.length := by rw [← h3]; exact (List.getElem?_eq_some_iff.1 hu).1
  obtain ⟨_, u', e, hs, _⟩ := h6 j hj
  rw [hu] at e
  cases e
  exact hs.rd
theorem OwnSS.below {w w' : World} {B : Nat} {v : Value} {xss : List (List Int)} (h : OwnSS w B v xss) (hb : Below w.heap.size w w') : OwnSS w' B v xss := by
  obtain ⟨g, us, bl, h1, h2, h3, h4, h5, h6⟩ := h
  refine ⟨g, us, bl, h1.below hb, h2, h3, h4, Nat.le_trans h5 hb.size, fun j hj => ?_⟩
  obtain ⟨e1, u, e2, e3, e4⟩ := h6 j hj
  exact ⟨e1, u, e2, e3.below hb, e4⟩

set_option maxHeartbeats 2000000 in
theorem toIntSS_c (v : Value) (xss : List (List Int)) (w : World) (h : RdSS w v xss) (hn : xss.length ≤ 1048576) (hr : ∀ j, j < xss.length → (xss.getD j []).length ≤ 1048576) :
    Calls Try.prog 11 #[v] w fun e w' => ∃ v', e = .returned v' ∧ OwnSS w' w.heap.size v' xss ∧ Below w.heap.size w w' := by
  obtain ⟨A, c, rfl, hc, hm, hcell⟩ := h
  have HR := hide hr
  clear hr
  go_enter Try.func11, Try.ntmps11
  go_wp2_with (at_make; refine wpList_make_rows _ rfl (.tmp 6) (.tmp 6) rfl rows xss.length rfl rfl (by omega) (by omega) (toList_madeCells_one _ _) ?_; intro w1 hown1 hbel1 hlt1)
  go_loopw [4] (fun i wr => ∃ (k : Nat) (us : List Value) (bl : Nat → Nat), k ≤ xss.length ∧ i = .int .i64 k ∧ OwnV wr w.heap.size 28 (.slice (some ⟨w.heap.size, 0, none⟩) xss.length xss.length) us ∧ Hid (us.length = xss.length) ∧ w.heap.size < bl 0 ∧ bl k ≤ wr.heap.size ∧
      Hid (∀ j, j < k → bl j ≤ bl (j + 1) ∧ ∃ u, us[j]? = some u ∧ Sl wr (bl j) u (xss.getD j []) ∧ (0 < (xss.getD j []).length → ∀ g, u.ownBlock = some g → g < bl (j + 1))) ∧ Below w.heap.size w wr) (fun i _ => xss.length - (intOf i).toNat)
  case atStart => exact ⟨0, _, fun _ => w.heap.size + 1, by omega, rfl, hown1, (by show _ = _; simp), by simp, (by show w.heap.size + 1 ≤ _; omega), fun j hj => by omega, hbel1⟩
  case round =>
    obtain ⟨k, us, bl, hk, rfl, hown, hl, hb0, hbk, hrows, hbel⟩ := hrel
    by_cases hlt : k < xss.length
    · obtain ⟨g, off, rfl, hg, hcl⟩ := hcell (by omega)
      obtain ⟨u, hu, hrd⟩ := hcl k hlt
      have hck : wr.cell? ⟨g, off + k, none⟩ = some u := (hbel.cell (p := ⟨g, off + k, none⟩) hg).trans hu
      have i1 : (k : Int) < (xss.length : Int) := by omega
      have hul := HR.out k hlt
      have hrd' := hrd.below hbel
      obtain ⟨ys, hys⟩ : ∃ ys, xss.getD k [] = ys := ⟨_, rfl⟩
      rw [hys] at hul hrd'
      have HY := hide hys
      clear hcl hcell hys
      go_wp2_with fail
      refine (toIntS_c _ _ _ hrd' hul).mono ?_
      rintro e w2 ⟨v2, rfl, hs2, hb2⟩
      have hown2 := hown.below hb2
      have hlu := hl.out
      obtain ⟨z, hz⟩ : ∃ z, us[k]? = some z := ⟨us[k]'(by omega), List.getElem?_eq_getElem _⟩
      have hck2 := hown2.cell hz
      have hfk2 := hown2.frozen k
      have hlt2 := hown2.lt
      have hgrow := hb2.size
      have hnb : ∀ g, 0 < ys.length → v2.ownBlock = some g → g < w2.heap.size := fun g h0 hg' => hs2.lt h0 g hg'
      have HN := hide hnb
      have HS := hide hs2
      obtain ⟨A2, c2, rfl, _, _, _⟩ := id hs2
      have HZ := hide hz
      clear hnb hz hlu hul hrd hrd' hu
      go_wp2_with fail
      go_roundw
      case rel =>
        have hset := hown2.set k (.slice A2 ys.length c2)
        have hsk : ∀ {b : Nat} {x : Value} {zs : List Int}, w.heap.size < b → Sl w2 b x zs → Sl (w2.setCell ⟨w.heap.size, k, none⟩ (.slice A2 ys.length c2)) b x zs := fun hb hs => hs.keep (by simp [World.setCell]) fun g hg _ => Below.heap_setCell _ _ _ _ (fun e => by simp at e; omega)
        have hk1 : ¬ k + 1 ≤ k := by omega
        refine ⟨k + 1, us.set k (.slice A2 ys.length c2), fun j => if j ≤ k then bl j else w2.heap.size, by omega, by go_num, hset, (by show _ = _; simp; exact hl.out), by simpa using hb0, by simp [World.setCell, hk1], fun j hj => ?_, ?_⟩
        · by_cases e : j = k
          · subst e
            have hbj : w.heap.size < bl j := by
              have mono : ∀ m, m ≤ j → bl 0 ≤ bl m := fun m => by
                induction m with
                | zero => intro _; exact Nat.le_refl _
                | succ m ih => intro hm; have := ih (by omega); have := (hrows.out m (by omega)).1; omega
              have := mono j (Nat.le_refl _)
              omega
            simp only [Nat.le_refl, hk1, if_true, if_false]
            refine ⟨by omega, .slice A2 ys.length c2, by have := hl.out; rw [List.getElem?_set_self (by omega)], ?_, fun h0 g hg => ?_⟩
            · rw [HY.out]
              exact hsk hbj (HS.out.low hbk)
            · rw [HY.out] at h0
              exact HN.out g h0 hg
          · obtain ⟨e1, x, e2, e3, e4⟩ := hrows.out j (by omega)
            have h1 : j ≤ k := by omega
            have h2 : j + 1 ≤ k := by omega
            simp only [h1, h2, if_true]
            have hbj : w.heap.size < bl j := by
              have mono : ∀ m, m ≤ k → bl 0 ≤ bl m := fun m => by
                induction m with
                | zero => intro _; exact Nat.le_refl _
                | succ m ih => intro hm; have := ih (by omega); have := (hrows.out m (by omega)).1; omega
              have := mono j (by omega)
              omega
            exact ⟨e1, x, by rw [List.getElem?_set_ne (by omega)]; exact e2, hsk hbj (e3.below hb2), e4⟩
        · exact (hbel.trans (hb2.mono hbel.size)).setCell (Nat.le_refl _) _
      case measure => simp [intOf]; omega
    · obtain rfl : k = xss.length := by omega
      go_wp2_with fail
      go_ret
      exact ⟨_, rfl, ⟨w.heap.size, us, bl, hown, rfl, hl.out, hb0, hbk, hrows.out⟩, hbel⟩

set_option maxHeartbeats 1000000 in
theorem eqIntSS_same (u v : Value) (xss : List (List Int)) (w : World) (h1 : RdSS w u xss) (h2 : RdSS w v xss) :
    Calls Try.prog 13 #[u, v] w fun e w' => e = .returned (.bool true) ∧ Below w.heap.size w w' := by
  obtain ⟨A, c, rfl, hc, hm, hcell⟩ := h1
  obtain ⟨A2, c2, rfl, hc2, hm2, hcell2⟩ := h2
  go_enter Try.func13, Try.ntmps13
  go_wp2
  go_loopw [5] (fun i wr => ∃ k : Nat, k ≤ xss.length ∧ i = .int .i64 k ∧ Below w.heap.size w wr) (fun i _ => xss.length - (intOf i).toNat)
  case atStart => exact ⟨0, by omega, rfl, Below.refl _ _⟩
  case round =>
    obtain ⟨k, hk, rfl, hbel⟩ := hrel
    by_cases hlt : k < xss.length
    · obtain ⟨g, off, rfl, hg, hcl⟩ := hcell (by omega)
      obtain ⟨g2, off2, rfl, hg2, hcl2⟩ := hcell2 (by omega)
      obtain ⟨x, hx, hrx⟩ := hcl k hlt
      obtain ⟨y, hy, hry⟩ := hcl2 k hlt
      have hcx : wr.cell? ⟨g, off + k, none⟩ = some x := (hbel.cell (p := ⟨g, off + k, none⟩) hg).trans hx
      have hcy : wr.cell? ⟨g2, off2 + k, none⟩ = some y := (hbel.cell (p := ⟨g2, off2 + k, none⟩) hg2).trans hy
      have i1 : (k : Int) < (xss.length : Int) := by omega
      have hxw := hrx.below hbel
      have hyw := hry.below hbel
      have hsz := hbel.size
      clear hcl hcl2 hcell hcell2 hx hy hrx hry
      have kx := cell_grn (Below.refl wr.heap.size wr) (by omega) hcx
      have ky := cell_grn (Below.refl wr.heap.size wr) (by omega) hcy
      have K := hide fun w hw => eqIntS_c x y (xss.getD k []) (xss.getD k []) true w (hxw.below hw) (hyw.below hw) (by simp)
      clear hcx hcy
      go_wp2_with fail
      refine wp_region_below (by kernel_rfl) (by kernel_rfl) ?_
      repeat (go_big_quiet_step ((go_at_call 16; with_reducible exact calls_grn' K.out)))
      refine wpQuiet_nil ?_
      intro w' hw'
      go_wp2_with fail
      go_roundw
      case rel => exact ⟨k + 1, by omega, by go_num, hbel.trans (hw'.mono hbel.size)⟩
      case measure => simp [intOf]; omega
    · obtain rfl : k = xss.length := by omega
      go_wp2_with fail
      go_ret
      exact ⟨rfl, hbel⟩
end Go.Proofs.Ytncglgkpgbhejaa
