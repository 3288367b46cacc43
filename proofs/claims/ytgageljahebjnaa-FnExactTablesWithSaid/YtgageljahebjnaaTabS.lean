
/-
  Contracts: rowsFrom of the reference.
-/
import Derived.Test.YtgageljahebjnaaTabR
namespace Go.Proofs.Ytgageljahebjnaa
open Go.RowKit

theorem rowsII : ValsOf Try.prog 53 22 (.slice none 0 0) 24 := ⟨Try.underlying53, by kernel_rfl, rfl⟩
/-- The values us are the rows, each in a block of its own. -/
def RowsI (w : World) (B : Nat) (us : List Value) (rows : List (List Int)) : Prop := us.length = rows.length ∧ ∀ (j : Nat) u, us[j]? = some u → Own w B 3 u (rows.getD j [])
section
variable {w w' : World} {B B' : Nat} {v : Value} {us vs : List Value} {rows : List (List Int)}
theorem RowsI.nil (w : World) (B : Nat) : RowsI w B [] [] := ⟨rfl, by simp⟩
theorem RowsI.below (h : RowsI w B us rows) (hb : Below w.heap.size w w') : RowsI w' B us rows := ⟨h.1, fun j u hu => (h.2 j u hu).below hb⟩
theorem own_apartI {u : Value} {xs : List Int} (hu : Own w B 3 u xs) (hv : OwnV w B' 22 v vs) : u.ownBlock = none ∨ u.ownBlock ≠ v.ownBlock := by
  rcases hu.2 with ⟨rfl, _⟩ | ⟨g, cap, cur, rfl, _, hg, _⟩
  · left; rfl
  · right
    rcases hv.2 with ⟨rfl, _⟩ | ⟨g', cap', cur', rfl, _, hg', _⟩
    · simp [Value.ownBlock]
    · intro h
      have h : g = g' := by simpa [Value.ownBlock] using h
      subst h
      rw [hg] at hg'
      simp at hg'
theorem RowsI.keep (h : RowsI w B us rows) (hv : OwnV w B' 22 v vs) (hg : w.grownBy w' v.ownBlock) : RowsI w' B us rows :=
  ⟨h.1, fun j u hu => (h.2 j u hu).keep hg (own_apartI (h.2 j u hu) hv)⟩
theorem RowsI.low (h : RowsI w B us rows) (hb : B' ≤ B) : RowsI w B' us rows := ⟨h.1, fun j u hu => (h.2 j u hu).low hb⟩
theorem RowsI.snoc (h : RowsI w B us rows) {u : Value} {row : List Int} (hu : Own w B 3 u row) : RowsI w B (us ++ [u]) (rows ++ [row]) := by
  refine ⟨by simp [h.1], fun j x hx => ?_⟩
  by_cases hj : j < us.length
  · rw [List.getElem?_append_left hj] at hx
    have e : (rows ++ [row]).getD j [] = rows.getD j [] := by simp [List.getD, List.getElem?_append_left (show j < rows.length by rw [← h.1]; exact hj)]
    rw [e]
    exact h.2 j x hx
  · have hj2 : j = us.length := by
      have := (List.getElem?_eq_some_iff.1 hx).1
      simp at this
      omega
    subst hj2
    simp at hx
    subst hx
    have : (rows ++ [row]).getD us.length [] = row := by rw [h.1]; simp [List.getD]
    rw [this]
    exact hu
theorem OwnV.keepI {e : TypeId} (h : OwnV w B e v vs) {row : Option Nat} (hg : w.grownBy w' row) (hne : v.ownBlock = none ∨ v.ownBlock ≠ row) : OwnV w' B e v vs := World.ownsRow.kept h hg hne
theorem OwnV.lowI {e : TypeId} (h : OwnV w B e v vs) (hb : B' ≤ B) : OwnV w B' e v vs := by
  obtain ⟨hl, h0 | ⟨g, cap, cur, hv, hB, hr⟩⟩ := h
  · exact ⟨hl, .inl h0⟩
  · exact ⟨hl, .inr ⟨g, cap, cur, hv, by omega, hr⟩⟩
theorem lit_ownVI {w : World} {G B : Nat} (cs : Array Value) (n : Nat) (hn : cs.size = n) (hn2 : n ≤ 100) (hG : G = w.heap.size) (hR : B ≤ G) : OwnV (w.alloc (.cells cs 22)) B 22 (.slice (some ⟨G, 0, none⟩) n n) cs.toList := by
  subst hG hn
  have h := World.ownsRow_lit (base := w.heap.size) (e := 22) (size := 1) w cs cs.size (Nat.le_refl _) (by unfold maxLen; omega) (by simp)
  have h2 : OwnV (w.alloc (.cells cs 22)) w.heap.size 22 (.slice (some ⟨w.heap.size, 0, none⟩) cs.size cs.size) cs.toList := by
    unfold OwnV
    simpa using h
  exact h2.lowI hR
end
theorem OwnV.headI {w : World} {B e n c : Nat} {A : Option Addr} {vs : List Value} (h : OwnV w B e (.slice A n c) vs) (hn : 0 < n) : ∃ g, A = some ⟨g, 0, none⟩ ∧ g < w.heap.size ∧ ∀ (j : Nat) u, vs[j]? = some u → w.cell? ⟨g, j, none⟩ = some u := by
  obtain ⟨A', c', hv, _, _, h4⟩ := h.shape
  simp only [Value.slice.injEq] at hv
  obtain ⟨rfl, rfl, rfl⟩ := hv
  obtain ⟨g, h5, _, h6, h7⟩ := h4 hn
  exact ⟨g, h5, h6, h7⟩
theorem OwnV.formI {w : World} {B e : Nat} {v : Value} {vs : List Value} (h : OwnV w B e v vs) (hn : 0 < vs.length) : ∃ g c, v = .slice (some ⟨g, 0, none⟩) vs.length c := by
  obtain ⟨A', c', hv, _, _, h4⟩ := h.shape
  obtain ⟨g, h5, _⟩ := h4 hn
  exact ⟨g, c', by rw [hv, h5]⟩
theorem take_map_next {rows : List (List Int)} {j : Nat} (hj : j < rows.length) (k : Int) : (rows.take (j + 1)).map (fun r => k :: r) = (rows.take j).map (fun r => k :: r) ++ [k :: rows.getD j []] := by
  rw [List.take_succ_eq_append_getElem hj, List.map_append]
  simp [List.getD, hj]
/-- What rowsFrom gives. -/
def RowsFrom (cols : List Int) : Prop := ∀ (v : Value) (t : Int) (w : World), 0 ≤ t → t ≤ 6 → Rd w v cols →
  Calls Try.prog 63 #[v, .int .i64 t] w fun e w' => ∃ v' us, e = .returned v' ∧ OwnV w' w.heap.size 22 v' us ∧ RowsI w' w.heap.size us (rowsL cols t) ∧ Below w.heap.size w w'

set_option maxHeartbeats 1000000 in
theorem rowsFrom_one (c : Int) : RowsFrom [c] := by
  intro v t w h0 h6 hr
  obtain ⟨A, cp, rfl, hcp, hm, hcell⟩ := hr
  obtain ⟨g, off, rfl, hg, hcl⟩ := hcell (by simp)
  have hck := hcl 0 (by simp)
  rw [Nat.add_zero] at hck
  have hck : w.cell? ⟨g, off, none⟩ = some (.int .i64 c) := hck
  have hrow := rowsL_one c t h0
  rw [show ([c] : List Int).length = 1 from rfl] at hcp ⊢
  by_cases htc : t ≤ c
  · rw [if_pos htc] at hrow
    rw [hrow]
    clear hcl hcell hrow
    go_enter Try.func63, Try.ntmps63
    go_wp2_with fail
    go_ret
    have h1 : Own (w.alloc (.cells #[.int .i64 t] 3)) w.heap.size 3 (.slice (some ⟨w.heap.size, 0, none⟩) 1 1) [t] := Own.lit w 3 [t] (by simp)
    refine ⟨_, [.slice (some ⟨w.heap.size, 0, none⟩) 1 1], rfl, lit_ownVI #[.slice (some ⟨w.heap.size, 0, none⟩) 1 1] 1 rfl (by omega) (by simp) (by omega), ⟨rfl, fun j u hu => ?_⟩, by (repeat (first | exact Below.refl _ _ | assumption | refine Below.setCell ?_ (by first | (simp; done) | omega | (simp; omega) | (simp at *; omega)) _ | refine Below.drew ?_ | refine below_drewN ?_ _ | refine below_alloc' ?_ _ | refine below_to' ?_ (by assumption)))⟩
    have hj : j = 0 := by
      have := (List.getElem?_eq_some_iff.1 hu).1
      simp at this
      omega
    subst hj
    simp at hu
    subst hu
    exact h1.alloc _
  · rw [if_neg htc] at hrow
    rw [hrow]
    clear hcl hcell hrow
    go_enter Try.func63, Try.ntmps63
    go_wp2_with fail
    go_ret
    exact ⟨_, rfl, [], lit_ownVI #[] 0 rfl (by omega) rfl (Nat.le_refl _), RowsI.nil _ _, by (repeat (first | exact Below.refl _ _ | assumption | refine Below.setCell ?_ (by first | (simp; done) | omega | (simp; omega) | (simp at *; omega)) _ | refine Below.drew ?_ | refine below_drewN ?_ _ | refine below_alloc' ?_ _ | refine below_to' ?_ (by assumption)))⟩

set_option maxHeartbeats 4000000 in
theorem rowsFrom_cons {c c1 : Int} {cs : List Int} (hc6 : 0 ≤ c ∧ c ≤ 6) (hl3 : cs.length ≤ 1) (hcs : allB 0 6 (c1 :: cs) = true) (ih : RowsFrom (c1 :: cs)) : RowsFrom (c :: c1 :: cs) := by
  intro v t w h0 h6 hr
  have HR := hide hr
  obtain ⟨A, cp, rfl, hcp, hm, hcell⟩ := hr
  obtain ⟨g, off, rfl, hg, hcl⟩ := hcell (by simp)
  have hck := hcl 0 (by simp)
  rw [Nat.add_zero] at hck
  have hck : w.cell? ⟨g, off, none⟩ = some (.int .i64 c) := hck
  obtain ⟨N, hN⟩ : ∃ N, (c :: c1 :: cs).length = N := ⟨_, rfl⟩
  have hN2 : 2 ≤ N := by rw [← hN]; simp
  rw [hN] at hcp HR ⊢
  have hcp1 : ¬ cp = 1 := by omega
  have hN1 : ((N : Int) == 1) = false := beq_eq_false_iff_ne.2 (by omega)
  have hi0 : (0 : Int) < (N : Int) := by omega
  obtain ⟨ks, hks⟩ : ∃ ks, c1 :: cs = ks := ⟨_, rfl⟩
  have hksl : ks.length = cs.length + 1 := by rw [← hks, List.length_cons]
  rw [hks] at ih hcs HR ⊢
  have hrow := rowsL_cons c ks t
  rw [hrow]
  obtain ⟨K, hK⟩ : ∃ K, (min t c + 1).toNat = K := ⟨_, rfl⟩
  rw [hK]
  have HKK : Hid ((K : Int) = min t c + 1) := by show _ = _; omega
  have HIH := hide ih
  have HKL : Hid (1 ≤ ks.length ∧ ks.length ≤ 2) := by show _ ∧ _; omega
  have HLEN : Hid (∀ s, (rowsL ks s).length ≤ 343) := fun s => rowsL_len3 s hcs (by have := HKL.out; omega)
  have hK7 : K ≤ 7 := by have := HKK.out; omega
  have HTL : Hid (∀ k, k ≤ 7 → (rowsTo ks t k).length ≤ 343 * k) := fun k _ => by
    clear hrow
    induction k with
    | zero => simp [rowsTo_zero]
    | succ k ihk => rw [rowsTo_succ, List.length_append, List.length_map]; have := HLEN.out (t - k); have := ihk (by omega); omega
  clear hcl hcell hrow hks hksl hN ih hcs hl3 hK
  go_enter Try.func63, Try.ntmps63
  go_wp2_with fail
  obtain ⟨W, hW, hbW, hO0⟩ : ∃ W, w.alloc (.cells #[] 22) = W ∧ Below w.heap.size w W ∧ OwnV W w.heap.size 22 (.slice (some ⟨w.heap.size, 0, none⟩) 0 0) [] := ⟨_, rfl, by (repeat (first | exact Below.refl _ _ | assumption | refine Below.setCell ?_ (by first | (simp; done) | omega | (simp; omega) | (simp at *; omega)) _ | refine Below.drew ?_ | refine below_drewN ?_ _ | refine below_alloc' ?_ _ | refine below_to' ?_ (by assumption))), lit_ownVI #[] 0 rfl (by omega) rfl (Nat.le_refl _)⟩
  rw [hW]
  clear hW
  have HO0 := hide hO0
  clear hO0
  go_loopw [5, 6] (fun ot i wr => ∃ (k go no co : Nat) (us : List Value), k ≤ K ∧ i = .int .i64 k ∧ ot = .slice (some ⟨go, 0, none⟩) no co ∧ Hid (Below w.heap.size w wr ∧ OwnV wr w.heap.size 22 (.slice (some ⟨go, 0, none⟩) no co) us ∧ RowsI wr w.heap.size us (rowsTo ks t k))) (fun _ i _ => K - (intOf i).toNat)
  case atStart => exact ⟨0, w.heap.size, 0, 0, [], by omega, rfl, rfl, hbW, HO0.out, RowsI.nil _ _⟩
  case round =>
    rename World => wo
    obtain ⟨k, go, no, co, us, hk, rfl, rfl, hwo⟩ := hrel
    have hbo := hwo.out.1
    have hzo := hbo.size
    have cc := (hbo.cell (p := ⟨g, off, none⟩) hg).trans hck
    by_cases hkK : k < K
    · have hle : (k : Int) ≤ t ∧ (k : Int) ≤ c := by have := HKK.out; omega
      obtain ⟨hkt, hkc⟩ := hle
      have e1 : IntKind.i64.wrap (t - (k : Int)) = t - (k : Int) := IntWalk.i64_in _ (by omega)
      have hrt : Rd wo (.slice (some ⟨g, off + 1, none⟩) (N - 1) (cp - 1)) ks := (HR.out.below hbo).tailR _ (fun _ => rfl)
      have KS := hide (HIH.out (.slice (some ⟨g, off + 1, none⟩) (N - 1) (cp - 1)) (t - (k : Int)) wo (by omega) (by omega) hrt)
      clear hrt
      by_cases htc : t ≤ c
      all_goals
        go_wp2_with fail
        refine KS.out.mono ?_
        rintro e w2 ⟨vl, ul, rfl, hov2, hrw2, hb2⟩
        have hz2 := hb2.size
        have hLL := HLEN.out (t - k)
        have hTT := HTL.out k (by omega)
        obtain ⟨Al, cl, rfl, hcl1, hcl2, hcl3⟩ := hov2.shape
        have hul := hrw2.1
        obtain ⟨L, hL⟩ : ∃ L, ul.length = L := ⟨_, rfl⟩
        have HL : Hid (ul.length = L ∧ (rowsL ks (t - k)).length = L) := ⟨hL, by rw [← hul]; exact hL⟩
        have hL343 : L ≤ 343 := by omega
        have HFIT : Hid (∀ j, j < L → ((rowsL ks (t - k)).getD j []).length = ks.length) := fun j hj => by
          have hj2 : j < (rowsL ks (t - k)).length := by have := HL.out.2; omega
          have : (rowsL ks (t - k)).getD j [] = (rowsL ks (t - k))[j] := by simp [List.getD, hj2]
          rw [this]
          exact (rowsL_fit (List.getElem_mem hj2)).len
        have HLST : Hid (OwnV w2 wo.heap.size 22 (.slice Al L cl) ul ∧ RowsI w2 wo.heap.size ul (rowsL ks (t - k))) := by
          show _ ∧ _
          rw [← hL]
          exact ⟨hov2, hrw2⟩
        rw [hL] at hcl1 ⊢
        have hov := hwo.out.2.1.below hb2
        have hri := hwo.out.2.2.below hb2
        have hlt0 := (World.ownsRow.lt hwo.out.2.1) go rfl
        have HST : Hid (Below w.heap.size w w2 ∧ OwnV w2 w.heap.size 22 (.slice (some ⟨go, 0, none⟩) no co) us ∧ RowsI w2 w.heap.size us (rowsTo ks t k ++ ((rowsL ks (t - k)).take 0).map fun r => (k : Int) :: r)) := by
          refine ⟨hbo.trans (hb2.mono hzo), hov, ?_⟩
          rw [List.take_zero, List.map_nil, List.append_nil]
          exact hri
        have HAP : Hid ((Value.slice Al L cl).ownBlock ≠ some go) := fun h => by
          have := (World.ownsRow.lt HLST.out.1) go h
          omega
        clear hov2 hrw2 hov hri hul hL hcl3
        go_wp2_with fail
        go_loopw [5, 8] (fun ot i wr => ∃ (j go no co : Nat) (us : List Value), j ≤ L ∧ i = .int .i64 j ∧ ot = .slice (some ⟨go, 0, none⟩) no co ∧ Hid ((Below w.heap.size w wr ∧ OwnV wr w.heap.size 22 (.slice (some ⟨go, 0, none⟩) no co) us ∧ RowsI wr w.heap.size us (rowsTo ks t k ++ ((rowsL ks (t - k)).take j).map fun r => (k : Int) :: r)) ∧
          OwnV wr wo.heap.size 22 (.slice Al L cl) ul ∧ RowsI wr wo.heap.size ul (rowsL ks (t - k)) ∧ (Value.slice Al L cl).ownBlock ≠ some go ∧ wo.heap.size ≤ wr.heap.size)) (fun _ i _ => L - (intOf i).toNat)
        case atStart => exact ⟨0, go, no, co, us, by omega, rfl, rfl, HST.out, HLST.out.1, HLST.out.2, HAP.out, hz2⟩
        case round =>
          rename World => wj
          obtain ⟨j, gj, nj, cj, uj, hj, rfl, rfl, hwj⟩ := hrel
          by_cases hjL : j < L
          · have hbj := hwj.out.1.1
            have hzj := hbj.size
            have hrwj := hwj.out.1.2.2
            have hL2 := HL.out.2
            have hlist := hwj.out.2.1
            obtain ⟨gl, hgl, hgll, hcells⟩ := hlist.headI (by omega)
            have hul : j < ul.length := by have := HL.out.1; omega
            have hou := hwj.out.2.2.1.2 j ul[j] (List.getElem?_eq_getElem hul)
            have cu := hcells j ul[j] (List.getElem?_eq_getElem hul)
            have hfl := HFIT.out j hjL
            obtain ⟨row, hrowe⟩ : ∃ row, (rowsL ks (t - k)).getD j [] = row := ⟨_, rfl⟩
            rw [hrowe] at hou hfl
            have HNEXT : Hid (rowsTo ks t k ++ ((rowsL ks (t - k)).take (j + 1)).map (fun r => (k : Int) :: r) = (rowsTo ks t k ++ ((rowsL ks (t - k)).take j).map (fun r => (k : Int) :: r)) ++ [(k : Int) :: row]) := by
              show _ = _
              rw [take_map_next (by omega), hrowe, List.append_assoc]
            obtain ⟨uv, huv⟩ : ∃ u, ul[j] = u := ⟨_, rfl⟩
            rw [huv] at hou cu
            have hkl := HKL.out
            obtain ⟨gu, cuu, rfl, -, hgu2, hcu1, hcu2⟩ := hou.form (by omega)
            subst hgl
            have hru := hou.sl.rd
            have hulen := hrwj.1
            have hul2 : uj.length ≤ 1000000000 := by
              rw [hulen, List.length_append, List.length_map, List.length_take]
              have := HTL.out k (by omega)
              have := HLEN.out (t - k)
              omega
            have hownx : Own (wj.alloc (.cells #[.int .i64 k] 3)) wj.heap.size 3 (.slice (some ⟨wj.heap.size, 0, none⟩) 1 1) [(k : Int)] := Own.lit wj 3 [(k : Int)] (by simp)
            have hrux := hru.alloc (.cells #[.int .i64 k] 3)
            have HOUTJ := hide hwj.out.1.2.1
            have HLJ := hide hwj.out.2
            have HRJ := hide hrwj
            have HBJ := hide hbj
            have hrow0 : 0 < row.length := by omega
            have hrow1 : row.length ≤ 1000000000 := by omega
            have hszj : w.heap.size ≤ wj.heap.size := hzj
            have ijL : (j : Int) < (L : Int) := by omega
            clear hwj hrwj hL2 hlist hcells hul hou hfl hrowe huv hru hulen hbj hkl
            go_wp2_with (at_builtin; first
              | (refine wpList_append_rd _ rfl (.tmp 45) (.tmp 49) rfl ints wj.heap.size _ _ [(k : Int)] row rfl rfl hownx hrux (by simp) (by simp) hrow1 hrow0 ?_; intro v4 w4 hown4 hb4 hg4 hat4 hk4 hlt4; have hb4' : Below wj.heap.size wj w4 := ((Below.refl _ _).alloc (Nat.le_refl _) _).trans hb4; have hz4 := hb4'.size; obtain ⟨g4, c4, rfl, -, -, -, -⟩ := hown4.form (by simp); have HOW4 := hide hown4; have hov4 := HOUTJ.out.below hb4'; clear hown4 hg4 hat4 hk4 hb4 hrux hownx)
              | (refine wpList_push_val _ rfl (.tmp 43) (.tmp 51) rfl rowsII (by omega) w.heap.size _ uj _ rfl _ 1 rfl rfl hov4 (by omega) hul2 ?_; intro v5 w5 hown5 hb5 hg5 hat5 hlt5))
            have hri4 := (HRJ.out.below hb4').keep hov4 hg5
            have hnew := (HOW4.out.low (B' := w.heap.size) hszj).keep hg5 (own_apartI HOW4.out hov4)
            have HRN : Hid (RowsI w5 w.heap.size (uj ++ [.slice (some ⟨g4, 0, none⟩) ([(k : Int)] ++ row).length c4]) (rowsTo ks t k ++ ((rowsL ks (t - k)).take (j + 1)).map fun r => (k : Int) :: r)) := by
              show RowsI _ _ _ _
              rw [HNEXT.out]
              exact hri4.snoc hnew
            have hl4 := HLJ.out.1.below hb4'
            have hlr4 := (HLJ.out.2.1.below hb4').keep hov4 hg5
            have hl5 := hl4.keepI hg5 (.inr (fun h => HLJ.out.2.2.1 (by rw [h]; rfl)))
            obtain ⟨g5, c5, hv5⟩ := hown5.formI (by simp)
            have hap5 : (Value.slice (some ⟨gl, 0, none⟩) L cl).ownBlock ≠ some g5 := fun h => by
              have hg5e : some g5 = v5.ownBlock := by rw [hv5]; rfl
              have hlb := (World.ownsRow.lt HLJ.out.1) gl rfl
              have hgl5 : gl = g5 := by simpa [Value.ownBlock] using h
              rcases hat5 with h5 | h5
              · exact HLJ.out.2.2.1 (by rw [h, hg5e, h5]; rfl)
              · rw [h5] at hg5e
                have : g5 = w4.heap.size + 1 := by simpa using hg5e
                omega
            have HAP5 := hide (And.intro hl5 (And.intro hlr4 (And.intro hap5 (show wo.heap.size ≤ w5.heap.size by have := HLJ.out.2.2.2; omega))))
            have HO5 := hide hown5
            have hb05 := (HBJ.out.trans (hb4'.mono hszj)).trans hb5
            subst hv5
            clear hown5 hg5 hat5 hov4 hri4 hnew hl4 hlr4 hl5 hap5
            go_roundw
            case rel => exact ⟨j + 1, g5, _, c5, _, by omega, by go_num, rfl, ⟨hb05, HO5.out, HRN.out⟩, HAP5.out⟩
            case measure => simp [intOf]; omega
          · obtain rfl : j = L := by omega
            have HN : Hid (Below w.heap.size w wj ∧ OwnV wj w.heap.size 22 (.slice (some ⟨gj, 0, none⟩) nj cj) uj ∧ RowsI wj w.heap.size uj (rowsTo ks t (k + 1))) := by
              refine ⟨hwj.out.1.1, hwj.out.1.2.1, ?_⟩
              rw [rowsTo_succ]
              have h := hwj.out.1.2.2
              rwa [List.take_of_length_le (by have := HL.out.2; omega)] at h
            go_wp2_with fail
            go_roundw
            case rel => exact ⟨k + 1, gj, nj, cj, uj, by omega, by go_num, rfl, HN.out⟩
            case measure => simp [intOf]; omega
    · have HEND : Hid (OwnV wo w.heap.size 22 (.slice (some ⟨go, 0, none⟩) no co) us ∧ RowsI wo w.heap.size us (rowsTo ks t K)) := by
        have h := hwo.out.2
        rw [show k = K by omega] at h
        exact h
      have hnle : ¬ ((k : Int) ≤ t ∧ (k : Int) ≤ c) := by have := HKK.out; omega
      by_cases htc : t ≤ c
      · have hd2 : ¬ (k : Int) ≤ t := by omega
        clear hwo hkK hnle
        go_wp2_with fail
        go_ret
        exact ⟨_, rfl, us, HEND.out.1, HEND.out.2, hbo⟩
      · have hd2 : ¬ (k : Int) ≤ c := by omega
        clear hwo hkK hnle
        go_wp2_with fail
        go_ret
        exact ⟨_, rfl, us, HEND.out.1, HEND.out.2, hbo⟩

theorem rowsFrom_c : ∀ {cols : List Int}, allB 0 6 cols = true → 1 ≤ cols.length → cols.length ≤ 3 → RowsFrom cols
  | [], _, h, _ => absurd h (by simp)
  | [c], _, _, _ => rowsFrom_one c
  | c :: c1 :: cs, h, _, hl => rowsFrom_cons (allB_iff.1 h c (by simp)) (by simp at hl; omega) (allB_sub h fun y hy => List.mem_cons_of_mem _ hy) (rowsFrom_c (cols := c1 :: cs) (allB_sub h fun y hy => List.mem_cons_of_mem _ hy) (by simp) (by simp at hl ⊢; omega))
end Go.Proofs.Ytgageljahebjnaa
