/-
  Small steps in the reference.
-/
import Derived.Test.YtncglgkpgbhejaaMx
namespace Go.Proofs.Ytncglgkpgbhejaa
open Go.RowKit

/-- The first k rows, each in a block of its own, in a row that is appended to. -/
def RwK (w : World) (R : Nat) (v : Value) (us : List Value) (bl cp : Nat → Nat) (xss : List (List Int)) (n k : Nat) : Prop :=
  us.length = k ∧ ∀ j, j < k → us[j]? = some (.slice (some ⟨bl j, 0, none⟩) n (cp j)) ∧ Own w R 3 (.slice (some ⟨bl j, 0, none⟩) n (cp j)) (rw_ xss j) ∧ v.ownBlock ≠ some (bl j) ∧ ∀ i, i < j → bl i ≠ bl j
theorem RwK.start (w : World) (R : Nat) (v : Value) (bl cp : Nat → Nat) (xss : List (List Int)) (n : Nat) : RwK w R v [] bl cp xss n 0 := ⟨rfl, fun j hj => by omega⟩
theorem RwK.push {w w7 w8 : World} {R : Nat} {v v8 : Value} {us : List Value} {bl cp : Nat → Nat} {xss : List (List Int)} {n k p c7 : Nat} (h : RwK w R v us bl cp xss n k) (hv : ∀ q, v.ownBlock = some q → q < w.heap.size) (h7 : Below w.heap.size w w7)
    (ho : Own w7 R 3 (.slice (some ⟨p, 0, none⟩) n c7) (rw_ xss k)) (hp : w.heap.size ≤ p) (hg : w7.grownBy w8 v.ownBlock) (hat : v8.ownBlock = v.ownBlock ∨ v8.ownBlock = some (w7.heap.size + 1)) :
    RwK w8 R v8 (us ++ [.slice (some ⟨p, 0, none⟩) n c7]) (fun j => if j = k then p else bl j) (fun j => if j = k then c7 else cp j) xss n (k + 1) := by
  obtain ⟨h1, h2⟩ := h
  have hp7 := ho.lt.2
  have hpv : v.ownBlock ≠ some p := fun e => by have := hv p e; omega
  refine ⟨by simp [h1], fun j hj => ?_⟩
  by_cases e : j = k
  · subst e
    simp only [if_true]
    refine ⟨by rw [List.getElem?_append_right (by omega)]; simp [h1], ho.keep hg (.inr (by simpa [Value.ownBlock] using hpv.symm)), ?_, fun i hi => ?_⟩
    · rcases hat with e | e <;> rw [e]
      · exact hpv
      · simp; omega
    · have hi2 : ¬ i = j := by omega
      simp only [hi2, if_false]
      have := ((h2 i hi).2.1).lt.2
      omega
  · have hj2 : j < k := by omega
    obtain ⟨a1, a2, a3, a4⟩ := h2 j hj2
    simp only [e, if_false]
    have hbj := a2.lt.2
    refine ⟨by rw [List.getElem?_append_left (by omega)]; exact a1, (a2.below h7).keep hg (.inr (by simpa [Value.ownBlock] using a3.symm)), ?_, fun i hi => ?_⟩
    · rcases hat with e2 | e2 <;> rw [e2]
      · exact a3
      · have := h7.size; simp; omega
    · have hi2 : ¬ i = k := by omega
      simp only [hi2, if_false]
      exact a4 i hi
theorem RwK.mx {w : World} {R g c : Nat} {us : List Value} {bl cp : Nat → Nat} {xss : List (List Int)} {n : Nat} (h : RwK w R (.slice (some ⟨g, 0, none⟩) n c) us bl cp xss n n) (ho : OwnV w R 28 (.slice (some ⟨g, 0, none⟩) n c) us) (hsq : Sq n xss) : MxW w R n g bl cp xss := by
  obtain ⟨h1, h2⟩ := h
  refine ⟨hsq, ho.lt, fun i hi => ho.cell (h2 i hi).1, fun i hi => ?_, fun i hi => ?_, fun i j hi hj hij => ?_, fun i k hi hk => ?_, fun i k hi hk => ?_⟩
  · obtain ⟨A, c', e1, e2, e3, _⟩ := (h2 i hi).2.1.sl
    simp only [Value.slice.injEq] at e1
    obtain ⟨_, e4, rfl⟩ := e1
    exact ⟨by omega, e3⟩
  · have a := (h2 i hi).2.1.lt
    have b := (h2 i hi).2.2.1
    simp [Value.ownBlock] at b
    exact ⟨a.1, a.2, fun e => b e.symm⟩
  · rcases Nat.lt_or_gt_of_ne hij with hlt | hlt
    · exact (h2 j hj).2.2.2 i hlt
    · exact ((h2 i hi).2.2.2 j hlt).symm
  · exact (h2 i hi).2.1.cell (by rw [hsq.2 i hi]; exact hk)
  · exact (h2 i hi).2.1.frozen k

set_option maxHeartbeats 8000000 in
theorem smallWays_c (v : Value) (xss : List (List Int)) (n : Nat) (w : World) (h : RdSS w v xss) (hsq : Sq n xss) (hn1 : 1 ≤ n) (hn6 : n ≤ 6) :
    Calls Try.prog 39 #[v] w fun e w' => ∃ g c bl cp, e = .returned (.slice (some ⟨g, 0, none⟩) n c) ∧ (n ≤ c ∧ c ≤ 9223372036854775807) ∧ MxW w' w.heap.size n g bl cp (fwC n xss n) ∧ Below w.heap.size w w' := by
  obtain ⟨A, cA, rfl, hcA, hmA, _⟩ := id h
  have HSQ := hide hsq
  have HROW := hide fun (w : World) (h : RdSS w (.slice A xss.length cA) xss) (j : Nat) (hj : j < xss.length) => h.row hj
  have hsl := hsq.1
  obtain ⟨L, hL⟩ : ∃ L, xss.length = L := ⟨_, rfl⟩
  rw [hL] at HROW h hcA hsl ⊢
  subst hsl
  have HL := hide hL
  clear hL hsq
  have hown0 : OwnV (w.alloc (.cells #[] 28)) w.heap.size 28 (.slice (some ⟨w.heap.size, 0, none⟩) 0 0) [] := lit_ownV rfl (Nat.le_refl _)
  go_enter Try.func39, Try.ntmps39
  go_wp2_with fail
  go_loopw [3, 4] (fun out i wr => ∃ (k : Nat) (us : List Value) (bl cp : Nat → Nat), k ≤ L ∧ i = .int .i64 k ∧ OwnV wr w.heap.size 28 out us ∧ Hid (RwK wr w.heap.size out us bl cp xss L k) ∧ Below w.heap.size w wr) (fun _ i _ => L - (intOf i).toNat)
  case atStart => exact ⟨0, [], fun _ => 0, fun _ => 0, by omega, rfl, hown0, RwK.start _ _ _ _ _ _ _, below_alloc' (Below.refl _ _) _⟩
  case round =>
    obtain ⟨k, us, bl, cp, hk, rfl, hown, hrw, hbel⟩ := hrel
    by_cases hlt : k < L
    · have hsz := hbel.size
      have hw := h.below hbel
      obtain ⟨ga, oa, rfl, hga, Br, dr, hcr, hrdr, hd1, hd2, _⟩ := HROW.out _ hw k (by have := HL.out; omega)
      have hrl : (rw_ xss k).length = L := HSQ.out.2 k hlt
      have HRL := hide hrl
      rw [hrl] at hcr hrdr hd1
      have ik : (k : Int) < (L : Int) := by omega
      obtain ⟨V, hV, hVc, hVr, hVo, hVb⟩ : ∃ V, wr.alloc (.cells #[] 3) = V ∧ V.cell? ⟨ga, oa + k, none⟩ = some (.slice Br L dr) ∧ Rd V (.slice Br L dr) (rw_ xss k) ∧ Own V wr.heap.size 3 (.slice (some ⟨wr.heap.size, 0, none⟩) 0 0) [] ∧ Below wr.heap.size wr V :=
        ⟨_, rfl, (((Below.refl _ _).alloc (Nat.le_refl _) _).cell (p := ⟨ga, oa + k, none⟩) hga).trans hcr, hrdr.alloc _, lit_own [] rfl rfl rfl (by simp) (Nat.le_refl _), (Below.refl _ _).alloc (Nat.le_refl _) _⟩
      have hVs := hVb.size
      have hul : us.length ≤ 1000 := by have := hrw.out.1; omega
      have hrl2 : (rw_ xss k).length ≤ 1000 := by have := HRL.out; omega
      have hrl1 : 0 < (rw_ xss k).length := by have := HRL.out; omega
      clear hcr hrl hrdr
      go_wp2_with (at_builtin; first | (refine wpList_append_rd _ rfl (.tmp 16) (.tmp 20) rfl ints wr.heap.size _ _ [] (rw_ xss k) rfl rfl hVo hVr hVs (by simp) (by omega) hrl1 ?_; intro v7 w7 hown7 hb7 hg7 hat7 hk7 hlt7; obtain ⟨p7, c7, rfl, hp7, hp72, hc71, hc72⟩ := hown7.form hrl1; have hbw7 := hVb.trans hb7; have hown7' := hown.below hbw7; have hs7 := hbw7.size; have hsw7 : w.heap.size ≤ w7.heap.size := by omega) | (refine wpList_push_val _ rfl (.tmp 15) (.tmp 22) rfl rows (by omega) w.heap.size _ us _ rfl _ 1 rfl rfl hown7' hsw7 (by omega) ?_; intro v8 w8 hown8 hb8 hg8 hat8 hlt8))
      simp only [List.nil_append, HRL.out] at hown7 hown8
      have hp7' : Own w7 w.heap.size 3 (.slice (some ⟨p7, 0, none⟩) L c7) (rw_ xss k) := hown7.low hsz
      have HNX := hide (hrw.out.push (fun q hq => (World.ownsRow.lt hown q hq).2) hbw7 hp7' hp7 hg8 hat8)
      go_roundw
      case rel => exact ⟨k + 1, _, _, _, by omega, by go_num, hown8, HNX.out, (hbel.trans (hbw7.mono hsz)).trans hb8⟩
      case measure => simp [intOf]; omega
    · obtain rfl : L = k := by omega
      obtain ⟨Ag, c, rfl, hc1, hc2, hg⟩ := hown.shape
      obtain ⟨g, rfl, _, _, _⟩ := hg (by have := hrw.out.1; omega)
      rw [hrw.out.1] at hown hc1 hrw ⊢
      have HMX : Hid (MxW wr w.heap.size L g bl cp (fwC L xss 0)) := hrw.out.mx hown HSQ.out
      have HOW := hide hown
      have HEND : Hid (∀ w', MxW w' w.heap.size L g bl cp (fwC L xss L) → OwnV w' w.heap.size 28 (.slice (some ⟨g, 0, none⟩) L c) us → Below w.heap.size w w' → ∃ g' c' bl cp, Ending.returned (.slice (some ⟨g, 0, none⟩) L c) = .returned (.slice (some ⟨g', 0, none⟩) L c') ∧ (L ≤ c' ∧ c' ≤ 9223372036854775807) ∧ MxW w' w.heap.size L g' bl cp (fwC L xss L) ∧ Below w.heap.size w w') := fun w' h1 _ h2 => ⟨g, c, bl, cp, rfl, ⟨hc1, hc2⟩, h1, h2⟩
      obtain ⟨R0, hR0⟩ : ∃ R, w.heap.size = R := ⟨_, rfl⟩
      clear hrw hown hown0
      rw [hR0] at HMX HOW HEND hbel
      have HR0 := hide hR0
      clear hR0
      go_wp2_with fail
      go_loopw [5] (fun i wr' => ∃ m : Nat, m ≤ L ∧ i = .int .i64 m ∧ Hid (MxW wr' R0 L g bl cp (fwC L xss m)) ∧ Hid (OwnV wr' R0 28 (.slice (some ⟨g, 0, none⟩) L c) us) ∧ Below R0 w wr') (fun i _ => L - (intOf i).toNat)
      case atStart => exact ⟨0, by omega, rfl, HMX.out, HOW.out, hbel⟩
      case round =>
        rename World => wa
        obtain ⟨m, hm, rfl, hmx, how, hbel⟩ := hrel
        by_cases hml : m < L
        · have im : (m : Int) < (L : Int) := by omega
          have HNC : Hid (fwC L xss (m + 1) = fwA L (fwC L xss m) m L) := rfl
          obtain ⟨PC, hPC⟩ : ∃ P, fwC L xss m = P := ⟨_, rfl⟩
          rw [hPC] at hmx HNC
          clear hPC
          go_wp2_with fail
          go_loopw [6] (fun i wr' => ∃ a : Nat, a ≤ L ∧ i = .int .i64 a ∧ Hid (MxW wr' R0 L g bl cp (fwA L PC m a)) ∧ Hid (OwnV wr' R0 28 (.slice (some ⟨g, 0, none⟩) L c) us) ∧ Below R0 w wr') (fun i _ => L - (intOf i).toNat)
          case atStart => exact ⟨0, by omega, rfl, hmx, how, hbel⟩
          case round =>
            rename World => wa2
            clear hmx how hbel
            obtain ⟨a, ha, rfl, hmx, how, hbel⟩ := hrel
            by_cases hal : a < L
            · have ia : (a : Int) < (L : Int) := by omega
              have HNA : Hid (fwA L PC m (a + 1) = fwB (fwA L PC m a) m a L) := rfl
              obtain ⟨PA, hPA⟩ : ∃ P, fwA L PC m a = P := ⟨_, rfl⟩
              rw [hPA] at hmx HNA
              clear hPA
              go_wp2_with fail
              go_loopw [7] (fun i wr' => ∃ b : Nat, b ≤ L ∧ i = .int .i64 b ∧ Hid (MxW wr' R0 L g bl cp (fwB PA m a b)) ∧ Hid (OwnV wr' R0 28 (.slice (some ⟨g, 0, none⟩) L c) us) ∧ Below R0 w wr') (fun i _ => L - (intOf i).toNat)
              case atStart => exact ⟨0, by omega, rfl, hmx, how, hbel⟩
              case round =>
                rename World => wb
                clear hmx how hbel
                obtain ⟨b, hb, rfl, hmx, how, hbel⟩ := hrel
                by_cases hbl : b < L
                · have ib : (b : Int) < (L : Int) := by omega
                  have HNB : Hid (fwB PA m a (b + 1) = setM (fwB PA m a b) a b (stepM (fwB PA m a b) m a b)) := rfl
                  obtain ⟨N, hN⟩ : ∃ P, fwB PA m a b = P := ⟨_, rfl⟩
                  rw [hN] at hmx HNB
                  clear hN
                  have oa := hmx.out.outer a hal
                  have om := hmx.out.outer m hml
                  have cab := hmx.out.cells a b hal hbl
                  have cam := hmx.out.cells a m hal hml
                  have cmb := hmx.out.cells m b hml hbl
                  have fab := hmx.out.free a b hal hbl
                  have HST : Hid (stepM N m a b = min (gp N a b) (max (gp N a m) (gp N m b))) := rfl
                  obtain ⟨z, hz⟩ : ∃ z, gp N a b = z := ⟨_, rfl⟩
                  obtain ⟨x, hx⟩ : ∃ z, gp N a m = z := ⟨_, rfl⟩
                  obtain ⟨y, hy⟩ : ∃ z, gp N m b = z := ⟨_, rfl⟩
                  rw [hz] at cab HST
                  rw [hx] at cam HST
                  rw [hy] at cmb HST
                  clear hz hx hy
                  by_cases hxy : x < y
                  · by_cases hyz : y < z
                    · have HNX : Hid (fwB PA m a (b + 1) = setM N a b y) := by show _ = _; rw [HNB.out, HST.out]; congr 1; omega
                      go_wp2_with fail
                      refine wp_region_quiet_tail 28 (by kernel_rfl) (by kernel_rfl) ?_
                      simp only [List.take_succ_cons, List.take_zero, List.drop_succ_cons, List.drop_zero]
                      repeat (go_big_quiet_step (fail))
                      refine wpQuiet_nil ?_
                      intro _ hw'
                      obtain ⟨nq, rfl⟩ := hw'
                      go_wp2_with fail
                      go_roundw
                      case rel => exact ⟨b + 1, by omega, by go_num, by rw [HNX.out]; exact (hmx.out.drewN nq).set hal hbl y, OwnV.setOther (w := wb.drewN nq) how.out (by have := (hmx.out.blk a hal).2.2; simp [Value.ownBlock]; omega) _, (below_drewN hbel nq).setCell (hmx.out.blk a hal).1 _⟩
                      case measure => simp [intOf]; omega
                    · have HNX : Hid (fwB PA m a (b + 1) = setM N a b z) := by show _ = _; rw [HNB.out, HST.out]; congr 1; omega
                      go_wp2_with fail
                      refine wp_region_quiet_tail 28 (by kernel_rfl) (by kernel_rfl) ?_
                      simp only [List.take_succ_cons, List.take_zero, List.drop_succ_cons, List.drop_zero]
                      repeat (go_big_quiet_step (fail))
                      refine wpQuiet_nil ?_
                      intro _ hw'
                      obtain ⟨nq, rfl⟩ := hw'
                      go_wp2_with fail
                      go_roundw
                      case rel => exact ⟨b + 1, by omega, by go_num, by rw [HNX.out]; exact (hmx.out.drewN nq).set hal hbl z, OwnV.setOther (w := wb.drewN nq) how.out (by have := (hmx.out.blk a hal).2.2; simp [Value.ownBlock]; omega) _, (below_drewN hbel nq).setCell (hmx.out.blk a hal).1 _⟩
                      case measure => simp [intOf]; omega
                  · by_cases hyz : x < z
                    · have HNX : Hid (fwB PA m a (b + 1) = setM N a b x) := by show _ = _; rw [HNB.out, HST.out]; congr 1; omega
                      go_wp2_with fail
                      refine wp_region_quiet_tail 28 (by kernel_rfl) (by kernel_rfl) ?_
                      simp only [List.take_succ_cons, List.take_zero, List.drop_succ_cons, List.drop_zero]
                      repeat (go_big_quiet_step (fail))
                      refine wpQuiet_nil ?_
                      intro _ hw'
                      obtain ⟨nq, rfl⟩ := hw'
                      go_wp2_with fail
                      go_roundw
                      case rel => exact ⟨b + 1, by omega, by go_num, by rw [HNX.out]; exact (hmx.out.drewN nq).set hal hbl x, OwnV.setOther (w := wb.drewN nq) how.out (by have := (hmx.out.blk a hal).2.2; simp [Value.ownBlock]; omega) _, (below_drewN hbel nq).setCell (hmx.out.blk a hal).1 _⟩
                      case measure => simp [intOf]; omega
                    · have HNX : Hid (fwB PA m a (b + 1) = setM N a b z) := by show _ = _; rw [HNB.out, HST.out]; congr 1; omega
                      go_wp2_with fail
                      refine wp_region_quiet_tail 28 (by kernel_rfl) (by kernel_rfl) ?_
                      simp only [List.take_succ_cons, List.take_zero, List.drop_succ_cons, List.drop_zero]
                      repeat (go_big_quiet_step (fail))
                      refine wpQuiet_nil ?_
                      intro _ hw'
                      obtain ⟨nq, rfl⟩ := hw'
                      go_wp2_with fail
                      go_roundw
                      case rel => exact ⟨b + 1, by omega, by go_num, by rw [HNX.out]; exact (hmx.out.drewN nq).set hal hbl z, OwnV.setOther (w := wb.drewN nq) how.out (by have := (hmx.out.blk a hal).2.2; simp [Value.ownBlock]; omega) _, (below_drewN hbel nq).setCell (hmx.out.blk a hal).1 _⟩
                      case measure => simp [intOf]; omega
                · obtain rfl : b = L := by omega
                  go_wp2_with fail
                  go_roundw
                  case rel => exact ⟨a + 1, by omega, by go_num, by rw [HNA.out]; exact hmx.out, how, hbel⟩
                  case measure => simp [intOf]; omega
            · obtain rfl : a = L := by omega
              go_wp2_with fail
              go_roundw
              case rel => exact ⟨m + 1, by omega, by go_num, by rw [HNC.out]; exact hmx.out, how, hbel⟩
              case measure => simp [intOf]; omega
        · obtain rfl : m = L := by omega
          go_wp2_with fail
          go_ret
          obtain rfl := HR0.out
          exact HEND.out _ hmx.out how.out hbel
end Go.Proofs.Ytncglgkpgbhejaa
