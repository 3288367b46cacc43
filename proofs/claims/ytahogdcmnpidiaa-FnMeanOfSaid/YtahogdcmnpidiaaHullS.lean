/-
  The convex line below: plain laws; the reference.
-/
import Derived.Test.YtahogdcmnpidiaaNearS
import Derived.Test.YtahogdcmnpidiaaFrS
namespace Go.Proofs.Ytahogdcmnpidiaa
open Go.RowKit

/-- The least mean from i on over up to d numbers more, and its last end. -/
def hbR (xs ws : List Int) (i : Nat) : Nat → Rat × Nat
  | 0 => (meanR xs ws i 1, i)
  | d + 1 => if (hbR xs ws i d).1 < meanR xs ws i (d + 2) then hbR xs ws i d else (meanR xs ws i (d + 2), i + 1 + d)
theorem hbR_bd (xs ws : List Int) (i : Nat) : ∀ d, i ≤ (hbR xs ws i d).2 ∧ (hbR xs ws i d).2 ≤ i + d
  | 0 => by simp [hbR]
  | d + 1 => by
    have := hbR_bd xs ws i d
    unfold hbR
    split
    · omega
    · simp; omega
theorem hbR_sm {xs ws : List Int} (h : ∀ i n : Nat, 1 ≤ n → i + n ≤ xs.length → Sm (meanR xs ws i n)) (i : Nat) : ∀ d, i + 1 + d ≤ xs.length → Sm (hbR xs ws i d).1
  | 0, hd => h i 1 (by omega) (by omega)
  | d + 1, hd => by
    unfold hbR
    split
    · exact hbR_sm h i d (by omega)
    · exact h i (d + 2) (by omega) (by omega)
def hullF (xs ws : List Int) : Nat → List Rat
  | 0 => []
  | f + 1 => if (hullF xs ws f).length < xs.length then hullF xs ws f ++ List.replicate ((hbR xs ws (hullF xs ws f).length (xs.length - 1 - (hullF xs ws f).length)).2 + 1 - (hullF xs ws f).length) (hbR xs ws (hullF xs ws f).length (xs.length - 1 - (hullF xs ws f).length)).1 else hullF xs ws f
theorem hullF_bd (xs ws : List Int) : ∀ f, (hullF xs ws f).length ≤ xs.length ∧ min f xs.length ≤ (hullF xs ws f).length
  | 0 => by simp [hullF]
  | f + 1 => by
    obtain ⟨h1, h2⟩ := hullF_bd xs ws f
    have h3 := hbR_bd xs ws (hullF xs ws f).length (xs.length - 1 - (hullF xs ws f).length)
    unfold hullF
    split
    · simp only [List.length_append, List.length_replicate]; omega
    · omega
theorem hullF_stay {xs ws : List Int} {f : Nat} (h : xs.length ≤ (hullF xs ws f).length) : ∀ d, hullF xs ws (f + d) = hullF xs ws f
  | 0 => rfl
  | d + 1 => by
    have ih := hullF_stay h d
    rw [show f + (d + 1) = (f + d) + 1 from rfl, hullF, ih, if_neg (by omega)]
theorem hullF_end {xs ws : List Int} {f : Nat} (h : xs.length ≤ (hullF xs ws f).length) : hullF xs ws f = hullF xs ws xs.length := by
  have h1 := hullF_stay h xs.length
  have h2 := hullF_stay (f := xs.length) (xs := xs) (ws := ws) (by have := (hullF_bd xs ws xs.length).2; omega) f
  rw [← h1, ← h2, Nat.add_comm]
def prP (L : List Rat) : List (Int × Int) := L.map fun q => (q.num, (q.den : Int))
theorem prP_len (L : List Rat) : (prP L).length = L.length := by simp [prP]
theorem prP_snoc (L : List Rat) (t : Nat) (q : Rat) : prP (L ++ List.replicate (t + 1) q) = prP (L ++ List.replicate t q) ++ [(q.num, (q.den : Int))] := by
  simp [prP, List.replicate_succ']
def hullX (xs ws : List Int) : List (Int × Int) := if okLoads xs ws = true then prP (hullF xs ws xs.length) else []

theorem OwnP.keepB {w w' : World} {B C : Nat} {v : Value} {ps : List (Int × Int)} (h : OwnP w B v ps) (hv : ∀ g, v.ownBlock = some g → g < C) (hb : Below C w w') : OwnP w' B v ps := by
  obtain ⟨hl, h0 | ⟨g, cap, cur, rfl, hB, hg, hr⟩⟩ := id h
  · exact ⟨hl, .inl h0⟩
  · exact ⟨hl, .inr ⟨g, cap, cur, rfl, hB, (hb.block g (hv g rfl)).trans hg, hr⟩⟩
theorem OwnP.blk {w : World} {B : Nat} {v : Value} {ps : List (Int × Int)} (h : OwnP w B v ps) : ∀ g, v.ownBlock = some g → B ≤ g ∧ g < w.heap.size := fun g hg => World.ownsRow.lt h g hg
theorem Pr.grown {w w' : World} {q : Nat} {x y : Int} {row : Option Nat} (h : Pr w q x y) (hg : w.grownBy w' row) (hq : q < w.heap.size) (hne : some q ≠ row) : Pr w' q x y :=
  ⟨⟨(World.cell?_of_block (hg.block q hq hne)).trans h.1.1, (World.cell?_of_block (hg.block q hq hne)).trans h.1.2⟩, (World.frozen?_of_block (hg.block q hq hne)).trans h.2.1, (World.frozen?_of_block (hg.block q hq hne)).trans h.2.2⟩
/-- A new pair of cells. -/
theorem new1 (w : World) (T : TypeId) (a b : Int) : ∃ V, w.alloc (.cells #[.int .i64 a, .int .i64 b] T) = V ∧ Below w.heap.size w V ∧ w.heap.size < V.heap.size ∧ Pr V w.heap.size a b := by
  refine ⟨_, rfl, (Below.refl _ _).alloc (Nat.le_refl _) _, by simp, ⟨?_, ?_⟩, ?_, ?_⟩ <;> simp [go_sem]

set_option maxHeartbeats 8000000 in
theorem HullS_yes (u v : Value) (xs ws : List Int) (w : World) (hx : Rd w u xs) (hy : Rd w v ws) (hok : okLoads xs ws = true) :
    Calls Try.prog 11 #[u, v] w fun e w' => ∃ v', e = .returned v' ∧ SlP w' w.heap.size v' (prP (hullF xs ws xs.length)) ∧ Below w.heap.size w w' := by
  obtain ⟨l1, l8, hl, hxs, hws⟩ := okLoads_all hok
  have K := hide fun w hx hy => validLoadsS_c u v xs ws true w hx hy hok
  have KM := hide fun (i n : Nat) (K : Int) (w : World) (hx : Rd w u xs) (hy : Rd w v ws) (hn : 1 ≤ n) (hin : i + n ≤ xs.length) (hK : K = (i : Int) + n - 1) => meanS_c u v xs ws i n K w hx hy hxs hws hn (by omega) hin (by omega) (by omega) hK
  have SM := hide fun (i n : Nat) (hn : 1 ≤ n) (hin : i + n ≤ xs.length) => mean_sm hxs hws (i := i) (n := n) hn (by omega) hin (by omega)
  have KL := hide fun (p q : Rat) (w : World) (hp : Sm p) (hq : Sm q) => lessS_c p q w hp hq
  obtain ⟨A, c, rfl, hc, hm, _⟩ := id hx
  obtain ⟨A2, c2, rfl, hc2, hm2, _⟩ := id hy
  clear hl hok hxs hws
  go_enter Try.func11, Try.ntmps11
  go_wp2_with fail
  refine (K.out _ hx hy).mono ?_
  rintro e w1 ⟨rfl, rfl⟩
  obtain ⟨W1, hW1, hownW, hbW⟩ : ∃ W, w.alloc (.cells #[] 31) = W ∧ OwnP W w.heap.size (.slice (some ⟨w.heap.size, 0, none⟩) 0 0) [] ∧ Below w.heap.size w W := ⟨_, rfl, lit_ownP rfl (Nat.le_refl _), below_alloc' (Below.refl _ _) _⟩
  go_wp2_with fail
  clear hW1
  go_loopw [5, 6] (fun out i wr => ∃ (f : Nat) (L : List Rat), Hid (L = hullF xs ws f) ∧ i = .int .i64 L.length ∧ OwnP wr w.heap.size out (prP L) ∧ Below w.heap.size w wr) (fun _ i _ => xs.length - (intOf i).toNat)
  case atStart => exact ⟨0, [], rfl, rfl, hownW, hbW⟩
  case round =>
    clear hownW hbW
    obtain ⟨f, L, hL, rfl, hown, hbel⟩ := hrel
    have hLb : L.length ≤ xs.length := by rw [hL.out]; exact (hullF_bd xs ws f).1
    by_cases hlt : L.length < xs.length
    · have HNX : Hid (hullF xs ws (f + 1) = L ++ List.replicate ((hbR xs ws L.length (xs.length - 1 - L.length)).2 + 1 - L.length) (hbR xs ws L.length (xs.length - 1 - L.length)).1) := by show _ = _; rw [hullF, ← hL.out, if_pos hlt]
      have hpl : (prP L).length ≤ 1000 := by rw [prP_len]; omega
      obtain ⟨I, hI⟩ : ∃ I, L.length = I := ⟨_, rfl⟩
      rw [hI] at HNX hlt hLb ⊢
      have HI := hide hI
      clear hI
      obtain ⟨Ao, co, rfl, _, _, _⟩ := hown.sl
      have F0 := hide fun w h1 h2 => KM.out I 1 (I : Int) w h1 h2 (by omega) (by omega) (by omega)
      have ik : (I : Int) < (xs.length : Int) := by omega
      obtain ⟨r0, hr0⟩ : ∃ r, meanR xs ws I 1 = r := ⟨_, rfl⟩
      have HB0 : Hid (hbR xs ws I 0 = (r0, I)) := by show _ = _; rw [← hr0]; rfl
      rw [hr0] at F0
      clear hr0
      go_wp2_with fail
      refine (F0.out _ (Rd.below hx (by (repeat (first | exact Below.refl _ _ | assumption | refine Below.setCell ?_ (by first | (simp; done) | omega | (simp; omega) | (simp at *; omega)) _ | refine Below.drew ?_ | refine below_drewN ?_ _ | refine below_alloc' ?_ _ | refine below_to' ?_ (by assumption))))) (Rd.below hy (by (repeat (first | exact Below.refl _ _ | assumption | refine Below.setCell ?_ (by first | (simp; done) | omega | (simp; omega) | (simp at *; omega)) _ | refine Below.drew ?_ | refine below_drewN ?_ _ | refine below_alloc' ?_ _ | refine below_to' ?_ (by assumption)))))).mono ?_
      rintro e w2 ⟨rfl, hb2⟩
      obtain ⟨V, hV, hbV, hVs, hPV⟩ := new1 w2 31 r0.num (r0.den : Int)
      have HPV := hide hPV
      have hbw2 := hbel.trans (hb2.mono hbel.size)
      have hbwV := hbw2.trans (hbV.mono hbw2.size)
      have hownV := hown.below (hb2.trans (hbV.mono hb2.size))
      have hq2 := hb2.size
      have hblk : ∀ g, (Value.slice Ao (prP L).length co).ownBlock = some g → g < w2.heap.size := fun g hg => by have := (hown.blk g hg).2; omega
      have HBK := hide hblk
      clear hPV hblk
      go_wp2_with fail
      clear hV
      obtain ⟨q, hq⟩ : ∃ q, w2.heap.size = q := ⟨_, rfl⟩
      rw [hq] at hVs HPV HBK
      rw [hq]
      have hwq : w.heap.size ≤ q := by have := hbw2.size; omega
      clear hq hbV
      go_loopw [7, 9] (fun at_ k wr' => ∃ d : Nat, I + 1 + d ≤ xs.length ∧ k = .int .i64 ((I : Int) + 1 + d) ∧ at_ = .int .i64 (hbR xs ws I d).2 ∧ Hid (Below q V wr' ∧ q < wr'.heap.size ∧ Pr wr' q (hbR xs ws I d).1.num ((hbR xs ws I d).1.den : Int))) (fun _ k _ => xs.length - (intOf k).toNat)
      case atStart => exact ⟨0, by omega, by simp, by rw [HB0.out], ⟨Below.refl _ _, hVs, by rw [HB0.out]; exact HPV.out⟩⟩
      case round =>
        rename World => wz
        obtain ⟨d, hd, rfl, rfl, hrl⟩ := hrel
        have hbz := hrl.out.1
        have hqz := hrl.out.2.1
        have hbwz := hbwV.trans (hbz.mono hwq)
        by_cases hdl : I + 1 + d < xs.length
        · have sb := hbR_sm SM.out I d (by omega)
          have sm := SM.out I (d + 2) (by omega) (by omega)
          have HST : Hid (hbR xs ws I (d + 1) = if (hbR xs ws I d).1 < meanR xs ws I (d + 2) then hbR xs ws I d else (meanR xs ws I (d + 2), I + 1 + d)) := rfl
          have F1 := hide fun w h1 h2 => KM.out I (d + 2) ((I : Int) + 1 + d) w h1 h2 (by omega) (by omega) (by omega)
          have F2 := hide fun w => KL.out (hbR xs ws I d).1 (meanR xs ws I (d + 2)) w sb sm
          obtain ⟨hb, hhb⟩ : ∃ hb, hbR xs ws I d = hb := ⟨_, rfl⟩
          obtain ⟨m, hm'⟩ : ∃ m, meanR xs ws I (d + 2) = m := ⟨_, rfl⟩
          rw [hhb] at F2 HST hrl ⊢
          rw [hm'] at F1 F2 HST
          obtain ⟨b, e⟩ := hb
          have hkl : (I : Int) + 1 + d < (xs.length : Int) := by omega
          clear hhb hm' sb sm
          go_wp2_with fail
          refine (F1.out _ (Rd.below hx (by (repeat (first | exact Below.refl _ _ | assumption | refine Below.setCell ?_ (by first | (simp; done) | omega | (simp; omega) | (simp at *; omega)) _ | refine Below.drew ?_ | refine below_drewN ?_ _ | refine below_alloc' ?_ _ | refine below_to' ?_ (by assumption))))) (Rd.below hy (by (repeat (first | exact Below.refl _ _ | assumption | refine Below.setCell ?_ (by first | (simp; done) | omega | (simp; omega) | (simp at *; omega)) _ | refine Below.drew ?_ | refine below_drewN ?_ _ | refine below_alloc' ?_ _ | refine below_to' ?_ (by assumption)))))).mono ?_
          rintro e' w3 ⟨rfl, hb3⟩
          obtain ⟨Z, hZ, hbZ, hZs, hPZ⟩ := new1 w3 31 m.num (m.den : Int)
          have hb3Z := hb3.trans (hbZ.mono hb3.size)
          have hPq := hrl.out.2.2.keep hb3Z hqz
          have hq3 : q < w3.heap.size := by have := hb3.size; omega
          obtain ⟨⟨z1, z2⟩, z3, z4⟩ := id hPZ
          obtain ⟨⟨p1, p2⟩, p3, p4⟩ := id hPq
          have HPQ := hide hPq
          clear hPq hPZ
          go_wp2_with fail
          clear hZ
          obtain ⟨qm, hqm⟩ : ∃ q, w3.heap.size = q := ⟨_, rfl⟩
          rw [hqm] at z1 z2 z3 z4 hZs hq3
          rw [hqm]
          clear hqm
          refine (F2.out _).mono ?_
          rintro e' w4 ⟨rfl, hb4⟩
          have c1 := (hb4.cell (p := ⟨qm, 0, none⟩) hZs).trans z1
          have c2' := (hb4.cell (p := ⟨qm, 1, none⟩) hZs).trans z2
          have hqZ : q < Z.heap.size := by have := hb3Z.size; omega
          have hP4 := HPQ.out.keep hb4 hqZ
          have hbz4 := hbz.trans ((hb3Z.trans (hb4.mono hb3Z.size)).mono (by omega))
          have hq4 : q < w4.heap.size := by have := hb4.size; omega
          clear z1 z2 z3 z4 p1 p2 p3 p4
          by_cases hbm : b < m
          · have hbd : decide (b < m) = true := decide_eq_true hbm
            have HNB : Hid (hbR xs ws I (d + 1) = (b, e)) := by show _ = _; rw [HST.out, if_pos hbm]
            have HP4 := hide hP4
            clear hP4 hbm
            go_wp2_with fail
            go_roundw
            case rel => exact ⟨d + 1, by omega, by go_num, by rw [HNB.out], ⟨hbz4, hq4, by rw [HNB.out]; exact HP4.out⟩⟩
            case measure => simp [intOf]; omega
          · have hbd : decide (b < m) = false := decide_eq_false hbm
            have HNB : Hid (hbR xs ws I (d + 1) = (m, I + 1 + d)) := by show _ = _; rw [HST.out, if_neg hbm]
            obtain ⟨⟨a1, a2⟩, a3, a4⟩ := hP4
            obtain ⟨Z5, hZ5, hbZ5, hpZ5, hsZ5, _⟩ := set_pair (x := .int .i64 m.num) (y := .int .i64 (m.den : Int)) (Nat.le_refl q) a1 a2 a3 a4
            have HP5 : Hid (Pr Z5 q m.num (m.den : Int)) := ⟨⟨hpZ5.1, hpZ5.2.1⟩, hpZ5.2.2.1, hpZ5.2.2.2⟩
            clear hpZ5 hbm
            go_wp2_with fail
            clear hZ5
            go_roundw
            case rel => exact ⟨d + 1, by omega, by go_num, by rw [HNB.out]; go_num, ⟨hbz4.trans hbZ5, by omega, by rw [HNB.out]; exact HP5.out⟩⟩
            case measure => simp [intOf]; omega
        · have hde : d = xs.length - 1 - I := by omega
          have hnl : ¬ (I : Int) + 1 + d < (xs.length : Int) := by omega
          have hbb := hbR_bd xs ws I d
          rw [← hde] at HNX
          clear hde
          obtain ⟨hb, hhb⟩ : ∃ hb, hbR xs ws I d = hb := ⟨_, rfl⟩
          rw [hhb] at HNX hrl hbb ⊢
          obtain ⟨b, e⟩ := hb
          have hbb : I ≤ e ∧ e ≤ I + d := hbb
          have HNX : Hid (hullF xs ws (f + 1) = L ++ List.replicate (e + 1 - I) b) := HNX.out
          have hownz := hownV.keepB HBK.out hbz
          have hP := hide hrl.out.2.2
          have hne0 : (Value.slice Ao (prP L).length co).ownBlock ≠ some q := fun h => by have := HBK.out q h; omega
          clear hhb hrl
          go_wp2_with fail
          go_loopw [5, 6] (fun out i wr' => ∃ t : Nat, I + t ≤ e + 1 ∧ i = .int .i64 ((I : Int) + t) ∧ OwnP wr' w.heap.size out (prP (L ++ List.replicate t b)) ∧ out.ownBlock ≠ some q ∧ q < wr'.heap.size ∧ Hid (Pr wr' q b.num (b.den : Int)) ∧ Below w.heap.size w wr') (fun _ i _ => e + 1 - (intOf i).toNat)
          case atStart => exact ⟨0, by omega, by simp, by simpa using hownz, hne0, hqz, hP, hbwz⟩
          case round =>
            rename World => wt
            clear hownz hbwz hP hne0 hqz
            obtain ⟨t, ht, rfl, hown, hne, hqz, hP, hbwt⟩ := hrel
            by_cases htl : I + t < e + 1
            · have hle : (I : Int) + t ≤ (e : Int) := by omega
              have hsz := hbwt.size
              have hpl2 : (prP (L ++ List.replicate t b)).length ≤ 1000 := by rw [prP_len, List.length_append, List.length_replicate, HI.out]; omega
              have HSN := hide (prP_snoc L t b)
              obtain ⟨PS, hPS⟩ : ∃ P, prP (L ++ List.replicate t b) = P := ⟨_, rfl⟩
              rw [hPS] at hown hpl2 HSN
              obtain ⟨At, ct, rfl, _, _, _⟩ := hown.sl
              obtain ⟨⟨b1, b2⟩, b3, b4⟩ := id hP.out
              clear hPS
              go_wp2_with (at_builtin; refine wpList_push_frac _ rfl (.tmp 50) (.tmp 52) rfl w.heap.size _ PS b.num (b.den : Int) _ 1 rfl rfl hown hsz (by omega) ?_; intro v8 w8 hown8 hb8 hg8 hat8 hlt8)
              have HP8 := hide (hP.out.grown hg8 hqz (Ne.symm hne))
              rw [← HSN.out] at hown8
              have hne8 : v8.ownBlock ≠ some q := by
                rcases hat8 with h | h <;> rw [h]
                · exact hne
                · simp; omega
              clear b1 b2 b3 b4
              go_roundw
              case rel => exact ⟨t + 1, by omega, by go_num, hown8, hne8, by omega, HP8.out, hbwt.trans hb8⟩
              case measure => simp [intOf]; omega
            · have hte : t = e + 1 - I := by omega
              have hnl2 : ¬ (I : Int) + t ≤ (e : Int) := by omega
              rw [hte] at hown
              rw [← HNX.out] at hown
              have hln : (hullF xs ws (f + 1)).length = I + t := by rw [HNX.out, List.length_append, List.length_replicate, HI.out, hte]
              have HLN := hide hln
              clear hln
              obtain ⟨At, ct, rfl, _, _, _⟩ := hown.sl
              go_wp2_with fail
              go_roundw
              case rel => exact ⟨f + 1, hullF xs ws (f + 1), rfl, by rw [HLN.out]; go_num, hown, hbwt⟩
              case measure => simp [intOf]; omega
    · have HE : Hid (L = hullF xs ws xs.length) := by show _ = _; rw [hL.out]; exact hullF_end (by rw [← hL.out]; omega)
      have hLl : L.length = xs.length := by omega
      have hni : ¬ (L.length : Int) < (xs.length : Int) := by omega
      have HO := hide hown
      clear hLl
      obtain ⟨Ao, co, rfl, _, _, _⟩ := hown.sl
      go_wp2_with fail
      go_ret
      exact ⟨_, rfl, by rw [← HE.out]; exact HO.out.sl, hbel⟩
end Go.Proofs.Ytahogdcmnpidiaa
