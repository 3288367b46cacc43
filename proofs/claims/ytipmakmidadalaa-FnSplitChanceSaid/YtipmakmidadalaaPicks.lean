/-
  Contracts: picks, for whatever function it calls.
-/
import Derived.Test.YtipmakmidadalaaPickP
import Derived.Test.YtipmakmidadalaaSigned
import Derived.Test.YtipmakmidadalaaFlip2
namespace Go.Proofs.Ytipmakmidadalaa
open Go.RowKit

set_option maxHeartbeats 2000000 in
theorem picks_c (F : FuncId) (C : Array Value) (I : Nat → World → Prop) (v : Value) (xs : List Int) (k : Nat) (w : World) (hn : xs.length ≤ 10)
    (hcf : ∀ (args : Array Value) (w : World), (callFunc F args).run Try.prog w = .ok (.enter F args) w)
    (hI : ∀ s w w', I s w → Below w.heap.size w w' → I s w') (hR : ∀ s w, I s w → Rd w v xs)
    (hcall : ∀ (s : Nat) (W w' : World) (u1 u2 : Value), s < 2 ^ xs.length → I s W → Below W.heap.size W w' → (pickL true xs s xs.length).length = k → Sl w' W.heap.size u1 (pickL true xs s xs.length) → Calls Try.prog F (#[u1, u2] ++ C) w' fun e w'' => e = .returned (.tuple #[]) ∧ I (s + 1) w'')
    (hskip : ∀ (s : Nat) (w' : World), s < 2 ^ xs.length → I s w' → (pickL true xs s xs.length).length ≠ k → I (s + 1) w')
    (hw : I 0 w) :
    Calls Try.prog 63 #[v, .int .i64 k, .func (.func F) #[] C] w fun e w' => e = .returned (.tuple #[]) ∧ I (2 ^ xs.length) w' := by
  have hr := hR 0 w hw
  obtain ⟨A, c, rfl, hc, hm, _⟩ := hr
  have HI := hide hI
  have HR := hide hR
  have HC := hide hcall
  have HK := hide hskip
  clear hI hR hcall hskip
  obtain ⟨N, hN⟩ : ∃ N, N = 2 ^ xs.length := ⟨_, rfl⟩
  have hN1 := two_pow_le hn
  rw [← hN] at hN1
  have hsh : wrap64 ((2 : Int) ^ xs.length) = (N : Int) := by
    have e : (2 : Int) ^ xs.length = (N : Int) := by rw [hN, Int.natCast_pow]; rfl
    rw [e]
    exact IntWalk.wrap64_in _ ⟨by omega, by omega⟩
  rw [← hN]
  have HN := hide hN
  have HSH := hide hsh
  clear hN hsh
  go_enter Try.func63, Try.ntmps63
  go_wp2_with fail
  rw [HSH.out]
  go_loopw [14] (fun i wr => ∃ s : Nat, s ≤ N ∧ i = .int .i64 s ∧ I s wr) (fun i _ => N - (intOf i).toNat)
  case atStart => exact ⟨0, by omega, rfl, hw⟩
  case round =>
    obtain ⟨s, hs, rfl, hI⟩ := hrel
    by_cases hlt : s < N
    · have hr' := HR.out s wr hI
      obtain ⟨W, hW⟩ : ∃ W, W = wr := ⟨_, rfl⟩
      subst hW
      go_wp2_with fail
      go_loopw [7, 8, 19] (fun o f i wr => ∃ j : Nat, j ≤ xs.length ∧ i = .int .i64 j ∧ Own wr W.heap.size 3 o (pickL true xs s j) ∧ Own wr W.heap.size 3 f (pickL false xs s j) ∧ Apart o f ∧ Below W.heap.size W wr)
        (fun _ _ i _ => xs.length - (intOf i).toNat)
      case atStart => exact ⟨0, by omega, rfl, Own.nil _ _ _, Own.nil _ _ _, by intro g; simp [Value.ownBlock], Below.refl _ _⟩
      case round =>
        obtain ⟨j, hj, rfl, hownc, howno, hap, hbel⟩ := hrel
        have hsz := hbel.size
        by_cases hjn : j < xs.length
        · obtain ⟨g, off, rfl, hg, hcl⟩ := hr'.at (by omega)
          have cj := (hbel.cell (p := ⟨g, off + j, none⟩) hg).trans (hcl j hjn)
          have ij : (j : Int) < (xs.length : Int) := by omega
          have L1 := hide (pickL_len true xs s j)
          have L2 := hide (pickL_len false xs s j)
          obtain ⟨x, hx⟩ : ∃ x, atL xs j = x := ⟨_, rfl⟩
          have HX := hide hx
          rw [hx] at cj
          clear hcl hx
          cases hb : s.testBit j
          · have hbit : (bits .and .i64 ((s : Int) / 2 ^ j) 1 == 1) = false := by rw [bit_int s j (by omega)]; exact hb
            have H1 : Hid (pickL true xs s (j + 1) = pickL true xs s j) := pickL_out (by rw [hb]; simp)
            have H2 : Hid (pickL false xs s (j + 1) = pickL false xs s j ++ [x]) := by show _ = _; rw [pickL_in hb, HX.out]
            clear hb
            go_wp2_with (at_builtin; refine wpList_push_int _ rfl (.tmp 33) (.tmp 35) rfl ints W.heap.size _ _ x _ 1 rfl rfl howno hsz (by have := L2.out; omega) ?_; intro v5 w5 hown5 hb5 hg5 hat5 hk5 hlt5)
            go_roundw
            case rel => exact ⟨j + 1, by omega, by go_num, by rw [H1.out]; exact hownc.keep hg5 hap.symm.ne, by rw [H2.out]; exact hown5, (hap.symm.grow (n := wr.heap.size + 1) hat5 (fun g hz => by have := World.ownsRow.lt hownc g hz; omega)).symm, hbel.trans hb5⟩
            case measure => simp [intOf]; omega
          · have hbit : (bits .and .i64 ((s : Int) / 2 ^ j) 1 == 1) = true := by rw [bit_int s j (by omega)]; exact hb
            have H1 : Hid (pickL false xs s (j + 1) = pickL false xs s j) := pickL_out (by rw [hb]; simp)
            have H2 : Hid (pickL true xs s (j + 1) = pickL true xs s j ++ [x]) := by show _ = _; rw [pickL_in hb, HX.out]
            clear hb
            go_wp2_with (at_builtin; refine wpList_push_int _ rfl (.tmp 29) (.tmp 31) rfl ints W.heap.size _ _ x _ 1 rfl rfl hownc hsz (by have := L1.out; omega) ?_; intro v5 w5 hown5 hb5 hg5 hat5 hk5 hlt5)
            go_roundw
            case rel => exact ⟨j + 1, by omega, by go_num, by rw [H2.out]; exact hown5, by rw [H1.out]; exact howno.keep hg5 hap.ne, hap.grow (n := wr.heap.size + 1) hat5 (fun g hz => by have := World.ownsRow.lt howno g hz; omega), hbel.trans hb5⟩
            case measure => simp [intOf]; omega
        · obtain rfl : j = xs.length := by omega
          have hI2 := HI.out s _ _ hI hbel
          have hrc := hownc.sl.rd
          obtain ⟨Ac, cc, rfl, _, _, _⟩ := id hrc
          by_cases hlk : (pickL true xs s xs.length).length = k
          · have hlb : (((pickL true xs s xs.length).length : Int) == (k : Int)) = true := beq_iff_eq.2 (by omega)
            have HS := hide (And.intro hI (And.intro hbel (And.intro hlk hownc.sl)))
            clear hownc howno hrc hI2 hap hlk
            go_wp2_with fail
            refine (HC.out s _ wr _ _ (by rw [← HN.out]; exact hlt) HS.out.1 HS.out.2.1 HS.out.2.2.1 HS.out.2.2.2).mono ?_
            rintro e w2 ⟨rfl, hI3⟩
            go_wp2_with fail
            go_roundw
            case rel => exact ⟨s + 1, by omega, by go_num, hI3⟩
            case measure => simp [intOf]; omega
          · have hlb : (((pickL true xs s xs.length).length : Int) == (k : Int)) = false := beq_eq_false_iff_ne.2 (by omega)
            have hI3 := HK.out s wr (by rw [← HN.out]; exact hlt) hI2 hlk
            clear hownc howno hrc hI2 hap hlk
            go_wp2_with fail
            go_roundw
            case rel => exact ⟨s + 1, by omega, by go_num, hI3⟩
            case measure => simp [intOf]; omega
    · obtain rfl : s = N := by omega
      go_wp2_with fail
      go_end0
      exact ⟨rfl, hI⟩
end Go.Proofs.Ytipmakmidadalaa
