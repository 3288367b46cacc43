
/-
  Contracts: cuts, for whatever function it calls.
-/
import Derived.Test.YtgageljahebjnaaC9b
import Derived.Test.YtgageljahebjnaaCutP
namespace Go.Proofs.Ytgageljahebjnaa
open Go.RowKit

theorem rows_ty : ValsOf Try.prog 53 22 (.slice none 0 0) 24 := ⟨Try.underlying53, by kernel_rfl, rfl⟩

set_option maxHeartbeats 2000000 in
theorem cuts_c (F : FuncId) (C : Array Value) (I : Nat → World → Prop) (v : Value) (xs : List Int) (w : World) (h0 : 0 < xs.length) (hn : xs.length ≤ 8)
    (hcf : ∀ (args : Array Value) (w : World), (callFunc F args).run Try.prog w = .ok (.enter F args) w)
    (hI : ∀ s w w', I s w → Below w.heap.size w w' → I s w') (hR : ∀ s w, I s w → Rd w v xs)
    (hcall : ∀ (s : Nat) (w' : World) (u : Value), s < 2 ^ (xs.length - 1) → I s w' → RdSS w' u (partsOf xs s) → Calls Try.prog F (#[u] ++ C) w' fun e w'' => e = .returned (.tuple #[]) ∧ I (s + 1) w'')
    (hw : I 0 w) :
    Calls Try.prog 38 #[v, .func (.func F) #[] C] w fun e w' => e = .returned (.tuple #[]) ∧ I (2 ^ (xs.length - 1)) w' := by
  have hr := hR 0 w hw
  obtain ⟨A, c, rfl, hc, hm, _⟩ := hr
  have HI := hide hI
  have HR := hide hR
  have HC := hide hcall
  clear hI hR hcall
  obtain ⟨N, hN⟩ : ∃ N, N = 2 ^ (xs.length - 1) := ⟨_, rfl⟩
  have hN1 : N ≤ 128 := by rw [hN]; exact Nat.pow_le_pow_right (n := 2) (by omega) (show xs.length - 1 ≤ 7 by omega)
  have hsh : wrap64 ((2 : Int) ^ (xs.length - 1)) = (N : Int) := by
    have e : (2 : Int) ^ (xs.length - 1) = (N : Int) := by rw [hN, Int.natCast_pow]; rfl
    rw [e]
    exact IntWalk.wrap64_in _ ⟨by omega, by omega⟩
  rw [← hN]
  have HN := hide hN
  have HSH := hide hsh
  clear hN hsh
  go_enter Try.func38, Try.ntmps38
  go_wp2_with fail
  rw [HSH.out]
  go_loopw [12] (fun i wr => ∃ s : Nat, s ≤ N ∧ i = .int .i64 s ∧ I s wr) (fun i _ => N - (intOf i).toNat)
  case atStart => exact ⟨0, by omega, rfl, hw⟩
  case round =>
    obtain ⟨s, hs, rfl, hI⟩ := hrel
    by_cases hlt : s < N
    · have hr' := HR.out s wr hI
      obtain ⟨W, hW⟩ : ∃ W, W = wr := ⟨_, rfl⟩
      subst hW
      go_wp2_with fail
      go_loopw [5, 6, 7] (fun o f i wr => ∃ (k : Nat) (vs : List Value), k ≤ xs.length ∧ i = .int .i64 ((k : Int) + 1) ∧ f = .int .i64 ((stp xs s k).2 : Int) ∧ OwnV wr W.heap.size 22 o vs ∧ RdAll W vs (stp xs s k).1 ∧ Below W.heap.size W wr)
        (fun _ _ i _ => xs.length + 1 - (intOf i).toNat)
      case atStart => exact ⟨0, [], by omega, rfl, rfl, OwnV.nil _ _ _, ⟨rfl, by simp⟩, Below.refl _ _⟩
      case round =>
        obtain ⟨k, vs, hk, rfl, rfl, hown, hall, hbel⟩ := hrel
        by_cases hkn : k < xs.length
        · have hsti := stp_inv xs s k (by omega)
          have hf := hsti.1
          have hlen := hsti.2.2.2.1
          obtain ⟨f, hff⟩ : ∃ f, f = (stp xs s k).2 := ⟨_, rfl⟩
          rw [← hff] at hf ⊢
          have hvl : vs.length ≤ 8 := by rw [hall.1]; omega
          have hsz := hbel.size
          have hseg := hr'.seg (i := f) (k := k + 1) (by omega) (by omega)
          have HX := hide (And.intro hff (And.intro hall (And.intro hown hseg)))
          clear hff hall hown hsti hseg
          by_cases hcut : k + 1 = xs.length ∨ s.testBit k = true
          · have hst : Hid (stp xs s (k + 1) = ((stp xs s k).1 ++ [seg xs (stp xs s k).2 (k + 1)], k + 1)) := by show _ = _; rw [stp_succ, if_pos hcut]
            by_cases hkl : k + 1 = xs.length
            · have hb0 : ((k : Int) + 1 == (xs.length : Int)) = true := beq_iff_eq.2 (by omega)
              clear hkl hcut
              go_wp2_with (at_builtin; refine wpList_push_val _ rfl (.tmp 33) (.tmp 38) rfl rows_ty (by omega) W.heap.size _ vs _ rfl _ 1 rfl rfl HX.out.2.2.1 hsz (by omega) ?_; intro v5 w5 hown5 hb5 hg5 hat5 hlt5)
              go_roundw
              case rel =>
                refine ⟨k + 1, _, by omega, by go_num, by rw [hst.out]; go_num, hown5, ?_, hbel.trans hb5⟩
                rw [hst.out, ← HX.out.1]
                exact HX.out.2.1.snoc HX.out.2.2.2
              case measure => simp [intOf]; omega
            · have hb0 : ((k : Int) + 1 == (xs.length : Int)) = false := beq_eq_false_iff_ne.2 (by omega)
              have hbit : (bits .and .i64 ((s : Int) / 2 ^ k) 1 == 1) = true := by rw [bit_int s k (by omega)]; exact hcut.resolve_left hkl
              clear hkl hcut
              go_wp2_with (at_builtin; refine wpList_push_val _ rfl (.tmp 33) (.tmp 38) rfl rows_ty (by omega) W.heap.size _ vs _ rfl _ 1 rfl rfl HX.out.2.2.1 hsz (by omega) ?_; intro v5 w5 hown5 hb5 hg5 hat5 hlt5)
              go_roundw
              case rel =>
                refine ⟨k + 1, _, by omega, by go_num, by rw [hst.out]; go_num, hown5, ?_, hbel.trans hb5⟩
                rw [hst.out, ← HX.out.1]
                exact HX.out.2.1.snoc HX.out.2.2.2
              case measure => simp [intOf]; omega
          · have hst : Hid (stp xs s (k + 1) = stp xs s k) := by show _ = _; rw [stp_succ, if_neg hcut]
            have hb0 : ((k : Int) + 1 == (xs.length : Int)) = false := beq_eq_false_iff_ne.2 (by omega)
            have hbit : (bits .and .i64 ((s : Int) / 2 ^ k) 1 == 1) = false := by rw [bit_int s k (by omega)]; simpa using fun h => hcut (.inr h)
            clear hcut
            go_wp2_with fail
            go_roundw
            case rel => exact ⟨k + 1, vs, by omega, by go_num, by rw [hst.out, HX.out.1], HX.out.2.2.1, by rw [hst.out]; exact HX.out.2.1, hbel⟩
            case measure => simp [intOf]; omega
        · obtain rfl : k = xs.length := by omega
          have hrss : RdSS wr _ (partsOf xs s) := hown.rdSS (hall.below hbel)
          have hI2 := HI.out s _ _ hI hbel
          have HS := hide (And.intro hI2 hrss)
          clear hall hown hrss hI2
          go_wp2_with fail
          refine (HC.out s wr _ (by rw [← HN.out]; exact hlt) HS.out.1 HS.out.2).mono ?_
          rintro e w2 ⟨rfl, hI3⟩
          go_wp2_with fail
          go_roundw
          case rel => exact ⟨s + 1, by omega, by go_num, hI3⟩
          case measure => simp [intOf]; omega
    · obtain rfl : s = N := by omega
      go_wp2_with fail
      go_end0
      exact ⟨rfl, hI⟩
end Go.Proofs.Ytgageljahebjnaa
