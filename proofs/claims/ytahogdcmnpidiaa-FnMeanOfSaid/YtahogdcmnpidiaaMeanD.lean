/-
  What FnMeanOf draws; means lie within the numbers.
-/
import Derived.Test.YtahogdcmnpidiaaMeanB
import Derived.Test.YtahogdcmnpidiaaVal
namespace Go.Proofs.Ytahogdcmnpidiaa
open Go.RowKit

theorem qf_cross {u d : Int} (hd : 0 < d) : (qf u d).num * d = u * ((qf u d).den : Int) := by
  have h1 : Rat.divInt (qf u d).num ((qf u d).den : Int) = Rat.divInt u d := Rat.num_divInt_den (qf u d)
  exact (Rat.divInt_eq_divInt_iff (by have := qden_pos (qf u d); omega) (by omega)).1 h1
theorem mul_lt_pos {a b c : Int} (h : a < b) (hc : 0 < c) : a * c < b * c := Int.mul_lt_mul_of_pos_right h hc
theorem int_num (n : Int) : (n : Rat).num = n ∧ ((n : Rat).den : Int) = 1 := ⟨rfl, rfl⟩
theorem qf_le_int {u d n : Int} (hd : 0 < d) (h : u ≤ n * d) : ¬ ((n : Rat) < qf u d) := by
  rw [lt_cross, (int_num n).1, (int_num n).2, Int.mul_one]
  intro hlt
  have h1 := mul_lt_pos hlt hd
  rw [qf_cross hd] at h1
  have h2 := Int.mul_le_mul_of_nonneg_right h (Int.le_of_lt (qden_pos (qf u d)))
  have e : n * ((qf u d).den : Int) * d = n * d * ((qf u d).den : Int) := Int.mul_right_comm ..
  omega
theorem int_le_qf {u d n : Int} (hd : 0 < d) (h : n * d ≤ u) : ¬ (qf u d < (n : Rat)) := by
  rw [lt_cross, (int_num n).1, (int_num n).2, Int.mul_one]
  intro hlt
  have h1 := mul_lt_pos hlt hd
  rw [qf_cross hd] at h1
  have h2 := Int.mul_le_mul_of_nonneg_right h (Int.le_of_lt (qden_pos (qf u d)))
  have e : n * ((qf u d).den : Int) * d = n * d * ((qf u d).den : Int) := Int.mul_right_comm ..
  omega
theorem upTo_le {xs ws : List Int} {g : Int} {i : Nat} : ∀ {n : Nat}, (∀ j, j < n → atL xs (i + j) ≤ g ∧ 0 ≤ atL ws (i + j)) → upTo xs ws i n ≤ g * dnTo ws i n
  | 0, _ => by simp [upTo, dnTo, sumTo]
  | n + 1, h => by
    have ih := upTo_le (n := n) fun j hj => h j (by omega)
    obtain ⟨h1, h2⟩ := h n (by omega)
    have := Int.mul_le_mul_of_nonneg_right h1 h2
    rw [upTo_succ, dnTo_succ, Int.mul_add]
    omega
theorem le_upTo {xs ws : List Int} {g : Int} {i : Nat} : ∀ {n : Nat}, (∀ j, j < n → g ≤ atL xs (i + j) ∧ 0 ≤ atL ws (i + j)) → g * dnTo ws i n ≤ upTo xs ws i n
  | 0, _ => by simp [upTo, dnTo, sumTo]
  | n + 1, h => by
    have ih := le_upTo (n := n) fun j hj => h j (by omega)
    obtain ⟨h1, h2⟩ := h n (by omega)
    have := Int.mul_le_mul_of_nonneg_right h1 h2
    rw [upTo_succ, dnTo_succ, Int.mul_add]
    omega
theorem mean_one {xs ws : List Int} {i : Nat} (h : 1 ≤ atL ws i) : meanR xs ws i 1 = (atL xs i : Rat) := by
  have e1 : upTo xs ws i 1 = atL xs i * atL ws i := by simp [upTo, sumTo]
  have e2 : dnTo ws i 1 = 1 * atL ws i := by simp [dnTo, sumTo]
  rw [meanR, e1, e2, qf_scale (by omega), qf_one]

set_option maxHeartbeats 1000000 in
theorem DrawMean_c (A : Option Addr) (n c : Nat) (bs : List Int) (w : World) (hl : bs.length = n) (hnc : n ≤ c) (hc : c ≤ 9223372036854775807) (hr : Rd8 w w.heap.size A bs) :
    Calls Try.prog 37 #[.slice A n c] w fun e w' => ∃ v xs u ys i k, e = .returned (.tuple #[v, u, .int .i64 i, .int .i64 k]) ∧ Rd w' v xs ∧ xs.length ≤ 30 ∧ Rd w' u ys ∧ ys.length ≤ 30 ∧ (-100 ≤ i ∧ i ≤ 100) ∧ (-100 ≤ k ∧ k ≤ 100) ∧ Below w.heap.size w w' := by
  go_enter Try.func37, Try.ntmps37
  go_wp2_with fail
  refine (newReader_c A n c bs _ hl hnc hc hr).mono ?_
  rintro e w1 ⟨R, bs', rfl, hbl, hR, ⟨A', c', hrd⟩, hb1⟩
  have hR1 := blk_lt hrd.blk
  go_wp2_with fail
  refine (someLoads_c R c' 0 A' bs' _ hrd (by omega) hbl).mono ?_
  rintro e w2 ⟨v, xs, u, ys, p', rfl, hsv, hxl, hsu, hyl, _, hrd2, hp', hold⟩
  have hsz2 := hold.size
  have hRs : R < w1.heap.size := hR1
  obtain ⟨Ax, cx, rfl, hcx, hmx, _⟩ := id hsv
  go_wp2_with fail
  refine (pick_c R c' p' A' bs' _ _ hrd2 (by omega) (by omega) hbl).mono ?_
  rintro e w3 ⟨⟨i, rfl, hi⟩, hrd3, hon3⟩
  have hi' : 0 ≤ i ∧ i ≤ 30 := by
    by_cases h0 : (xs.length : Int) < 1
    · rw [hi.1 h0]; omega
    · have := hi.2 (by omega); omega
  have hsv3 := hsv.only hon3 hRs
  have hsu3 := hsu.only hon3 hRs
  have hold3 : w1.grownBy w3 (some R) := old_only hold hon3
  clear hi hon3
  go_wp2_with fail
  refine (one_c R c' (p' + 1) A' bs' [i, i, 0, -1] _ _ (hrd3.alloc _) (by omega) hbl (lit_sl _ rfl (by simp) rfl (by simp) (by have := hold3.size; omega)) (by simp)).mono ?_
  rintro e w4 ⟨⟨a, ha, rfl⟩, hrd4, hon4⟩
  have ha' : -100 ≤ a ∧ a ≤ 100 := by simp at ha; omega
  have hsv4 := (hsv3.alloc _).only hon4 hRs
  have hsu4 := (hsu3.alloc _).only hon4 hRs
  have hold4 : w1.grownBy w4 (some R) := old_only (old_alloc hold3 _) hon4
  clear ha hon4
  have e1 : IntKind.i64.wrap ((xs.length : Int) - i) = (xs.length : Int) - i := IntWalk.i64_in _ (by omega)
  have e3 : IntKind.i64.wrap ((xs.length : Int) - 1) = (xs.length : Int) - 1 := IntWalk.i64_in _ (by omega)
  go_wp2_with fail
  refine (pick_c R c' (p' + 1 + 1) A' bs' _ _ hrd4 (by omega) (by omega) hbl).mono ?_
  rintro e w5 ⟨⟨b, rfl, hb⟩, hrd5, hon5⟩
  have hb' : 0 ≤ b ∧ b ≤ 30 := by
    by_cases h0 : (xs.length : Int) - i < 1
    · rw [hb.1 h0]; omega
    · have := hb.2 (by omega); omega
  have hib : 0 ≤ i + b ∧ i + b ≤ 60 := by omega
  have hsv5 := hsv4.only hon5 hRs
  have hsu5 := hsu4.only hon5 hRs
  have hold5 : w1.grownBy w5 (some R) := old_only hold4 hon5
  have e2 : IntKind.i64.wrap (i + b) = i + b := IntWalk.i64_in _ (by omega)
  clear hb hon5
  go_wp2_with fail
  refine (one_c R c' (p' + 1 + 1 + 1) A' bs' [i + b, i, (xs.length : Int) - 1, (xs.length : Int)] _ _ (hrd5.alloc _) (by omega) hbl (lit_sl _ rfl (by simp) rfl (by simp) (by have := hold5.size; omega)) (by simp)).mono ?_
  rintro e w6 ⟨⟨d, hd, rfl⟩, hrd6, hon6⟩
  have hd' : -100 ≤ d ∧ d ≤ 100 := by simp at hd; omega
  have hsv6 := hide ((hsv5.alloc _).only hon6 hRs).rd
  have hsu6 := hide ((hsu5.alloc _).only hon6 hRs).rd
  have hold6 : w1.grownBy w6 (some R) := old_only (old_alloc hold5 _) hon6
  have hbb := hb1.trans (old_belowR hold6 hb1.size hR)
  clear hsv hsu hsv3 hsv4 hsv5 hsu3 hsu4 hsu5 hd e1 e2 e3
  go_wp2_with fail
  refine bodyPost_ret (v := .tuple #[_, _, .int .i64 a, .int .i64 d]) (by simp [results, Try.results37, go_sem]) rfl ⟨_, xs, _, ys, a, d, rfl, hsv6.out, hxl, hsu6.out, hyl, ha', hd', hbb⟩
end Go.Proofs.Ytahogdcmnpidiaa
