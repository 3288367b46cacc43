/-
  Contract: SplitChance of the reference.
-/
import Derived.Test.YtipmakmidadalaaSplitA
import Derived.Test.YtipmakmidadalaaPicks
import Derived.Test.YtipmakmidadalaaWinsLaw
namespace Go.Proofs.Ytipmakmidadalaa
open Go.RowKit

def splitX (xs ys : List Int) : Int := if okTwo xs ys then atN (xs ++ ys) xs.length (sumL xs) else -1
def splitY (xs ys : List Int) : Int := if okTwo xs ys then pasc (xs.length + ys.length) xs.length else -1
theorem split_ok {xs ys : List Int} (h : okTwo xs ys = true) : splitX xs ys = atN (xs ++ ys) xs.length (sumL xs) ∧ splitY xs ys = pasc (xs.length + ys.length) xs.length := by simp [splitX, splitY, h]
theorem split_bad {xs ys : List Int} (h : okTwo xs ys = false) : splitX xs ys = -1 ∧ splitY xs ys = -1 := by simp [splitX, splitY, h]

set_option maxHeartbeats 2000000 in
theorem SplitS_c (u v : Value) (xs ys : List Int) (w : World) (hx : Rd w u xs) (hy : Rd w v ys) (hn1 : xs.length ≤ 2000000) (hn2 : ys.length ≤ 2000000) :
    Calls Try.prog 32 #[u, v] w fun e w' => e = .returned (.tuple #[.int .i64 (splitX xs ys), .int .i64 (splitY xs ys)]) ∧ Below w.heap.size w w' := by
  cases hok : okTwo xs ys
  · have HR := hide (split_bad hok)
    go_enter Try.func32, Try.ntmps32
    go_wp2_with fail
    refine (samplesS_c _ _ xs ys false _ hx hy hn1 hn2 hok).mono ?_
    rintro e w1 ⟨rfl, rfl⟩
    go_wp2_with fail
    go_ret2
    rw [HR.out.1, HR.out.2]
    exact ⟨rfl, Below.refl _ _⟩
  · have HR := hide (split_ok hok)
    obtain ⟨h1, h2, h3, h4, h5⟩ := okTwo_all hok
    have hdat := okTwo_append hok
    have hall := (okData_all h1).1
    have hall2 := (okData_all hdat).1
    have hsb := sum_bd10 hall (by omega)
    have hbig : allB (-1000000) 1000000 xs = true := allB_iff.2 fun x hx => by have := allB_iff.1 hall x hx; omega
    have HA := hide (And.intro hall2 hbig)
    have KV := hide fun w hx hy => samplesS_c u v xs ys true w hx hy hn1 hn2 hok
    have KSU := hide fun w hx => sumS_c u xs w hx (by omega) HA.out.2
    have KC := hide fun w => chooseS_c (xs.length + ys.length) xs.length w (by omega) (by omega)
    obtain ⟨Au, cu, rfl, hcu, hmu, _⟩ := id hx
    obtain ⟨Av, cv, rfl, hcv, hmv, _⟩ := id hy
    clear hok hdat hall hall2 hbig h1 h2
    go_enter Try.func32, Try.ntmps32
    go_wp2_with fail
    refine (KV.out _ hx hy).mono ?_
    rintro e w3 ⟨rfl, rfl⟩
    go_wp2_with (at_builtin; first
      | (refine wpList_append_rd _ rfl (.tmp 11) (.tmp 12) rfl ints w.heap.size _ _ [] xs rfl rfl (lit_own [] rfl rfl rfl (by simp) (Nat.le_refl _)) (hx.alloc _) (by simp) (by simp) (by omega) (by omega) ?_; intro v4 w4 hown4 hb4 hg4 hat4 hk4 hlt4; have hb4' : Below w.heap.size w w4 := ((Below.refl _ _).alloc (Nat.le_refl _) _).trans hb4; have hsz4 := hb4'.size)
      | (refine wpList_append_rd _ rfl (.tmp 13) (.tmp 14) rfl ints w.heap.size _ _ _ ys rfl rfl hown4 (hy.below hb4') hsz4 (by simp; omega) (by omega) (by omega) ?_; intro v5 w5 hown5 hb5 hg5 hat5 hk5 hlt5))
    have hb05 : Below w.heap.size w w5 := hb4'.trans hb5
    rw [List.nil_append] at hown5
    have hr5 := hown5.sl.rd
    have hx5 := hx.below hb05
    have hlz : (xs ++ ys).length = xs.length + ys.length := List.length_append
    have HZ := hide hlz
    clear hlz hb4 hb5 hg4 hg5 hat4 hat5 hk4 hk5 hown4 hown5 hb4' hsz4 hlt4 hlt5
    have HK := hide fun t h1 h2 => atLeast_c (xs ++ ys) xs.length v5 t w5 hr5 HA.out.1 (by have := HZ.out; omega) (by omega) h1 h2
    obtain ⟨A5, c5, rfl, _, _, _⟩ := id hr5
    rw [HZ.out] at HK ⊢
    clear hr5
    go_wp2_with fail
    refine (KSU.out _ hx5).mono ?_
    rintro e w6 ⟨rfl, rfl⟩
    go_wp2_with fail
    refine (HK.out _ (by omega) (by omega)).mono ?_
    rintro e w7 ⟨rfl, m, rfl⟩
    go_wp2_with fail
    refine (KC.out _).mono ?_
    rintro e w8 ⟨rfl, rfl⟩
    go_wp2_with fail
    go_ret2
    rw [HR.out.1, HR.out.2]
    exact ⟨rfl, below_drewN hb05 _⟩
end Go.Proofs.Ytipmakmidadalaa
