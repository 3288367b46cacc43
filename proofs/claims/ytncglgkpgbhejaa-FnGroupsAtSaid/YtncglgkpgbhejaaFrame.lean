/-
  What the frame tells of an argument that is a slice of slices of numbers.
-/
import Derived.Test.YtncglgkpgbhejaaSS
namespace Go.Proofs.Ytncglgkpgbhejaa
open Go.RowKit

theorem rdSS_nil (w : World) : RdSS w (.slice none 0 0) [] := ⟨none, 0, rfl, Nat.le_refl _, by omega, fun h => absurd h (by simp)⟩
theorem addr_add (b o j : Nat) : (⟨b, o, none⟩ : Addr).add j = ⟨b, o + j, none⟩ := by
  unfold Addr.add; split
  · next h0 => subst h0; rfl
  · rfl
theorem rdSS_of_rows {w : World} {a : Addr} {len cap : Nat} {A : Nat → Option Addr} {L C : Nat → Nat} {Z : Nat → List Int} (hl : len ≤ cap) (hm : cap ≤ 9223372036854775807)
    (h : ∀ r, r < cap → w.cell? (a.add r) = some (.slice (A r) (L r) (C r)) ∧ L r ≤ C r ∧ C r ≤ 9223372036854775807 ∧ (Z r).length = C r ∧ (A r = none → C r = 0) ∧ ∀ a', A r = some a' → ∀ c, c < C r → w.cell? (a'.add c) = some (.int .i64 ((Z r).getD c 0))) :
    RdSS w (.slice (some a) len cap) ((List.range len).map fun r => (Z r).take (L r)) := by
  refine ⟨some a, cap, by simp, by simpa using hl, hm, fun hp => ?_⟩
  have hp : 0 < len := by simpa using hp
  obtain ⟨b, off, spot⟩ := a
  have h0 := (h 0 (by omega)).1
  have hspot : spot = none := by simpa [Addr.add] using World.cell?_spot h0
  subst hspot
  have hb : b < w.heap.size := by
    have := World.block_lt_of_cell? w _ h0
    simpa [Addr.add] using this
  refine ⟨b, off, rfl, hb, fun j hj => ?_⟩
  have hj : j < len := by simpa using hj
  obtain ⟨e1, e2, e3, e4, e5, e6⟩ := h j (by omega)
  rw [addr_add] at e1
  refine ⟨_, e1, ?_⟩
  have hx : ((List.range len).map fun r => (Z r).take (L r)).getD j [] = (Z j).take (L j) := by simp [List.getD, hj]
  rw [hx]
  have hlen : ((Z j).take (L j)).length = L j := by simp; omega
  refine ⟨A j, C j, by rw [hlen], by rw [hlen]; exact e2, e3, fun hq => ?_⟩
  rw [hlen] at hq ⊢
  cases hA : A j with
  | none => have := e5 hA; omega
  | some a' =>
    have e6 := e6 a' hA
    obtain ⟨b', o', s'⟩ := a'
    have h1 := e6 0 (by omega)
    have hs : s' = none := by simpa [Addr.add] using World.cell?_spot h1
    subst hs
    have hb' : b' < w.heap.size := by
      have := World.block_lt_of_cell? w _ h1
      simpa [Addr.add] using this
    refine ⟨b', o', rfl, hb', fun k hk => ?_⟩
    have h2 := e6 k (by omega)
    rw [addr_add] at h2
    rw [h2]
    simp [List.getD, List.getElem?_take, hk]
end Go.Proofs.Ytncglgkpgbhejaa
