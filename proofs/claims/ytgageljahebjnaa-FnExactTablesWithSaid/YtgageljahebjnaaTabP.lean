
/-
  Plain laws on tables with given sums: the rows that fit, how many tables there are and in how many ways; bounds.
-/
import Derived.Test.YtgageljahebjnaaVal
namespace Go.Proofs.Ytgageljahebjnaa
open Go.RowKit

/-- All rows of numbers with the sum t, none more than its column has. -/
def rowsL : List Int → Int → List (List Int)
  | [], t => if t = 0 then [[]] else []
  | c :: cs, t => (List.range (min t c + 1).toNat).flatMap fun v : Nat => (rowsL cs (t - v)).map fun r => (v : Int) :: r
/-- Those whose first number is less than k. -/
def rowsTo (cs : List Int) (t : Int) (k : Nat) : List (List Int) := (List.range k).flatMap fun v : Nat => (rowsL cs (t - v)).map fun r => (v : Int) :: r
theorem rowsTo_zero (cs : List Int) (t : Int) : rowsTo cs t 0 = [] := rfl
theorem rowsTo_succ (cs : List Int) (t : Int) (k : Nat) : rowsTo cs t (k + 1) = rowsTo cs t k ++ (rowsL cs (t - k)).map fun r => (k : Int) :: r := by
  unfold rowsTo
  rw [List.range_succ, List.flatMap_append]
  simp
theorem rowsL_cons (c : Int) (cs : List Int) (t : Int) : rowsL (c :: cs) t = rowsTo cs t (min t c + 1).toNat := rfl
theorem rowsTo_mono (cs : List Int) (t : Int) {k n : Nat} (h : k ≤ n) : rowsTo cs t k <+: rowsTo cs t n := by
  induction n with
  | zero => obtain rfl : k = 0 := by omega
            exact List.prefix_refl _
  | succ n ih =>
    by_cases e : k = n + 1
    · subst e; exact List.prefix_refl _
    · exact (ih (by omega)).trans (by rw [rowsTo_succ]; exact List.prefix_append _ _)
/-- A row fits columns. -/
def FitR : List Int → List Int → Prop
  | [], [] => True
  | v :: r, c :: cs => (0 ≤ v ∧ v ≤ c) ∧ FitR r cs
  | _, _ => False
theorem FitR.len : ∀ {r cs : List Int}, FitR r cs → r.length = cs.length
  | [], [], _ => rfl
  | v :: r, c :: cs, h => by rw [List.length_cons, List.length_cons, FitR.len h.2]
theorem FitR.at : ∀ {r cs : List Int}, FitR r cs → ∀ i, i < cs.length → 0 ≤ r.getD i 0 ∧ r.getD i 0 ≤ cs.getD i 0
  | [], [], _, i, h => by simp at h
  | v :: r, c :: cs, h, 0, _ => h.1
  | v :: r, c :: cs, h, i + 1, hi => by
    have := FitR.at h.2 i (by simpa using hi)
    simpa using this
theorem rowsL_fit : ∀ {cs : List Int} {t : Int} {row : List Int}, row ∈ rowsL cs t → FitR row cs
  | [], t, row, h => by
    rw [rowsL] at h
    split at h
    · simp only [List.mem_singleton] at h; subst h; trivial
    · simp at h
  | c :: cs, t, row, h => by
    rw [rowsL] at h
    obtain ⟨v, hv, h⟩ := List.mem_flatMap.1 h
    obtain ⟨r, hr, rfl⟩ := List.mem_map.1 h
    have := List.mem_range.1 hv
    exact ⟨by omega, rowsL_fit hr⟩
theorem flat_len {α : Type} {f : Nat → List α} {m : Nat} : ∀ n, (∀ v, v < n → (f v).length ≤ m) → ((List.range n).flatMap f).length ≤ n * m
  | 0, _ => by simp
  | n + 1, h => by
    have h1 := flat_len n fun v hv => h v (by omega)
    have h2 := h n (by omega)
    rw [List.range_succ, List.flatMap_append, List.length_append]
    simp only [List.flatMap_cons, List.flatMap_nil, List.append_nil]
    rw [Nat.succ_mul]
    omega
theorem rowsL_len : ∀ {cs : List Int} (t : Int), allB 0 6 cs = true → (rowsL cs t).length ≤ 7 ^ cs.length
  | [], t, _ => by
    rw [rowsL]
    split <;> simp
  | c :: cs, t, h => by
    have hc := allB_iff.1 h c (by simp)
    have hcs : allB 0 6 cs = true := allB_sub h fun y hy => List.mem_cons_of_mem _ hy
    rw [rowsL, List.length_cons, Nat.pow_succ]
    have h1 := flat_len (f := fun v : Nat => (rowsL cs (t - v)).map fun r => (v : Int) :: r) (m := 7 ^ cs.length) (min t c + 1).toNat fun v _ => by rw [List.length_map]; exact rowsL_len _ hcs
    have h2 : (min t c + 1).toNat * 7 ^ cs.length ≤ 7 * 7 ^ cs.length := Nat.mul_le_mul_right _ (by omega)
    rw [Nat.mul_comm (7 ^ cs.length) 7]
    omega
theorem rowsL_len3 {cs : List Int} (t : Int) (h : allB 0 6 cs = true) (hl : cs.length ≤ 3) : (rowsL cs t).length ≤ 343 :=
  Nat.le_trans (rowsL_len t h) (Nat.pow_le_pow_right (by omega) hl)
theorem rowsL_one (c t : Int) (h0 : 0 ≤ t) : rowsL [c] t = if t ≤ c then [[t]] else [] := by
  have key : ∀ k : Nat, rowsTo [] t k = if t < k then [[t]] else [] := by
    intro k
    induction k with
    | zero => rw [rowsTo_zero, if_neg (by omega)]
    | succ k ih =>
      rw [rowsTo_succ, ih, rowsL]
      by_cases e : t = k
      · rw [if_neg (by omega), if_pos (by omega), if_pos (by omega), e]; rfl
      · by_cases e2 : t < k
        · rw [if_pos e2, if_neg (by omega), if_pos (by omega)]; rfl
        · rw [if_neg e2, if_neg (by omega), if_neg (by omega)]; rfl
  rw [rowsL_cons, key]
  by_cases h : t ≤ c
  · rw [if_pos h, if_pos (by omega)]
  · rw [if_neg h, if_neg (by omega)]

def fac : Nat → Int
  | 0 => 1
  | n + 1 => ((n : Int) + 1) * fac n
theorem fac_bd {n : Nat} (h : n ≤ 6) : 1 ≤ fac n ∧ fac n ≤ 720 := by
  have : n = 0 ∨ n = 1 ∨ n = 2 ∨ n = 3 ∨ n = 4 ∨ n = 5 ∨ n = 6 := by omega
  rcases this with rfl | rfl | rfl | rfl | rfl | rfl | rfl <;> decide
/-- The ways of a row: its sum's, less those within the cells. -/
def hereF (h0 : Int) (row : List Int) : Int := row.foldl (fun h v => h / fac v.toNat) h0
theorem hereF_take {h0 : Int} {row : List Int} {k : Nat} (hk : k < row.length) : hereF h0 (row.take (k + 1)) = hereF h0 (row.take k) / fac (row.getD k 0).toNat := by
  have e : row.getD k 0 = row[k] := by simp [List.getD, hk]
  have e2 : row.take (k + 1) = row.take k ++ [row[k]] := List.take_succ_eq_append_getElem hk
  rw [e2, e]
  unfold hereF
  rw [List.foldl_append]
  rfl
theorem hereF_bd : ∀ (row : List Int) (h0 : Int), 0 ≤ h0 → h0 ≤ 720 → (∀ v ∈ row, 0 ≤ v ∧ v ≤ 6) → 0 ≤ hereF h0 row ∧ hereF h0 row ≤ 720
  | [], h0, h1, h2, _ => ⟨h1, h2⟩
  | v :: row, h0, h1, h2, h => by
    have hf := fac_bd (n := v.toNat) (by have := h v (by simp); omega)
    have a : 0 ≤ h0 / fac v.toNat := Int.ediv_nonneg h1 (by omega)
    have b : h0 / fac v.toNat ≤ h0 := Int.ediv_le_self _ h1
    exact hereF_bd row (h0 / fac v.toNat) a (by omega) fun x hx => h x (List.mem_cons_of_mem _ hx)
/-- What is left of the columns. -/
def leftL (cols row : List Int) : List Int := List.zipWith (· - ·) cols row
theorem leftL_len {cols row : List Int} (h : FitR row cols) : (leftL cols row).length = cols.length := by simp [leftL, h.len]
theorem leftL_ok : ∀ {cols row : List Int}, FitR row cols → allB 0 6 cols = true → allB 0 6 (leftL cols row) = true
  | [], [], _, _ => rfl
  | c :: cs, v :: r, h, ha => by
    have hc := allB_iff.1 ha c (by simp)
    have ih := leftL_ok h.2 (allB_sub ha fun y hy => List.mem_cons_of_mem _ hy)
    refine allB_iff.2 fun y hy => ?_
    rcases List.mem_cons.1 hy with rfl | hy
    · have := h.1
      show 0 ≤ c - v ∧ c - v ≤ 6
      omega
    · exact allB_iff.1 ih y hy
theorem fit_row6 {cols row : List Int} (h : FitR row cols) (ha : allB 0 6 cols = true) : ∀ v ∈ row, 0 ≤ v ∧ v ≤ 6 := by
  intro v hv
  obtain ⟨i, hi, rfl⟩ := List.getElem_of_mem hv
  have hl := h.len
  have h1 := h.at i (by omega)
  have h2 := allB_get ha (j := i) (by omega)
  simp only [List.getD, List.getElem?_eq_getElem hi, List.getElem?_eq_getElem (show i < cols.length by omega), Option.getD_some] at h1
  omega
/-- The tables with sums of rows and columns, and their ways. -/
def tabL : List Int → List Int → Int × Int
  | [], cols => if allB 0 0 cols then (1, 1) else (0, 0)
  | r :: rs, cols => (rowsL cols r).foldl (fun acc row => (acc.1 + (tabL rs (leftL cols row)).1, acc.2 + hereF (fac r.toNat) row * (tabL rs (leftL cols row)).2)) (0, 0)
/-- The same of some rows. -/
def tabA (r : Int) (rs cols : List Int) (D : List (List Int)) : Int × Int := D.foldl (fun acc row => (acc.1 + (tabL rs (leftL cols row)).1, acc.2 + hereF (fac r.toNat) row * (tabL rs (leftL cols row)).2)) (0, 0)
theorem tabA_nil (r : Int) (rs cols : List Int) : tabA r rs cols [] = (0, 0) := rfl
theorem tabA_snoc (r : Int) (rs cols : List Int) (D : List (List Int)) (row : List Int) : tabA r rs cols (D ++ [row]) = ((tabA r rs cols D).1 + (tabL rs (leftL cols row)).1, (tabA r rs cols D).2 + hereF (fac r.toNat) row * (tabL rs (leftL cols row)).2) := by
  simp [tabA]
theorem tabL_cons (r : Int) (rs cols : List Int) : tabL (r :: rs) cols = tabA r rs cols (rowsL cols r) := rfl
/-- Bounds of n rows of sums. -/
def bdT (n : Nat) (p : Int × Int) : Prop := (0 ≤ p.1 ∧ p.1 ≤ 343 ^ n) ∧ 0 ≤ p.2 ∧ p.2 ≤ 246960 ^ n
theorem tabA_bd {r : Int} {rs cols : List Int} {n : Nat} (hr : 0 ≤ r ∧ r ≤ 6) (ha : allB 0 6 cols = true) (hb : ∀ row, FitR row cols → bdT n (tabL rs (leftL cols row))) : ∀ {D : List (List Int)}, (∀ row ∈ D, FitR row cols) →
    (0 ≤ (tabA r rs cols D).1 ∧ (tabA r rs cols D).1 ≤ D.length * 343 ^ n) ∧ 0 ≤ (tabA r rs cols D).2 ∧ (tabA r rs cols D).2 ≤ D.length * (720 * 246960 ^ n) := by
  intro D
  induction hl : D.length generalizing D with
  | zero => intro _; obtain rfl := List.eq_nil_of_length_eq_zero hl; simp [tabA_nil]
  | succ k ih =>
    intro h
    have hne : D ≠ [] := by rintro rfl; simp at hl
    have he := List.dropLast_concat_getLast hne
    obtain ⟨row, hrow⟩ : ∃ row, D.getLast hne = row := ⟨_, rfl⟩
    have hmem : row ∈ D := by rw [← hrow]; exact List.getLast_mem hne
    rw [hrow] at he
    obtain ⟨⟨i1, i2⟩, i3, i4⟩ := ih (D := D.dropLast) (by simp [hl]) fun x hx => h x (List.dropLast_subset D hx)
    obtain ⟨⟨b1, b2⟩, b3, b4⟩ := hb row (h row hmem)
    have hh := hereF_bd row (fac r.toNat) (by have := fac_bd (n := r.toNat) (by omega); omega) (fac_bd (n := r.toNat) (by omega)).2 (fit_row6 (h row hmem) ha)
    have hm0 : 0 ≤ hereF (fac r.toNat) row * (tabL rs (leftL cols row)).2 := Int.mul_nonneg hh.1 b3
    have hm1 : hereF (fac r.toNat) row * (tabL rs (leftL cols row)).2 ≤ 720 * 246960 ^ n := Int.mul_le_mul hh.2 b4 b3 (by omega)
    rw [← he, tabA_snoc]
    have e1 : ((k + 1 : Nat) : Int) * 343 ^ n = (k : Int) * 343 ^ n + 343 ^ n := by rw [Int.natCast_add, Int.add_mul]; simp
    have e2 : ((k + 1 : Nat) : Int) * (720 * 246960 ^ n) = (k : Int) * (720 * 246960 ^ n) + 720 * 246960 ^ n := by rw [Int.natCast_add, Int.add_mul]; simp
    rw [e1, e2]
    exact ⟨⟨by show 0 ≤ _ + _; omega, by show _ + _ ≤ _; omega⟩, by show 0 ≤ _ + _; omega, by show _ + _ ≤ _; omega⟩
theorem pow_bd (a : Int) (k : Nat) (ha : 0 ≤ a) (hk : (k : Int) ≤ 343) : (k : Int) * a ≤ 343 * a := Int.mul_le_mul_of_nonneg_right hk ha
theorem tabL_bd : ∀ {rs cols : List Int}, allB 0 6 rs = true → allB 0 6 cols = true → cols.length ≤ 3 → bdT rs.length (tabL rs cols)
  | [], cols, _, _, _ => by
    rw [tabL]
    unfold bdT
    split <;> simp
  | r :: rs, cols, h, ha, hc => by
    have hr := allB_iff.1 h r (by simp)
    have hb : ∀ row, FitR row cols → bdT rs.length (tabL rs (leftL cols row)) := fun row hf => tabL_bd (allB_sub h fun y hy => List.mem_cons_of_mem _ hy) (leftL_ok hf ha) (by rw [leftL_len hf]; exact hc)
    obtain ⟨⟨i1, i2⟩, i3, i4⟩ := tabA_bd hr ha hb (D := rowsL cols r) fun row hrow => rowsL_fit hrow
    have hl : ((rowsL cols r).length : Int) ≤ 343 := by have := rowsL_len3 r ha hc; omega
    rw [tabL_cons, List.length_cons]
    have p1 : (0 : Int) ≤ 343 ^ rs.length := Int.le_of_lt (Int.pow_pos (by omega))
    have p2 : (0 : Int) ≤ 720 * 246960 ^ rs.length := Int.mul_nonneg (by omega) (Int.le_of_lt (Int.pow_pos (by omega)))
    have q1 := pow_bd _ (rowsL cols r).length p1 hl
    have q2 := pow_bd _ (rowsL cols r).length p2 hl
    refine ⟨⟨i1, ?_⟩, i3, ?_⟩
    · rw [Int.pow_succ, Int.mul_comm]; omega
    · rw [Int.pow_succ, Int.mul_comm]
      have : (343 : Int) * (720 * 246960 ^ rs.length) = 246960 * 246960 ^ rs.length := by rw [← Int.mul_assoc]; rfl
      omega
/-- What is left of the columns behind k cells. -/
def leftK (cols row : List Int) (k : Nat) : List Int := (leftL cols row).take k ++ cols.drop k
theorem leftK_zero (cols row : List Int) : leftK cols row 0 = cols := rfl
theorem leftK_len {cols row : List Int} (h : FitR row cols) {k : Nat} (hk : k ≤ cols.length) : (leftK cols row k).length = cols.length := by
  rw [leftK, List.length_append, List.length_take, List.length_drop, leftL_len h]; omega
theorem leftK_all {cols row : List Int} (h : FitR row cols) : leftK cols row cols.length = leftL cols row := by
  rw [leftK, List.drop_length, List.append_nil, List.take_of_length_le (by rw [leftL_len h]; exact Nat.le_refl _)]
theorem leftK_at {cols row : List Int} (h : FitR row cols) {k : Nat} (hk : k < cols.length) : (leftK cols row k).getD k 0 = cols.getD k 0 := by
  have hl : ((leftL cols row).take k).length = k := by rw [List.length_take, leftL_len h]; omega
  rw [leftK, List.getD, List.getElem?_append_right (by omega), hl, Nat.sub_self, List.getElem?_drop, Nat.add_zero]
  rfl
theorem leftK_set {cols row : List Int} (h : FitR row cols) {k : Nat} (hk : k < cols.length) : (leftK cols row k).set k (cols.getD k 0 - row.getD k 0) = leftK cols row (k + 1) := by
  have hl : ((leftL cols row).take k).length = k := by rw [List.length_take, leftL_len h]; omega
  have hr := h.len
  rw [leftK, leftK, List.set_append_right _ _ (by omega), hl, Nat.sub_self, List.take_succ_eq_append_getElem (by rw [leftL_len h]; exact hk), List.append_assoc]
  congr 1
  have hk2 : k < row.length := by omega
  have e : List.drop k cols = cols[k] :: List.drop (k + 1) cols := List.drop_eq_getElem_cons hk
  rw [e, List.set_cons_zero]
  simp [leftL, List.getD, hk, hk2]
theorem sum_zero : ∀ {cols : List Int}, allB 0 6 cols = true → (sumL cols = 0 ↔ allB 0 0 cols = true) := by
  have key : ∀ (cols : List Int) (a : Int), 0 ≤ a → allB 0 6 cols = true → (cols.foldl (· + ·) a = 0 ↔ a = 0 ∧ allB 0 0 cols = true) ∧ 0 ≤ cols.foldl (· + ·) a := by
    intro cols
    induction cols with
    | nil => intro a h0 _; simp [allB, h0]
    | cons c cs ih =>
      intro a h0 h
      have hc := allB_iff.1 h c (by simp)
      obtain ⟨h1, h2⟩ := ih (a + c) (by omega) (allB_sub h fun y hy => List.mem_cons_of_mem _ hy)
      refine ⟨?_, h2⟩
      rw [List.foldl_cons, h1]
      constructor
      · intro ⟨h3, h4⟩
        refine ⟨by omega, allB_iff.2 fun y hy => ?_⟩
        rcases List.mem_cons.1 hy with rfl | hy
        · omega
        · exact allB_iff.1 h4 y hy
      · intro ⟨h3, h4⟩
        have := allB_iff.1 h4 c (by simp)
        exact ⟨by omega, allB_sub h4 fun y hy => List.mem_cons_of_mem _ hy⟩
  intro cols h
  have := (key cols 0 (Int.le_refl _) h).1
  simpa [sumL] using this
end Go.Proofs.Ytgageljahebjnaa
