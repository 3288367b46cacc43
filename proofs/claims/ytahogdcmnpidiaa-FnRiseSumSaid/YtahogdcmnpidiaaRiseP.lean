/-
  The least sum of distances of a rising row: plain laws. The least over all heights is the least over the heights that occur; it is the cost of a best rising row.
-/
import Derived.Test.YtahogdcmnpidiaaBase
namespace Go.Proofs.Ytahogdcmnpidiaa
open Go.RowKit

/-- The least of the first ones. -/
def pm (f : Nat → Int) : Nat → Int
  | 0 => f 0
  | h + 1 => min (pm f h) (f (h + 1))
theorem pm_le (f : Nat → Int) : ∀ {h h' : Nat}, h' ≤ h → pm f h ≤ f h'
  | 0, h', hh => by obtain rfl : h' = 0 := by omega
                    exact Int.le_refl _
  | h + 1, h', hh => by
    by_cases e : h' = h + 1
    · subst e; simp only [pm]; omega
    · have := pm_le f (h := h) (h' := h') (by omega); simp only [pm]; omega
theorem pm_at (f : Nat → Int) : ∀ h, ∃ h', h' ≤ h ∧ pm f h = f h'
  | 0 => ⟨0, Nat.le_refl _, rfl⟩
  | h + 1 => by
    obtain ⟨h', h1, h2⟩ := pm_at f h
    by_cases e : pm f h ≤ f (h + 1)
    · exact ⟨h', by omega, by simp only [pm]; omega⟩
    · exact ⟨h + 1, Nat.le_refl _, by simp only [pm]; omega⟩
theorem pm_mono (f : Nat → Int) {h h' : Nat} (hh : h ≤ h') : pm f h' ≤ pm f h := by
  obtain ⟨k, h1, h2⟩ := pm_at f h
  rw [h2]
  exact pm_le f (by omega)
theorem pm_congr {f g : Nat → Int} : ∀ {h : Nat}, (∀ k, k ≤ h → f k = g k) → pm f h = pm g h
  | 0, hh => hh 0 (Nat.le_refl _)
  | h + 1, hh => by simp only [pm]; rw [pm_congr (h := h) fun k hk => hh k (by omega), hh (h + 1) (Nat.le_refl _)]
def ab (x : Int) : Int := max x (-x)
/-- The least cost of the first i numbers, the last one set to h. -/
def PI (xs ws : Nat → Int) : Nat → Nat → Int
  | 0, _ => 0
  | i + 1, h => pm (PI xs ws i) h + ws i * ab (xs i - h)
/-- Between two heights that occur the costs lie above the line through theirs. -/
structure Ch (Lv : Nat → Prop) (f : Nat → Int) : Prop where
  lo : ∀ l h, Lv l → (∀ c, c < l → ¬ Lv c) → h ≤ l → f l ≤ f h
  mid : ∀ a b h : Nat, Lv a → Lv b → a < b → (∀ c, a < c → c < b → ¬ Lv c) → a ≤ h → h ≤ b → ((b : Int) - h) * f a + ((h : Int) - a) * f b ≤ ((b : Int) - a) * f h
  hi : ∀ l h, Lv l → (∀ c, l < c → ¬ Lv c) → l ≤ h → f l ≤ f h
section
variable {Lv : Nat → Prop} {f : Nat → Int}
theorem Ch.zero : Ch Lv (fun _ => 0) := ⟨fun _ _ _ _ _ => Int.le_refl _, fun _ _ _ _ _ _ _ _ _ => by simp, fun _ _ _ _ _ => Int.le_refl _⟩
theorem mulL {a b c : Int} (h : b ≤ c) (ha : 0 ≤ a) : a * b ≤ a * c := Int.mul_le_mul_of_nonneg_left h ha
theorem Ch.pm (hc : Ch Lv f) : Ch Lv (pm f) := by
  refine ⟨fun l h _ _ hh => pm_mono f hh, fun a b h ha hb hab hn h1 h2 => ?_, fun l h hl hn hh => ?_⟩
  · obtain ⟨k, hk, he⟩ := pm_at f h
    have pa := pm_mono f h1
    have pb := pm_mono f h2
    by_cases hka : k ≤ a
    · have p1 := pm_le f hka
      have e1 : Go.Proofs.Ytahogdcmnpidiaa.pm f a = Go.Proofs.Ytahogdcmnpidiaa.pm f h := by omega
      have m1 := mulL (a := (b : Int) - h) (Int.le_of_eq e1) (by omega)
      have m2 := mulL (a := (h : Int) - a) pb (by omega)
      have m3 : ((b : Int) - h) * Go.Proofs.Ytahogdcmnpidiaa.pm f h + ((h : Int) - a) * Go.Proofs.Ytahogdcmnpidiaa.pm f h = ((b : Int) - a) * Go.Proofs.Ytahogdcmnpidiaa.pm f h := by
        rw [← Int.add_mul]; congr 1; omega
      omega
    · have c1 := hc.mid a b k ha hb hab hn (by omega) (by omega)
      have qa := pm_le f (Nat.le_refl a)
      have qb := pm_le f (Nat.le_refl b)
      have m1 := mulL (a := (b : Int) - k) qa (by omega)
      have m2 := mulL (a := (k : Int) - a) qb (by omega)
      have m3 := mulL (a := (h : Int) - k) (Int.le_trans pb pa) (by omega)
      have e1 : ((b : Int) - h) * Go.Proofs.Ytahogdcmnpidiaa.pm f a = ((b : Int) - k) * Go.Proofs.Ytahogdcmnpidiaa.pm f a - ((h : Int) - k) * Go.Proofs.Ytahogdcmnpidiaa.pm f a := by rw [← Int.sub_mul]; congr 1; omega
      have e2 : ((h : Int) - a) * Go.Proofs.Ytahogdcmnpidiaa.pm f b = ((k : Int) - a) * Go.Proofs.Ytahogdcmnpidiaa.pm f b + ((h : Int) - k) * Go.Proofs.Ytahogdcmnpidiaa.pm f b := by rw [← Int.add_mul]; congr 1; omega
      rw [he]
      omega
  · obtain ⟨k, hk, he⟩ := pm_at f h
    rw [he]
    by_cases hkl : k ≤ l
    · exact pm_le f hkl
    · have := hc.hi l k hl hn (by omega)
      have := pm_le f (Nat.le_refl l)
      omega
theorem Ch.add (hc : Ch Lv f) {x : Nat} (hx : Lv x) {w : Int} (hw : 0 ≤ w) : Ch Lv (fun h => f h + w * ab ((x : Int) - h)) := by
  refine ⟨fun l h hl hn hh => ?_, fun a b h ha hb hab hn h1 h2 => ?_, fun l h hl hn hh => ?_⟩
  · have := hc.lo l h hl hn hh
    have hxl : l ≤ x := Nat.le_of_not_lt fun hlt => hn x hlt hx
    have := mulL (a := w) (b := ab ((x : Int) - l)) (c := ab ((x : Int) - h)) (by unfold ab; omega) hw
    show _ + _ ≤ _ + _
    omega
  · have h3 := hc.mid a b h ha hb hab hn h1 h2
    have hxo : x ≤ a ∨ b ≤ x := by
      by_cases e : a < x ∧ x < b
      · exact absurd hx (hn x e.1 e.2)
      · omega
    have key : ((b : Int) - h) * ab ((x : Int) - a) + ((h : Int) - a) * ab ((x : Int) - b) = ((b : Int) - a) * ab ((x : Int) - h) := by
      rcases hxo with h4 | h4
      · rw [show ab ((x : Int) - a) = (a : Int) - x by unfold ab; omega, show ab ((x : Int) - b) = (b : Int) - x by unfold ab; omega, show ab ((x : Int) - h) = (h : Int) - x by unfold ab; omega]
        simp only [Int.sub_mul, Int.mul_sub, Int.mul_comm (h : Int) (a : Int), Int.mul_comm (b : Int) (a : Int), Int.mul_comm (h : Int) (b : Int)]
        omega
      · rw [show ab ((x : Int) - a) = (x : Int) - a by unfold ab; omega, show ab ((x : Int) - b) = (x : Int) - b by unfold ab; omega, show ab ((x : Int) - h) = (x : Int) - h by unfold ab; omega]
        simp only [Int.sub_mul, Int.mul_sub, Int.mul_comm (h : Int) (a : Int), Int.mul_comm (b : Int) (a : Int), Int.mul_comm (h : Int) (b : Int)]
        omega
    have k2 : w * (((b : Int) - h) * ab ((x : Int) - a)) + w * (((h : Int) - a) * ab ((x : Int) - b)) = w * (((b : Int) - a) * ab ((x : Int) - h)) := by rw [← Int.mul_add, key]
    have e1 : ((b : Int) - h) * (f a + w * ab ((x : Int) - a)) = ((b : Int) - h) * f a + w * (((b : Int) - h) * ab ((x : Int) - a)) := by rw [Int.mul_add, Int.mul_left_comm]
    have e2 : ((h : Int) - a) * (f b + w * ab ((x : Int) - b)) = ((h : Int) - a) * f b + w * (((h : Int) - a) * ab ((x : Int) - b)) := by rw [Int.mul_add, Int.mul_left_comm]
    have e3 : ((b : Int) - a) * (f h + w * ab ((x : Int) - h)) = ((b : Int) - a) * f h + w * (((b : Int) - a) * ab ((x : Int) - h)) := by rw [Int.mul_add, Int.mul_left_comm]
    show ((b : Int) - h) * (f a + w * ab ((x : Int) - a)) + ((h : Int) - a) * (f b + w * ab ((x : Int) - b)) ≤ ((b : Int) - a) * (f h + w * ab ((x : Int) - h))
    omega
  · have := hc.hi l h hl hn hh
    have hxl : x ≤ l := Nat.le_of_not_lt fun hlt => hn x hlt hx
    have := mulL (a := w) (b := ab ((x : Int) - l)) (c := ab ((x : Int) - h)) (by unfold ab; omega) hw
    show _ + _ ≤ _ + _
    omega
theorem PI_ch {xs : Nat → Nat} {ws : Nat → Int} {n : Nat} (hx : ∀ i, i < n → Lv (xs i)) (hw : ∀ i, i < n → 0 ≤ ws i) : ∀ i, i ≤ n → Ch Lv (PI (fun i => (xs i : Int)) ws i)
  | 0, _ => Ch.zero
  | i + 1, hi => (PI_ch hx hw i (by omega)).pm.add (hx i (by omega)) (hw i (by omega))
/-- Levels in order. -/
structure Lev (Lv : Nat → Prop) (n : Nat) (lev : Nat → Nat) : Prop where
  pos : 0 < n
  asc : ∀ i j, i ≤ j → j < n → lev i ≤ lev j
  yes : ∀ k, k < n → Lv (lev k)
  all : ∀ h, Lv h → ∃ k, k < n ∧ lev k = h
theorem lev_below {n : Nat} {lev : Nat → Nat} (hl : Lev Lv n lev) (hc : Ch Lv f) {k h : Nat} (hk : k < n) (hh : h ≤ lev k) : ∃ k', k' ≤ k ∧ f (lev k') ≤ f h := by
  induction k with
  | zero =>
    refine ⟨0, Nat.le_refl _, hc.lo (lev 0) h (hl.yes 0 hl.pos) (fun c hcl hL => ?_) hh⟩
    obtain ⟨j, hj, he⟩ := hl.all c hL
    have := hl.asc 0 j (Nat.zero_le _) hj
    omega
  | succ k ih =>
    by_cases h1 : h ≤ lev k
    · obtain ⟨k', h2, h3⟩ := ih (by omega) h1
      exact ⟨k', by omega, h3⟩
    · by_cases h2 : h = lev (k + 1)
      · exact ⟨k + 1, Nat.le_refl _, by rw [h2]; exact Int.le_refl _⟩
      · have h4 := hc.mid (lev k) (lev (k + 1)) h (hl.yes k (by omega)) (hl.yes (k + 1) hk) (by omega) (fun c h5 h6 hL => by
          obtain ⟨j, hj, he⟩ := hl.all c hL
          rcases Nat.lt_or_ge k j with h7 | h7
          · have := hl.asc (k + 1) j (by omega) hj; omega
          · have := hl.asc j k h7 (by omega); omega) (by omega) (by omega)
        by_cases h5 : f (lev k) ≤ f h
        · exact ⟨k, by omega, h5⟩
        · refine ⟨k + 1, Nat.le_refl _, ?_⟩
          apply Classical.byContradiction
          intro h6
          have m1 := mulL (a := ((lev (k + 1) : Int) - h)) (b := f h + 1) (c := f (lev k)) (by omega) (by omega)
          have m2 := mulL (a := ((h : Int) - lev k)) (b := f h + 1) (c := f (lev (k + 1))) (by omega) (by omega)
          have e : ((lev (k + 1) : Int) - h) * (f h + 1) + ((h : Int) - lev k) * (f h + 1) = ((lev (k + 1) : Int) - lev k) * f h + ((lev (k + 1) : Int) - lev k) := by
            rw [← Int.add_mul, Int.mul_add, Int.mul_one]
            congr 1
            · congr 1; omega
            · omega
          omega
theorem pm_lev {n : Nat} {lev : Nat → Nat} (hl : Lev Lv n lev) (hc : Ch Lv f) {k : Nat} (hk : k < n) : pm (fun k => f (lev k)) k = pm f (lev k) := by
  obtain ⟨k1, h1, e1⟩ := pm_at (fun k => f (lev k)) k
  obtain ⟨h2, h3, e2⟩ := pm_at f (lev k)
  have a1 : pm f (lev k) ≤ f (lev k1) := pm_le f (hl.asc k1 k h1 hk)
  obtain ⟨k2, h4, h5⟩ := lev_below hl hc hk h3
  have a2 := pm_le (fun k => f (lev k)) h4
  omega
/-- The least cost of the first i numbers, the last one set to level k. -/
def SI (xs ws : Nat → Int) (lev : Nat → Nat) : Nat → Nat → Int
  | 0, _ => 0
  | i + 1, k => pm (SI xs ws lev i) k + ws i * ab (xs i - lev k)
theorem SI_eq {xs : Nat → Nat} {ws : Nat → Int} {n : Nat} {lev : Nat → Nat} (hl : Lev Lv n lev) (hx : ∀ i, i < n → Lv (xs i)) (hw : ∀ i, i < n → 0 ≤ ws i) :
    ∀ i, i ≤ n → ∀ k, k < n → SI (fun i => (xs i : Int)) ws lev i k = PI (fun i => (xs i : Int)) ws i (lev k)
  | 0, _, _, _ => rfl
  | i + 1, hi, k, hk => by
    have ih := SI_eq hl hx hw i (by omega)
    simp only [SI, PI]
    rw [pm_congr (g := fun k => PI (fun i => (xs i : Int)) ws i (lev k)) fun j hj => ih j (by omega), pm_lev hl (PI_ch hx hw i (by omega)) hk]
/-- Both ways give one least cost. -/
theorem SI_PI {xs : Nat → Nat} {ws : Nat → Int} {n T : Nat} {lev : Nat → Nat} (hl : Lev Lv n lev) (hx : ∀ i, i < n → Lv (xs i)) (hw : ∀ i, i < n → 0 ≤ ws i) (hT : lev (n - 1) ≤ T) :
    pm (SI (fun i => (xs i : Int)) ws lev n) (n - 1) = pm (PI (fun i => (xs i : Int)) ws n) T := by
  have hp := hl.pos
  have hc := PI_ch hx hw n (Nat.le_refl _)
  rw [pm_congr (g := fun k => PI (fun i => (xs i : Int)) ws n (lev k)) fun j hj => SI_eq hl hx hw n (Nat.le_refl _) j (by omega), pm_lev hl hc (by omega)]
  refine Int.le_antisymm ?_ (pm_mono _ hT)
  exact hc.pm.hi (lev (n - 1)) T (hl.yes _ (by omega)) (fun c h1 hL => by
    obtain ⟨j, hj, he⟩ := hl.all c hL
    have := hl.asc j (n - 1) (by omega) (by omega)
    omega) hT
end

/-- What a row costs. -/
def costR (xs ws : Nat → Int) (f : Nat → Nat) : Nat → Int
  | 0 => 0
  | i + 1 => costR xs ws f i + ws i * ab (xs i - f i)
def Asc (f : Nat → Nat) (n : Nat) : Prop := ∀ i, i + 1 < n → f i ≤ f (i + 1)
section
variable {xs ws : Nat → Int}
theorem cost_lower {f : Nat → Nat} : ∀ {i : Nat}, Asc f (i + 1) → PI xs ws (i + 1) (f i) ≤ costR xs ws f (i + 1)
  | 0, _ => by simp only [PI, costR]; have := pm_le (fun _ : Nat => (0 : Int)) (Nat.zero_le (f 0)); have e : pm (PI xs ws 0) (f 0) ≤ 0 := pm_le (PI xs ws 0) (Nat.zero_le (f 0)); omega
  | i + 1, ha => by
    have ih := cost_lower (f := f) (i := i) fun j hj => ha j (by omega)
    have h1 : pm (PI xs ws (i + 1)) (f (i + 1)) ≤ PI xs ws (i + 1) (f i) := pm_le _ (ha i (by omega))
    rw [PI, costR]
    omega
theorem cost_upper : ∀ (i h : Nat), ∃ f : Nat → Nat, Asc f i ∧ (∀ j, j < i → f j ≤ h) ∧ costR xs ws f i = pm (PI xs ws i) h
  | 0, h => ⟨fun _ => 0, fun j hj => by omega, fun j hj => by omega, by
      obtain ⟨k, _, e⟩ := pm_at (PI xs ws 0) h
      rw [e]
      rfl⟩
  | i + 1, h => by
    obtain ⟨k, hk, e⟩ := pm_at (PI xs ws (i + 1)) h
    obtain ⟨f, h1, h2, h3⟩ := cost_upper i k
    have hc : ∀ m, m ≤ i → costR xs ws (fun j => if j < i then f j else k) m = costR xs ws f m := fun m => by
      induction m with
      | zero => intro _; rfl
      | succ m ih => intro hm; simp only [costR]; rw [ih (by omega), if_pos (show m < i by omega)]
    refine ⟨fun j => if j < i then f j else k, fun j hj => ?_, fun j hj => ?_, ?_⟩
    · by_cases h4 : j + 1 < i
      · simp only [h4, show j < i by omega, if_true]; exact h1 j h4
      · simp only [h4, show j < i by omega, if_true, if_false]; exact h2 j (by omega)
    · by_cases h4 : j < i
      · simp only [h4, if_true]; have := h2 j h4; omega
      · simp only [h4, if_false]; exact hk
    · rw [costR, hc i (Nat.le_refl _), h3, e, PI]
      simp
/-- The least cost of a rising row of n numbers up to T. -/
def bestR (xs ws : Nat → Int) (n T : Nat) : Int := pm (PI xs ws n) T
theorem best_le {f : Nat → Nat} {n T : Nat} (hn : 0 < n) (ha : Asc f n) (hT : f (n - 1) ≤ T) : bestR xs ws n T ≤ costR xs ws f n := by
  obtain ⟨m, rfl⟩ : ∃ m, n = m + 1 := ⟨n - 1, by omega⟩
  have h1 := cost_lower (xs := xs) (ws := ws) ha
  have h2 : pm (PI xs ws (m + 1)) T ≤ PI xs ws (m + 1) (f m) := pm_le _ hT
  unfold bestR
  omega
theorem best_at (xs ws : Nat → Int) (n T : Nat) : ∃ f : Nat → Nat, Asc f n ∧ (∀ j, j < n → f j ≤ T) ∧ costR xs ws f n = bestR xs ws n T := cost_upper n T
theorem ab_nonneg (x : Int) : 0 ≤ ab x := by unfold ab; omega
theorem cost_nonneg {f : Nat → Nat} : ∀ {n : Nat}, (∀ i, i < n → 0 ≤ ws i) → 0 ≤ costR xs ws f n
  | 0, _ => Int.le_refl _
  | n + 1, hw => by
    have := cost_nonneg (f := f) (n := n) fun i hi => hw i (by omega)
    have := Int.mul_nonneg (hw n (by omega)) (ab_nonneg (xs n - f n))
    simp only [costR]
    omega
theorem cost_zero {f : Nat → Nat} : ∀ {n : Nat}, (∀ i, i < n → 1 ≤ ws i) → costR xs ws f n = 0 → ∀ i, i < n → xs i = f i
  | 0, _, _, i, hi => by omega
  | n + 1, hw, h0, i, hi => by
    have h1 := cost_nonneg (xs := xs) (ws := ws) (f := f) (n := n) fun i hi => by have := hw i (by omega); omega
    have h2 := Int.mul_nonneg (a := ws n) (by have := hw n (by omega); omega) (ab_nonneg (xs n - f n))
    simp only [costR] at h0
    by_cases e : i = n
    · subst e
      have h3 : ws i * ab (xs i - f i) = 0 := by omega
      rcases Int.mul_eq_zero.1 h3 with h4 | h4
      · have := hw i (by omega); omega
      · unfold ab at h4; omega
    · exact cost_zero (n := n) (fun i hi => hw i (by omega)) (by omega) i (by omega)
theorem cost_self {f : Nat → Nat} : ∀ {n : Nat}, (∀ i, i < n → xs i = f i) → costR xs ws f n = 0
  | 0, _ => rfl
  | n + 1, h => by
    have h1 := cost_self (f := f) (n := n) fun i hi => h i (by omega)
    have h2 := h n (by omega)
    simp only [costR, h1, h2]
    unfold ab
    simp
/-- Nothing is lost exactly where the numbers rise. -/
theorem best_zero {xs : Nat → Nat} {n T : Nat} (hn : 0 < n) (hT : ∀ i, i < n → xs i ≤ T) (hw : ∀ i, i < n → 1 ≤ ws i) : bestR (fun i => (xs i : Int)) ws n T = 0 ↔ Asc xs n := by
  obtain ⟨f, h1, h2, h3⟩ := best_at (fun i => (xs i : Int)) ws n T
  constructor
  · intro h0
    have h4 := cost_zero hw (h3.trans h0)
    intro i hi
    have a := h4 i (by omega)
    have b := h4 (i + 1) hi
    have c := h1 i hi
    omega
  · intro ha
    have h4 := best_le (xs := fun i => (xs i : Int)) (ws := ws) hn ha (hT _ (by omega))
    rw [cost_self fun i _ => rfl] at h4
    have h5 := cost_nonneg (xs := fun i => (xs i : Int)) (ws := ws) (f := f) (n := n) fun i hi => by have := hw i hi; omega
    omega
/-- The other way round. -/
theorem cost_cons (xs ws : Nat → Int) (f : Nat → Nat) : ∀ n, costR xs ws f (n + 1) = ws 0 * ab (xs 0 - f 0) + costR (fun i => xs (i + 1)) (fun i => ws (i + 1)) (fun i => f (i + 1)) n
  | 0 => by simp [costR]
  | n + 1 => by
    have := cost_cons xs ws f n
    rw [costR, this, costR]
    omega
theorem cost_congr {xs ys ws us : Nat → Int} {f g : Nat → Nat} : ∀ {n : Nat}, (∀ i, i < n → ws i * ab (xs i - f i) = us i * ab (ys i - g i)) → costR xs ws f n = costR ys us g n
  | 0, _ => rfl
  | n + 1, h => by simp only [costR]; rw [cost_congr (n := n) fun i hi => h i (by omega), h n (by omega)]
theorem cost_turn (xs ws : Nat → Int) (f : Nat → Nat) : ∀ n, costR (fun i => xs (n - 1 - i)) (fun i => ws (n - 1 - i)) (fun i => f (n - 1 - i)) n = costR xs ws f n
  | 0 => rfl
  | n + 1 => by
    have h1 := cost_cons (fun i => xs (n + 1 - 1 - i)) (fun i => ws (n + 1 - 1 - i)) (fun i => f (n + 1 - 1 - i)) n
    rw [h1]
    have h2 : costR (fun i => xs (n + 1 - 1 - (i + 1))) (fun i => ws (n + 1 - 1 - (i + 1))) (fun i => f (n + 1 - 1 - (i + 1))) n = costR (fun i => xs (n - 1 - i)) (fun i => ws (n - 1 - i)) (fun i => f (n - 1 - i)) n :=
      cost_congr fun i hi => by rw [show n + 1 - 1 - (i + 1) = n - 1 - i by omega]
    rw [h2, cost_turn xs ws f n, costR]
    simp
    omega
theorem best_turn_le {xs : Nat → Nat} {ws : Nat → Int} {n T : Nat} (hn : 0 < n) (hT : ∀ i, i < n → xs i ≤ T) : bestR (fun i => (((T - xs (n - 1 - i) : Nat)) : Int)) (fun i => ws (n - 1 - i)) n T ≤ bestR (fun i => (xs i : Int)) ws n T := by
  obtain ⟨f, h1, h2, h3⟩ := best_at (fun i => (xs i : Int)) ws n T
  rw [← h3, ← cost_turn]
  have ha : Asc (fun i => T - f (n - 1 - i)) n := fun i hi => by
    have := h1 (n - 1 - (i + 1)) (by omega)
    rw [show n - 1 - (i + 1) + 1 = n - 1 - i by omega] at this
    show T - f (n - 1 - i) ≤ T - f (n - 1 - (i + 1))
    omega
  refine Int.le_trans (best_le hn ha (Nat.sub_le _ _)) (Int.le_of_eq (cost_congr fun i hi => ?_))
  have a := hT (n - 1 - i) (by omega)
  have b := h2 (n - 1 - i) (by omega)
  congr 1
  unfold ab
  omega
theorem bestR_congr {xs ys ws us : Nat → Int} {n T : Nat} (hx : ∀ i, i < n → xs i = ys i) (hw : ∀ i, i < n → ws i = us i) : bestR xs ws n T = bestR ys us n T := by
  have : ∀ i, i ≤ n → ∀ h, PI xs ws i h = PI ys us i h := fun i => by
    induction i with
    | zero => intro _ _; rfl
    | succ i ih => intro hi h; simp only [PI]; rw [pm_congr fun k _ => ih (by omega) k, hx i (by omega), hw i (by omega)]
  exact pm_congr fun k _ => this n (Nat.le_refl _) k
theorem best_turn {xs : Nat → Nat} {ws : Nat → Int} {n T : Nat} (hn : 0 < n) (hT : ∀ i, i < n → xs i ≤ T) : bestR (fun i => (((T - xs (n - 1 - i) : Nat)) : Int)) (fun i => ws (n - 1 - i)) n T = bestR (fun i => (xs i : Int)) ws n T := by
  refine Int.le_antisymm (best_turn_le hn hT) ?_
  have h1 := best_turn_le (xs := fun i => T - xs (n - 1 - i)) (ws := fun i => ws (n - 1 - i)) (n := n) (T := T) hn fun i _ => Nat.sub_le _ _
  refine Int.le_trans (Int.le_of_eq (bestR_congr (fun i hi => ?_) fun i hi => ?_)) h1
  · have := hT i hi
    show (xs i : Int) = ((T - (T - xs (n - 1 - (n - 1 - i))) : Nat) : Int)
    rw [show n - 1 - (n - 1 - i) = i by omega]
    omega
  · show ws i = ws (n - 1 - (n - 1 - i))
    rw [show n - 1 - (n - 1 - i) = i by omega]
end
end Go.Proofs.Ytahogdcmnpidiaa
