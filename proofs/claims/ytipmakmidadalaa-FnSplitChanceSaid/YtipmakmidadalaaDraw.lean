/-
  Contracts: the reader that draws numbers out of a code (spec's reader): every draw lies in its range, and nothing but the reader's own block turns.
-/
import Derived.Test.YtipmakmidadalaaHar
import Derived.Test.YtipmakmidadalaaVal
namespace Go.Proofs.Ytipmakmidadalaa
open Go.RowKit

/-- The value v is a slice of bytes that reads as bs; its cells lie in a block below R. -/
def Rd8 (w : World) (R : Nat) (A : Option Addr) (bs : List Int) : Prop :=
  (∀ b ∈ bs, 0 ≤ b ∧ b ≤ 255) ∧ (0 < bs.length → ∃ g off, A = some ⟨g, off, none⟩ ∧ g < R ∧ ∀ j, j < bs.length → w.cell? ⟨g, off + j, none⟩ = some (.int .u8 (bs.getD j 0)))
/-- Block R is a reader of the bytes bs that has drawn p times. -/
structure Rdr (w : World) (R : Nat) (A : Option Addr) (c : Nat) (bs : List Int) (p : Nat) : Prop where
  blk : w.heap[R]? = some (.cells #[.slice A bs.length c, .int .i64 p] 53 (0, 0))
  rd : Rd8 w R A bs
/-- Only block R has turned (and draws). -/
structure Only (R : Nat) (w w' : World) : Prop where
  os : w'.os = w.os
  tape : w'.tape = w.tape
  output : w'.output = w.output
  size : w'.heap.size = w.heap.size
  block : ∀ k, k ≠ R → w'.heap[k]? = w.heap[k]?
theorem Only.below {R B : Nat} {w w' : World} (h : Only R w w') (hB : B ≤ R) : Below B w w' := ⟨h.os, h.tape, h.output, by rw [h.size]; exact Nat.le_refl _, fun k hk => h.block k (by omega)⟩
theorem Only.trans {R : Nat} {a b c : World} (h : Only R a b) (k : Only R b c) : Only R a c := ⟨k.os.trans h.os, k.tape.trans h.tape, k.output.trans h.output, k.size.trans h.size, fun i hi => (k.block i hi).trans (h.block i hi)⟩
theorem Only.refl (R : Nat) (w : World) : Only R w w := ⟨rfl, rfl, rfl, rfl, fun _ _ => rfl⟩
theorem Only.drewN {R : Nat} {a w : World} (h : Only R a w) (n : Nat) : Only R a (w.drewN n) := ⟨h.os, h.tape, h.output, h.size, h.block⟩
theorem Only.set {R : Nat} {a w : World} (h : Only R a w) (o : Nat) (u : Value) : Only R a (w.setCell ⟨R, o, none⟩ u) :=
  h.trans ⟨rfl, rfl, rfl, by simp [World.setCell], fun k hk => Below.heap_setCell _ _ _ _ hk⟩
theorem Own.only {R B e : Nat} {w w' : World} {v : Value} {xs : List Int} (h : Own w B e v xs) (ho : Only R w w') (hne : v.ownBlock ≠ some R) : Own w' B e v xs :=
  h.keep (row := some R) ⟨ho.os, ho.tape, ho.output, by rw [ho.size]; exact Nat.le_refl _, fun k _ hk => ho.block k (by rintro rfl; exact hk rfl)⟩ (.inr hne)
theorem Own.only' {R B e : Nat} {w w' : World} {v : Value} {xs : List Int} (h : Own w B e v xs) (ho : Only R w w') (hR : R < B) : Own w' B e v xs :=
  h.only ho (fun he => by have := World.ownsRow.lt h R he; omega)
theorem Sl.only {R B : Nat} {w w' : World} {v : Value} {xs : List Int} (h : Sl w B v xs) (ho : Only R w w') (hR : R < B) : Sl w' B v xs :=
  h.keep (by rw [ho.size]; exact Nat.le_refl _) fun g hg _ => ho.block g (by omega)
theorem Sl.only2 {R B : Nat} {w w' : World} {v : Value} {xs : List Int} (h : Sl w B v xs) (ho : Only R w w') (hR : R < B) {B' : Nat} (hB : B' ≤ B) : Sl w' B' v xs := (h.only ho hR).low hB
theorem old_refl (w : World) (row : Option Nat) : w.grownBy w row := ⟨rfl, rfl, rfl, Nat.le_refl _, fun _ _ _ => rfl⟩
theorem old_only {R : Nat} {a w w' : World} (h : a.grownBy w (some R)) (ho : Only R w w') : a.grownBy w' (some R) :=
  ⟨ho.os.trans h.os, ho.tape.trans h.tape, ho.output.trans h.output, by rw [ho.size]; exact h.size, fun k hk hne => (ho.block k (by rintro rfl; exact hne rfl)).trans (h.block k hk hne)⟩
theorem old_below {R : Option Nat} {a w w' : World} (h : a.grownBy w R) (hb : Below a.heap.size w w') : a.grownBy w' R :=
  ⟨hb.os.trans h.os, hb.tape.trans h.tape, hb.output.trans h.output, Nat.le_trans h.size hb.size, fun k hk hne => (hb.block k hk).trans (h.block k hk hne)⟩
theorem old_alloc {R : Option Nat} {a w : World} (h : a.grownBy w R) (o : Obj) : a.grownBy (w.alloc o) R := old_below h ((Below.refl _ _).alloc h.size o)
theorem old_belowR {R B : Nat} {a w : World} (h : a.grownBy w (some R)) (hB : B ≤ a.heap.size) (hR : B ≤ R) : Below B a w := ⟨h.os, h.tape, h.output, h.size, fun k hk => h.block k (by omega) (by simp; omega)⟩
theorem blk_cell {w : World} {g : Nat} {t : TypeId} {cs : Array Value} (h : w.heap[g]? = some (.cells cs t (0, 0))) (i : Nat) : w.cell? ⟨g, i, none⟩ = cs[i]? := cell_of_row w g i cs t (0, 0) h
theorem blk_frozen {w : World} {g : Nat} {t : TypeId} {cs : Array Value} (h : w.heap[g]? = some (.cells cs t (0, 0))) (i : Nat) : w.frozen? ⟨g, i, none⟩ = false := by simp [World.frozen?, h]
theorem blk_set {w : World} {g : Nat} {t : TypeId} {cs : Array Value} (h : w.heap[g]? = some (.cells cs t (0, 0))) (i : Nat) (u : Value) : (w.setCell ⟨g, i, none⟩ u).heap[g]? = some (.cells (cs.setIfInBounds i u) t (0, 0)) := by
  simp [World.setCell, Array.getElem?_modify, h]
theorem blk_lt {w : World} {g : Nat} {o : Obj} (h : w.heap[g]? = some o) : g < w.heap.size := (Array.getElem?_eq_some_iff.1 h).1
theorem Rdr.set {w : World} {R : Nat} {A : Option Addr} {c : Nat} {bs : List Int} {p : Nat} (h : Rdr w R A c bs p) (q : Nat) : Rdr (w.setCell ⟨R, 1, none⟩ (.int .i64 q)) R A c bs q :=
  ⟨by simpa using blk_set h.blk 1 (.int .i64 q), h.rd.1, fun hn => by
    obtain ⟨g, off, hA, hg, hc⟩ := h.rd.2 hn
    exact ⟨g, off, hA, hg, fun j hj => (World.cell?_setCell_other _ _ _ _ (by simp <;> omega)).trans (hc j hj)⟩⟩
theorem Rdr.keep {w w' : World} {R : Nat} {A : Option Addr} {c : Nat} {bs : List Int} {p : Nat} (h : Rdr w R A c bs p) (hk : ∀ k, k ≤ R → w'.heap[k]? = w.heap[k]?) : Rdr w' R A c bs p :=
  ⟨(hk R (Nat.le_refl _)).trans h.blk, h.rd.1, fun hn => by
    obtain ⟨g, off, hA, hg, hc⟩ := h.rd.2 hn
    exact ⟨g, off, hA, hg, fun j hj => (World.cell?_of_block (hk g (Nat.le_of_lt hg))).trans (hc j hj)⟩⟩
theorem Rdr.drewN {w : World} {R : Nat} {A : Option Addr} {c : Nat} {bs : List Int} {p : Nat} (h : Rdr w R A c bs p) (n : Nat) : Rdr (w.drewN n) R A c bs p := ⟨h.blk, h.rd⟩
theorem Rdr.below {w w' : World} {R B : Nat} {A : Option Addr} {c : Nat} {bs : List Int} {p : Nat} (h : Rdr w R A c bs p) (hb : Below B w w') (hR : R < B) : Rdr w' R A c bs p := h.keep fun k hk => hb.block k (by omega)
theorem Rdr.alloc {w : World} {R : Nat} {A : Option Addr} {c : Nat} {bs : List Int} {p : Nat} (h : Rdr w R A c bs p) (o : Obj) : Rdr (w.alloc o) R A c bs p := h.keep fun k hk => Below.heap_alloc _ _ _ (Nat.lt_of_le_of_lt hk (blk_lt h.blk))

theorem xor_nonneg {a b : Int} (ha : 0 ≤ a ∧ a ≤ 4611686018427387904) (hb : 0 ≤ b ∧ b ≤ 4611686018427387904) : 0 ≤ bits .xor .i64 a b ∧ bits .xor .i64 a b ≤ 9223372036854775807 := by
  obtain ⟨m, rfl⟩ := Int.eq_ofNat_of_zero_le ha.1
  obtain ⟨n, rfl⟩ := Int.eq_ofNat_of_zero_le hb.1
  have hx : m ^^^ n < 2 ^ 63 := Nat.xor_lt_two_pow (by omega) (by omega)
  have h1 : (BitVec.ofInt 64 ((m : Nat) : Int)).toNat = m := by rw [BitVec.ofInt_natCast, BitVec.toNat_ofNat]; exact Nat.mod_eq_of_lt (by omega)
  have h2 : (BitVec.ofInt 64 ((n : Nat) : Int)).toNat = n := by rw [BitVec.ofInt_natCast, BitVec.toNat_ofNat]; exact Nat.mod_eq_of_lt (by omega)
  have e : bits .xor .i64 ((m : Nat) : Int) ((n : Nat) : Int) = ((m ^^^ n : Nat) : Int) := by
    show IntKind.i64.wrap ((BitVec.ofInt 64 (m : Int) ^^^ BitVec.ofInt 64 (n : Int)).toNat : Int) = _
    rw [BitVec.toNat_xor, h1, h2, IntKind.wrap_i64]
    omega
  rw [e]
  omega

def InRng (n x : Int) : Prop := (n < 1 → x = 0) ∧ (1 ≤ n → 0 ≤ x ∧ x < n)

set_option maxRecDepth 100000 in
set_option maxHeartbeats 1000000 in
theorem pick_c (R c p : Nat) (A : Option Addr) (bs : List Int) (n : Int) (w : World) (h : Rdr w R A c bs p) (hp : p ≤ 1000000) (hn : -9223372036854775808 ≤ n ∧ n ≤ 9223372036854775807) (hbl : bs.length ≤ 2000) :
    Calls Try.prog 48 #[.pointer (some ⟨R, 0, none⟩), .int .i64 n] w fun e w' => (∃ x, e = .returned (.int .i64 x) ∧ InRng n x) ∧ Rdr w' R A c bs (p + 1) ∧ Only R w w' := by
  have c0 : w.cell? ⟨R, 0, none⟩ = some (.slice A bs.length c) := blk_cell h.blk 0
  have c1 : w.cell? ⟨R, 1, none⟩ = some (.int .i64 p) := blk_cell h.blk 1
  have f1 : w.frozen? ⟨R, 1, none⟩ = false := blk_frozen h.blk 1
  have hset := hide (h.set (p + 1))
  have hon := hide ((Only.refl R w).set 1 (.int .i64 ((p + 1 : Nat) : Int)))
  have hpp : ((p + 1 : Nat) : Int) = (p : Int) + 1 := by omega
  rw [hpp] at hset hon
  clear hpp
  by_cases h1 : n < 1
  · go_enter Try.func48, Try.ntmps48
    go_wp2
    go_ret
    exact ⟨⟨0, rfl, fun _ => rfl, fun h => absurd h (by omega)⟩, hset.out, hon.out⟩
  · by_cases h2 : bs.length = 0
    · have hb0 : ((bs.length : Int) == 0) = true := by simp [h2]
      clear h2
      go_enter Try.func48, Try.ntmps48
      go_wp2
      go_ret
      exact ⟨⟨0, rfl, fun _ => rfl, fun _ => ⟨by omega, by omega⟩⟩, hset.out, hon.out⟩
    · have hpos : 0 < bs.length := by omega
      obtain ⟨g, off, rfl, hg, hcl⟩ := h.rd.2 hpos
      have hne : g ≠ R := by omega
      have hb0 : ((bs.length : Int) == 0) = false := beq_eq_false_iff_ne.2 (by omega)
      have hbyte : ∀ j (hj : j < bs.length), w.cell? ⟨g, off + j, none⟩ = some (.int .u8 bs[j]) ∧ 0 ≤ bs[j] ∧ bs[j] ≤ 255 := fun j hj => ⟨by rw [hcl j hj, getD_lt hj], h.rd.1 _ (List.getElem_mem hj)⟩
      clear hcl h
      by_cases h3 : p < bs.length
      · obtain ⟨hcp, hp1, hp2⟩ := hbyte p h3
        have hcp' : ∀ u, (w.setCell ⟨R, 1, none⟩ u).cell? ⟨g, off + p, none⟩ = some (.int .u8 bs[p]) := fun u => by rw [World.cell?_setCell_other _ _ _ _ (by simp <;> exact fun e => absurd e.symm hne)]; exact hcp
        have hmod := Int.emod_nonneg bs[p] (b := n) (by omega)
        have hmod2 := Int.emod_lt_of_pos bs[p] (b := n) (by omega)
        clear hbyte h2
        go_enter Try.func48, Try.ntmps48
        go_wp2
        go_ret
        refine ⟨⟨_, rfl, fun h => absurd h (by omega), fun _ => ?_⟩, hset.out, hon.out⟩
        exact ⟨hmod, hmod2⟩
      · have hm1 := Nat.mod_lt p hpos
        have hm2 := Nat.mod_lt (p * 7 + 3) hpos
        obtain ⟨x, hx⟩ : ∃ x, x = p % bs.length := ⟨_, rfl⟩
        obtain ⟨y, hy⟩ : ∃ y, y = (p * 7 + 3) % bs.length := ⟨_, rfl⟩
        rw [← hx] at hm1
        rw [← hy] at hm2
        obtain ⟨a1, hca, ha1, ha2⟩ : ∃ a, w.cell? ⟨g, off + x, none⟩ = some (.int .u8 a) ∧ 0 ≤ a ∧ a ≤ 255 := ⟨_, hbyte x hm1⟩
        obtain ⟨b1, hcb, hb1, hb2⟩ : ∃ a, w.cell? ⟨g, off + y, none⟩ = some (.int .u8 a) ∧ 0 ≤ a ∧ a ≤ 255 := ⟨_, hbyte y hm2⟩
        have hca' : ∀ u, (w.setCell ⟨R, 1, none⟩ u).cell? ⟨g, off + x, none⟩ = some (.int .u8 a1) := fun u => by rw [World.cell?_setCell_other _ _ _ _ (by simp <;> exact fun e => absurd e.symm hne)]; exact hca
        have hcb' : ∀ u, (w.setCell ⟨R, 1, none⟩ u).cell? ⟨g, off + y, none⟩ = some (.int .u8 b1) := fun u => by rw [World.cell?_setCell_other _ _ _ _ (by simp <;> exact fun e => absurd e.symm hne)]; exact hcb
        have hia : (x : Int) < (bs.length : Int) := by omega
        have hib : (y : Int) < (bs.length : Int) := by omega
        have hma : (p : Int).tmod (bs.length : Int) = (x : Int) := by rw [hx, Int.tmod_eq_emod_of_nonneg (by omega)]; rfl
        have hmb : ((p : Int) * 7 + 3).tmod (bs.length : Int) = (y : Int) := by rw [hy, Int.tmod_eq_emod_of_nonneg (by omega)]; rfl
        obtain ⟨q, hq⟩ : ∃ q, q = p / bs.length := ⟨_, rfl⟩
        have hqd : (p : Int).tdiv (bs.length : Int) = (q : Int) := by rw [hq, Int.tdiv_eq_ediv_of_nonneg (by omega)]; rfl
        have hqd2 : q ≤ 1000000 := by have := Nat.div_le_self p bs.length; omega
        have w1 : IntKind.i64.wrap a1 = a1 := IntWalk.i64_in _ (by omega)
        have w1' : IntKind.i64.wrap b1 = b1 := IntWalk.i64_in _ (by omega)
        have w2 : IntKind.i64.wrap (a1 * 131) = a1 * 131 := IntWalk.i64_in _ (by omega)
        have w3 : IntKind.i64.wrap ((p : Int) * 7) = (p : Int) * 7 := IntWalk.i64_in _ (by omega)
        have w4 : IntKind.i64.wrap ((p : Int) * 7 + 3) = (p : Int) * 7 + 3 := IntWalk.i64_in _ (by omega)
        have w5 : IntKind.i64.wrap (b1 * 1117) = b1 * 1117 := IntWalk.i64_in _ (by omega)
        have w6 : IntKind.i64.wrap (a1 * 131 + b1 * 1117) = a1 * 131 + b1 * 1117 := IntWalk.i64_in _ (by omega)
        have w7 : IntKind.i64.wrap ((p : Int) * 29) = (p : Int) * 29 := IntWalk.i64_in _ (by omega)
        have w8 : IntKind.i64.wrap (a1 * 131 + b1 * 1117 + (p : Int) * 29) = a1 * 131 + b1 * 1117 + (p : Int) * 29 := IntWalk.i64_in _ (by omega)
        have w9 : IntKind.i64.wrap ((q : Int) * 53) = (q : Int) * 53 := IntWalk.i64_in _ (by omega)
        have w9' : IntKind.i64.wrap (q : Int) = (q : Int) := IntWalk.i64_in _ (by omega)
        have w10 : IntKind.i64.wrap (a1 * 131 + b1 * 1117 + (p : Int) * 29 + (q : Int) * 53) = a1 * 131 + b1 * 1117 + (p : Int) * 29 + (q : Int) * 53 := IntWalk.i64_in _ (by omega)
        have hle : 0 ≤ a1 * 131 + b1 * 1117 + (p : Int) * 29 + (q : Int) * 53 ∧ a1 * 131 + b1 * 1117 + (p : Int) * 29 + (q : Int) * 53 ≤ 1000000000 := by omega
        clear hx hy hq hbyte h2
        go_enter Try.func48, Try.ntmps48
        go_wp2
        go_quiet (fail)
        clear w1 w1' w2 w3 w4 w5 w6 w7 w8 w9 w9' w10 hma hmb hqd
        have hxr := xor_nonneg (a := a1 * 131 + b1 * 1117 + (p : Int) * 29 + (q : Int) * 53) (b := (a1 * 131 + b1 * 1117 + (p : Int) * 29 + (q : Int) * 53) / 64) (by omega) (by omega)
        have hmod := Int.emod_nonneg (bits .xor .i64 (a1 * 131 + b1 * 1117 + (p : Int) * 29 + (q : Int) * 53) ((a1 * 131 + b1 * 1117 + (p : Int) * 29 + (q : Int) * 53) / 64)) (b := n) (by omega)
        have hmod2 := Int.emod_lt_of_pos (bits .xor .i64 (a1 * 131 + b1 * 1117 + (p : Int) * 29 + (q : Int) * 53) ((a1 * 131 + b1 * 1117 + (p : Int) * 29 + (q : Int) * 53) / 64)) (b := n) (by omega)
        go_wp2
        go_ret
        refine ⟨⟨_, rfl, fun h => absurd h (by omega), fun _ => ?_⟩, (hset.out).drewN _, (hon.out).drewN _⟩
        exact ⟨hmod, hmod2⟩

set_option maxHeartbeats 400000 in
theorem one_c (R c p : Nat) (A : Option Addr) (bs xs : List Int) (v : Value) (w : World) (h : Rdr w R A c bs p) (hp : p ≤ 1000000) (hbl : bs.length ≤ 2000) (hr : Sl w (R + 1) v xs) (hx : 0 < xs.length) :
    Calls Try.prog 46 #[.pointer (some ⟨R, 0, none⟩), v] w fun e w' => (∃ x ∈ xs, e = .returned (.int .i64 x)) ∧ Rdr w' R A c bs (p + 1) ∧ Only R w w' := by
  obtain ⟨A', c', rfl, hc, hm, hcell⟩ := hr
  obtain ⟨g, off, rfl, hB, hg, hcl, _⟩ := hcell hx
  go_enter Try.func46, Try.ntmps46
  go_wp2_with fail
  refine (pick_c R c p A bs _ _ h hp (by omega) hbl).mono ?_
  rintro e w1 ⟨⟨x, rfl, hx1, hx2⟩, hrd, hon⟩
  obtain ⟨hx3, hx4⟩ := hx2 (by omega)
  obtain ⟨k, rfl⟩ := Int.eq_ofNat_of_zero_le hx3
  have hk : k < xs.length := by omega
  have hck : w1.cell? ⟨g, off + k, none⟩ = some (.int .i64 xs[k]) := by
    rw [World.cell?_of_block (hon.block g (by omega)), hcl k hk, getD_lt hk]
  clear hx1 hx2 hcl hcell
  go_wp2
  go_ret
  exact ⟨⟨_, List.getElem_mem hk, rfl⟩, hrd, hon⟩

set_option maxHeartbeats 400000 in
theorem newReader_c (A : Option Addr) (n c : Nat) (bs : List Int) (w : World) (hl : bs.length = n) (hnc : n ≤ c) (hc : c ≤ 9223372036854775807) (hr : Rd8 w w.heap.size A bs) :
    Calls Try.prog 45 #[.slice A n c] w fun e w' => ∃ R bs', e = .returned (.pointer (some ⟨R, 0, none⟩)) ∧ bs'.length ≤ 2000 ∧ w.heap.size ≤ R ∧ (∃ A' c', Rdr w' R A' c' bs' 0) ∧ Below w.heap.size w w' := by
  subst hl
  by_cases hlong : 2000 < bs.length
  · have hne : ¬ c = 0 := by omega
    go_enter Try.func45, Try.ntmps45
    go_wp2
    go_ret
    refine ⟨w.heap.size, bs.take 2000, rfl, by simp; omega, Nat.le_refl _, ⟨A, c, ⟨?_, ?_, ?_⟩⟩, (by (repeat (first | exact Below.refl _ _ | assumption | refine Below.setCell ?_ (by first | (simp; done) | omega | (simp; omega) | (simp at *; omega)) _ | refine Below.drew ?_ | refine below_drewN ?_ _ | refine below_alloc' ?_ _ | refine below_to' ?_ (by assumption))))⟩
    · have hl2 : (bs.take 2000).length = 2000 := by simp; omega
      rw [hl2]
      exact heap_alloc_new w _
    · exact fun b hb => hr.1 b (List.mem_of_mem_take hb)
    · intro _
      obtain ⟨g, off, hA, hg2, hcl⟩ := hr.2 (by omega)
      refine ⟨g, off, hA, hg2, fun j hj => ?_⟩
      have hj2 : j < 2000 ∧ j < bs.length := by simp at hj; omega
      rw [World.cell?_alloc_lt _ _ _ hg2, hcl j hj2.2]
      simp [List.getD, List.getElem?_take, hj2.1]
  · go_enter Try.func45, Try.ntmps45
    go_wp2
    go_ret
    refine ⟨w.heap.size, bs, rfl, by omega, Nat.le_refl _, ⟨A, c, ⟨heap_alloc_new w _, hr.1, ?_⟩⟩, (by (repeat (first | exact Below.refl _ _ | assumption | refine Below.setCell ?_ (by first | (simp; done) | omega | (simp; omega) | (simp at *; omega)) _ | refine Below.drew ?_ | refine below_drewN ?_ _ | refine below_alloc' ?_ _ | refine below_to' ?_ (by assumption))))⟩
    intro h0
    obtain ⟨g, off, hA, hg2, hcl⟩ := hr.2 h0
    exact ⟨g, off, hA, hg2, fun j hj => (World.cell?_alloc_lt _ _ _ hg2).trans (hcl j hj)⟩

/-- What the row's reader tells of a slice of bytes that came in. -/
theorem rd8_of_row {w : World} {a : Option Addr} {len cap : Nat} {zs : List Int} (h : (a = none ∧ len = 0 ∧ cap = 0 ∧ zs = []) ∨
    ∃ x, a = some x ∧ len ≤ cap ∧ cap ≤ maxLen ∧ zs.length = cap ∧ (∀ i, i < zs.length → w.cell? (x.add i) = some (.int .u8 (zs.getD i 0))) ∧ ∀ n ∈ zs, (Lit.int .u8 n).wf = true) :
    Rd8 w w.heap.size a (zs.take len) ∧ (zs.take len).length = len ∧ len ≤ cap ∧ cap ≤ 9223372036854775807 := by
  rcases h with ⟨rfl, rfl, rfl, rfl⟩ | ⟨x, rfl, hl, hm, hz, hcell, hwf⟩
  · exact ⟨⟨by simp, fun h => absurd h (by simp)⟩, rfl, Nat.le_refl _, by omega⟩
  · have hlen : (zs.take len).length = len := by simp; omega
    refine ⟨⟨fun b hb => by simpa [Lit.wf, IntKind.min, IntKind.max, IntKind.signed, IntKind.bits] using hwf b (List.mem_of_mem_take hb), fun hp => ?_⟩, hlen, hl, by simpa [maxLen] using hm⟩
    rw [hlen] at hp ⊢
    obtain ⟨b, off, spot⟩ := x
    have hc := hcell 0 (by omega)
    have hspot : spot = none := by simpa [Addr.add] using World.cell?_spot hc
    subst hspot
    have hb : b < w.heap.size := by
      have := World.block_lt_of_cell? w _ hc
      simpa [Addr.add] using this
    refine ⟨b, off, rfl, hb, fun j hj => ?_⟩
    have h1 := hcell j (by omega)
    have hadd : (⟨b, off, none⟩ : Addr).add j = ⟨b, off + j, none⟩ := by
      unfold Addr.add; split
      · next h0 => subst h0; rfl
      · rfl
    rw [hadd] at h1
    rw [h1]
    simp [List.getD, List.getElem?_take, hj]
end Go.Proofs.Ytipmakmidadalaa
