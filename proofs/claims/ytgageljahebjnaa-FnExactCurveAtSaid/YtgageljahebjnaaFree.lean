
/-
  A region that draws its order: operations that only read or call (the callees may make memory), one allocation that waits for nothing, and a forced end (the store): one walk in the order of the text serves every order.
-/
import Derived.Test.YtgageljahebjnaaQTail
import Derived.Lib.QuietBelow
namespace Go.Proofs.Ytgageljahebjnaa
open Go.RowKit

/-- The worlds that come of v by draws and new blocks. -/
def Grn (v : World) (w' : World) : Prop := ∃ p : Regrown, w' = Go.Sort.grow (redrawn v p.d) p.os
theorem grn_below {v w' : World} (h : Grn v w') : Below v.heap.size v w' := by obtain ⟨p, rfl⟩ := h; exact below_regrown ..
theorem grn_of {v w' : World} (h : Below v.heap.size v w') : Grn v w' := regrown_of_below h

section
variable {P : Program} {ops : Array Oper} {md : Region.Mode} {C : World → Prop}

def dstOf (ops : Array Oper) (i : Nat) : Option Tmp := (ops[i]?).bind (·.dst)
def okHead (md : Region.Mode) (ops : Array Oper) (n i : Nat) : Bool :=
  match ops[i]? with
  | none => false
  | some o => o.guard.isNone && o.dst.isSome && (match o.op with | .select _ _ => false | _ => true) &&
    (o.looksAt ops).all (fun t => (List.range (n + 1)).all fun j => dstOf ops j != some t || (decide (j < i) && Region.waitsFor md ops i j)) &&
    o.after.all (fun e => !Region.binds md e || decide (e.on < i)) && (List.range (n + 1)).all fun j => j == i || dstOf ops j != o.dst
def okAlloc (md : Region.Mode) (ops : Array Oper) (n : Nat) : Bool :=
  match ops[n]? with
  | none => false
  | some o => o.guard.isNone && o.dst.isSome && o.after.all (fun e => !Region.binds md e || decide (e.on < n))
def freeB (md : Region.Mode) (ops : Array Oper) (n : Nat) : Bool :=
  decide (n + 1 < ops.size) && ((List.range n).all (okHead md ops n) && (okAlloc md ops n && ((List.range (n + 1)).all (Region.waitsFor md ops (n + 1)) &&
    (((List.range ops.size).all fun t => decide (t ≤ n + 1) || Region.waitsFor md ops t (t - 1)) &&
    Region.seqB md ops (ops.size - (n + 1)) (n + 1) ((List.range ops.size).map fun i => decide (i < n + 1)).toArray))))

theorem tmps_eval {a a' : Act} {t : Tmp} (h : a'.tmps[t]? = a.tmps[t]?) : a'.eval (.tmp t) = a.eval (.tmp t) := by simp [Act.eval, h]

theorem lexQ {A' : Act} : ∀ (l : List Oper) (a : Act), wpQuiet P ops C (fun x => x = A') l a → (∀ o ∈ l, o.guard = none ∧ (∀ cs b, o.op ≠ .select cs b) ∧ ∃ d, o.dst = some d ∧ d < a.tmps.size ∧ d ∉ o.looksAt ops) →
    l.Pairwise (fun x y => (∀ d, y.dst = some d → d ∉ x.looksAt ops) ∧ x.dst ≠ y.dst) →
    (A'.defers = a.defers ∧ A'.tmps.size = a.tmps.size ∧ ∀ t, (∀ o ∈ l, o.dst ≠ some t) → A'.tmps[t]? = a.tmps[t]?) ∧ ∀ o ∈ l, ∀ d, o.dst = some d → ∀ w, C w → o.quietAt P A' C w (A'.tmps.getD d undef)
  | [], a, h, _, _ => by
    have h : a = A' := h
    subst h
    exact ⟨⟨rfl, rfl, fun _ _ => rfl⟩, fun o ho => by cases ho⟩
  | o :: l, a, h, hg, hp => by
    obtain ⟨hg1, hs1, d, hd, hdl, hdo⟩ := hg o List.mem_cons_self
    have hw : Region.wanted o (yielded ops a.tmps) = true := by simp [Region.wanted, hg1]
    simp only [wpQuiet, hw, if_true] at h
    obtain ⟨v, hv, hr⟩ := h
    rw [hd] at hr
    have hsz : (a.put (some d) v).tmps.size = a.tmps.size := by simp [Act.put]
    obtain ⟨⟨e1, e2, e3⟩, e4⟩ := lexQ l (a.put (some d) v) hr (fun o' ho' => by
      obtain ⟨x1, x2, d', x3, x4, x5⟩ := hg o' (List.mem_cons_of_mem _ ho')
      exact ⟨x1, x2, d', x3, by rw [hsz]; exact x4, x5⟩) (List.Pairwise.of_cons hp)
    rw [List.pairwise_cons] at hp
    have hdn : ∀ o' ∈ l, o'.dst ≠ some d := fun o' ho' e => (hp.1 o' ho').2 (by rw [hd, e])
    have hput : ∀ t, t ≠ d → (a.put (some d) v).tmps[t]? = a.tmps[t]? := fun t ht => by simp [Act.put, Array.getElem?_setIfInBounds_ne (Ne.symm ht)]
    refine ⟨⟨e1, by rw [e2, hsz], fun t ht => ?_⟩, fun o' ho' d' hd' w hw' => ?_⟩
    · rw [e3 t fun o' ho' => ht o' (List.mem_cons_of_mem _ ho'), hput t fun e => ht o List.mem_cons_self (by rw [hd, e])]
    · rcases List.mem_cons.1 ho' with rfl | ho'
      · have hd2 : d' = d := by rw [hd] at hd'; exact (Option.some.inj hd').symm
        subst hd2
        have hval : A'.tmps.getD d' undef = v := by
          have := e3 d' hdn
          rw [show (a.put (some d') v).tmps[d']? = some v by simp [Act.put, hdl]] at this
          rw [Array.getD_eq_getD_getElem?, this]
          rfl
        have he : execOp A'.eval o' = execOp a.eval o' := execOp_congr o' hs1 fun x hx => by
          cases x with
          | tmp t =>
            have hl : t ∈ o'.looksAt ops := List.mem_append_left _ (List.mem_filterMap.2 ⟨.tmp t, by simpa using hx, rfl⟩)
            refine tmps_eval ?_
            rw [e3 t fun o2 ho2 e => (hp.1 o2 ho2).1 t e hl, hput t fun e => hdo (e ▸ hl)]
          | _ => rfl
        rw [hval]
        have := hv w hw'
        unfold Oper.quietAt at *
        rw [he]
        exact this
      · exact e4 o' ho' d' hd' w hw'

structure FInv (md : Region.Mode) (ops : Array Oper) (n d : Nat) (O : Obj) (W : World) (a A' : Act) (listed : Array Bool) (a' : Act) (w' : World) : Prop where
  size : listed.size = ops.size
  tail : ∀ t, n + 1 ≤ t → t < ops.size → listed.getD t true = false
  bel : Below W.heap.size W w'
  def' : a'.defers = A'.defers
  tsz : a'.tmps.size = A'.tmps.size
  oth : ∀ t, (∀ i, i ≤ n → dstOf ops i ≠ some t) → a'.tmps[t]? = A'.tmps[t]?
  head : ∀ i t, i < n → listed.getD i false = true → dstOf ops i = some t → a'.tmps[t]? = A'.tmps[t]?
  al : listed.getD n false = true → ∃ b, a'.tmps[d]? = some (.pointer (some ⟨b, 0, none⟩)) ∧ W.heap.size ≤ b ∧ w'.heap[b]? = some O

theorem okHead_spec {n i : Nat} (h : okHead md ops n i = true) : ∃ o d, ops[i]? = some o ∧ o.guard = none ∧ o.dst = some d ∧ (∀ cs b, o.op ≠ .select cs b) ∧
    (∀ t ∈ o.looksAt ops, ∀ j, j ≤ n → dstOf ops j = some t → j < i ∧ Region.waitsFor md ops i j = true) ∧ (∀ e ∈ o.after, Region.binds md e = true → e.on < i) ∧ ∀ j, j ≤ n → j ≠ i → dstOf ops j ≠ some d := by
  unfold okHead at h
  split at h
  · cases h
  · rename_i o ho
    simp only [Bool.and_eq_true] at h
    obtain ⟨⟨⟨⟨⟨h1, h2⟩, h3⟩, h4⟩, h5⟩, h6⟩ := h
    obtain ⟨d, hd⟩ := Option.isSome_iff_exists.1 h2
    refine ⟨o, d, ho, by simpa using h1, hd, ?_, ?_, ?_, ?_⟩
    · intro cs b e
      rw [e] at h3
      cases h3
    · intro t ht j hj hjd
      have := List.all_eq_true.1 (List.all_eq_true.1 h4 t ht) j (List.mem_range.2 (by omega))
      rw [hjd] at this
      simpa using this
    · intro e he hb
      have := Array.all_eq_true'.1 h5 e he
      rw [hb] at this
      simpa using this
    · intro j hj hji e
      have := List.all_eq_true.1 h6 j (List.mem_range.2 (by omega))
      rw [e, hd] at this
      simp [hji] at this

def cntF (listed : Array Bool) : Nat → Nat
  | 0 => 0
  | m + 1 => cntF listed m + if listed.getD m false then 0 else 1
theorem cntF_all {listed : Array Bool} : ∀ {m : Nat}, cntF listed m = 0 → ∀ i, i < m → listed.getD i false = true
  | 0, _, i, hi => by omega
  | m + 1, h, i, hi => by
    simp only [cntF] at h
    split at h
    · by_cases e : i = m
      · subst e; assumption
      · exact cntF_all (by omega) i (by omega)
    · omega
theorem cntF_some {listed : Array Bool} : ∀ {m f : Nat}, cntF listed m = f + 1 → ∃ i, i < m ∧ listed.getD i false = false
  | 0, f, h => by simp [cntF] at h
  | m + 1, f, h => by
    simp only [cntF] at h
    split at h
    · obtain ⟨i, hi, h2⟩ := cntF_some (m := m) (f := f) (by omega)
      exact ⟨i, by omega, h2⟩
    · rename_i hm
      exact ⟨m, by omega, by simpa using hm⟩
theorem cntF_set {listed : Array Bool} {i : Nat} (hs : i < listed.size) (h : listed.getD i false = false) : ∀ {m : Nat}, (m ≤ i → cntF (listed.setIfInBounds i true) m = cntF listed m) ∧ (i < m → cntF listed m = cntF (listed.setIfInBounds i true) m + 1)
  | 0 => ⟨fun _ => rfl, fun h => by omega⟩
  | m + 1 => by
    obtain ⟨h1, h2⟩ := cntF_set hs h (m := m)
    constructor
    · intro hm
      simp only [cntF]
      rw [h1 (by omega), getD_set_ne false (show i ≠ m by omega)]
    · intro hm
      simp only [cntF]
      by_cases e : i = m
      · subst e
        rw [h1 (Nat.le_refl _), h]
        simp [hs]
      · rw [h2 (by omega), getD_set_ne false e]
        omega

theorem free_sound {n d g : Nat} {oa : Oper} {O : Obj} {W : World} {a A' : Act} {Q' : Exit → Act → World → Prop}
    (hH : ∀ i, i < n → okHead md ops n i = true) (hoa : ops[n]? = some oa) (hga : oa.guard = none) (hda : oa.dst = some d) (hdep : ∀ e ∈ oa.after, Region.binds md e = true → e.on < n)
    (hrun : ∀ ρ w, (execOp ρ oa).run P w = .ok (.value (.pointer (some ⟨w.heap.size, 0, none⟩))) (w.alloc O))
    (hwait : ∀ i, i ≤ n → Region.waitsFor md ops (n + 1) i = true) (hchain : ∀ t, t < ops.size → n + 1 < t → Region.waitsFor md ops t (t - 1) = true)
    (hn : n + 1 < ops.size) (hdl : d < A'.tmps.size) (hds : ∀ i dd, i < n → dstOf ops i = some dd → dd < A'.tmps.size)
    (hq : ∀ v, Below W.heap.size W v → ∀ i o dd, i < n → ops[i]? = some o → o.dst = some dd → ∀ w, Grn v w → o.quietAt P A' (Grn v) w (A'.tmps.getD dd undef))
    (hL : ∀ b w', Below W.heap.size W w' → W.heap.size ≤ b → w'.heap[b]? = some O →
      wpAny P md ops Q' g ((List.range ops.size).map fun i => decide (i < n + 1)).toArray (A'.put (some d) (.pointer (some ⟨b, 0, none⟩))) w') :
    ∀ (f : Nat) (listed : Array Bool) (a' : Act) (w' : World), FInv md ops n d O W a A' listed a' w' → cntF listed (n + 1) = f → wpAny P md ops Q' (f + g) listed a' w' := by
  intro f
  induction f with
  | zero =>
    intro listed a' w' inv hc
    have hall := cntF_all hc
    obtain ⟨b, hb1, hb2, hb3⟩ := inv.al (hall n (by omega))
    have e1 : listed = ((List.range ops.size).map fun i => decide (i < n + 1)).toArray := by
      apply Array.ext (by simp [inv.size])
      intro j hj hj2
      have hjs : j < ops.size := by rw [← inv.size]; exact hj
      by_cases hjn : j < n + 1
      · have := hall j hjn
        rw [Array.getD_eq_getD_getElem?, Array.getElem?_eq_getElem hj] at this
        simpa [hjn] using this
      · have := inv.tail j (by omega) hjs
        rw [Array.getD_eq_getD_getElem?, Array.getElem?_eq_getElem hj] at this
        simp [hjn]
        simpa using this
    have e2 : a' = A'.put (some d) (.pointer (some ⟨b, 0, none⟩)) := by
      obtain ⟨tm, df⟩ := a'
      obtain ⟨tm', df'⟩ := A'
      have hd' : df = df' := inv.def'
      subst hd'
      have ht : tm = tm'.setIfInBounds d (.pointer (some ⟨b, 0, none⟩)) := by
        apply Array.ext_getElem?
        intro t
        by_cases htd : t = d
        · subst htd
          have : t < tm'.size := hdl
          rw [show tm[t]? = _ from hb1]
          simp [this]
        · rw [Array.getElem?_setIfInBounds_ne (Ne.symm htd)]
          by_cases hx : ∃ i, i < n ∧ dstOf ops i = some t
          · obtain ⟨i, hi, hit⟩ := hx
            exact inv.head i t hi (hall i (by omega)) hit
          · refine inv.oth t fun i hi hit => ?_
            by_cases hin : i = n
            · subst hin
              rw [dstOf, hoa] at hit
              simp only [Option.bind_some, hda, Option.some.injEq] at hit
              exact htd hit.symm
            · exact hx ⟨i, by omega, hit⟩
      rw [ht]
      rfl
    rw [e1, e2, Nat.zero_add]
    exact hL b w' inv.bel hb2 hb3
  | succ f ih =>
    intro listed a' w' inv hc
    rw [show f + 1 + g = (f + g) + 1 by omega]
    obtain ⟨i0, hi0, hi0f⟩ := cntF_some hc
    have deps : ∀ i, i ≤ n → ∃ o, ops[i]? = some o ∧ ∀ e ∈ o.after, Region.binds md e = true → e.on < i := fun i hi => by
      by_cases e : i = n
      · subst e; exact ⟨oa, hoa, hdep⟩
      · obtain ⟨o, _, h1, _, _, _, _, h2, _⟩ := okHead_spec (hH i (by omega))
        exact ⟨o, h1, h2⟩
    have hne : ∀ i, i ≤ n → listed.getD i false = false → Region.ready md ops listed ≠ [] := by
      intro i
      induction i using Nat.strongRecOn with
      | ind i ihi =>
        intro hi hf h0
        obtain ⟨o, ho, hd⟩ := deps i hi
        by_cases hall : ∀ e ∈ o.after, Region.binds md e = true → listed.getD e.on false = true
        · have : i ∈ Region.ready md ops listed := mem_ready.2 ⟨getD_in (by rw [inv.size]; omega) hf, o, ho, hall⟩
          rw [h0] at this
          cases this
        · have ⟨e, hx⟩ := Classical.not_forall.1 hall
          have ⟨he, hx⟩ := Classical.not_forall.1 hx
          have ⟨hb, hx⟩ := Classical.not_forall.1 hx
          exact ihi e.on (hd e he hb) (by have := hd e he hb; omega) (by simpa using hx) h0
    refine ⟨fun h0 => absurd h0 (hne i0 (by omega) hi0f), fun i hi => ?_⟩
    have hin : i ≤ n := by
      rcases Nat.lt_or_ge n i with h | h
      · exfalso
        obtain ⟨_, o, ho, hall⟩ := mem_ready.1 hi
        by_cases e : i = n + 1
        · subst e
          obtain ⟨oj, hoj, e, he, hb, heq⟩ := Region.waitsFor_spec (hwait i0 (by omega))
          rw [ho] at hoj
          cases hoj
          have := hall e he hb
          rw [heq, hi0f] at this
          cases this
        · have his : i < ops.size := (Array.getElem?_eq_some_iff.1 ho).1
          obtain ⟨oj, hoj, e, he, hb, heq⟩ := Region.waitsFor_spec (hchain i his (by omega))
          rw [ho] at hoj
          cases hoj
          have := hall e he hb
          rw [heq, getD_both (inv.tail (i - 1) (by omega) (by omega))] at this
          cases this
      · exact h
    obtain ⟨hif, o, ho, hall⟩ := mem_ready.1 hi
    have hif' := getD_both hif
    have hsz : i < listed.size := by rw [inv.size]; exact (Array.getElem?_eq_some_iff.1 ho).1
    have hcnt := (cntF_set hsz hif' (m := n + 1)).2 (by omega)
    have hset : ∀ j, (listed.setIfInBounds i true).getD j false = true → j = i ∨ listed.getD j false = true := fun j hj => by
      by_cases e : i = j
      · exact .inl e.symm
      · rw [getD_set_ne false e] at hj; exact .inr hj
    by_cases hia : i = n
    · subst hia
      rw [hoa] at ho
      cases ho
      unfold wpOp
      simp only [hoa]
      have hw : Region.wanted oa (yielded ops a'.tmps) = true := by simp [Region.wanted, hga]
      rw [if_pos hw]
      left
      unfold Oper.wp
      rw [hrun]
      refine ih _ _ _ ⟨by simp [inv.size], fun t ht ht' => by rw [getD_set_ne true (by omega)]; exact inv.tail t ht ht', inv.bel.alloc inv.bel.size O, ?_, ?_, ?_, ?_, ?_⟩ (by omega)
      · rw [hda]; exact inv.def'
      · rw [hda]; simp [Act.put, inv.tsz]
      · intro t ht
        have htd : d ≠ t := fun e => ht i (Nat.le_refl _) (by rw [dstOf, hoa]; simp [hda, e])
        rw [hda]
        simp only [Act.put, Array.getElem?_setIfInBounds_ne htd]
        exact inv.oth t ht
      · intro j t hj hjl hjt
        obtain ⟨oj, dj, h1, _, h2, _, _, _, h3⟩ := okHead_spec (hH j hj)
        have e : dj = t := by rw [dstOf, h1] at hjt; simpa [h2] using hjt
        subst e
        have htd : d ≠ dj := fun e => h3 i (Nat.le_refl _) (by omega) (by rw [dstOf, hoa]; simp [hda, e])
        rw [hda]
        simp only [Act.put, Array.getElem?_setIfInBounds_ne htd]
        refine inv.head j dj hj ?_ hjt
        rcases hset j hjl with e | e
        · omega
        · exact e
      · intro _
        refine ⟨w'.heap.size, ?_, inv.bel.size, heap_alloc_new ..⟩
        have : d < a'.tmps.size := by rw [inv.tsz]; exact hdl
        rw [hda]
        simp [Act.put, this]
    · have hin' : i < n := by omega
      obtain ⟨o2, dd, h1, h2, h3, h4, h5, _, h7⟩ := okHead_spec (hH i hin')
      rw [ho] at h1
      cases h1
      have hdd : dstOf ops i = some dd := by rw [dstOf, ho]; exact h3
      have hddl := hds i dd hin' hdd
      have he : execOp a'.eval o = execOp A'.eval o := execOp_congr o h4 fun x hx => by
        cases x with
        | tmp t =>
          have hl : t ∈ o.looksAt ops := List.mem_append_left _ (List.mem_filterMap.2 ⟨.tmp t, by simpa using hx, rfl⟩)
          refine tmps_eval ?_
          by_cases hx : ∃ j, j ≤ n ∧ dstOf ops j = some t
          · obtain ⟨j, hj, hjt⟩ := hx
            obtain ⟨k1, k2⟩ := h5 t hl j hj hjt
            obtain ⟨oj, hoj, e, he, hb, heq⟩ := Region.waitsFor_spec k2
            rw [ho] at hoj
            cases hoj
            exact inv.head j t (by omega) (heq ▸ hall e he hb) hjt
          · exact inv.oth t fun j hj hjt => hx ⟨j, hj, hjt⟩
        | _ => rfl
      unfold wpOp
      simp only [ho]
      have hw : Region.wanted o (yielded ops a'.tmps) = true := by simp [Region.wanted, h2]
      rw [if_pos hw]
      left
      refine Oper.wp_of_quiet (C := Grn w') (K := fun x => x = a'.put o.dst (A'.tmps.getD dd undef)) (grn_of (Below.refl _ _)) ?_ ⟨_, fun w hg => ?_, rfl⟩
      · intro x w'' hg hx
        subst hx
        have hbw := grn_below hg
        rw [h3]
        have hget : (a'.put (some dd) (A'.tmps.getD dd undef)).tmps[dd]? = A'.tmps[dd]? := by
          have : dd < a'.tmps.size := by rw [inv.tsz]; exact hddl
          simp [Act.put, this, hddl]
        refine ih _ _ _ ⟨by simp [inv.size], fun t ht ht' => by rw [getD_set_ne true (by omega)]; exact inv.tail t ht ht', inv.bel.trans (hbw.mono inv.bel.size), inv.def', by simp [Act.put, inv.tsz], ?_, ?_, ?_⟩ (by omega)
        · intro t ht
          have htd : dd ≠ t := fun e => ht i hin (e ▸ hdd)
          simp only [Act.put, Array.getElem?_setIfInBounds_ne htd]
          exact inv.oth t ht
        · intro j t hj hjl hjt
          by_cases e : t = dd
          · subst e; exact hget
          · simp only [Act.put, Array.getElem?_setIfInBounds_ne (Ne.symm e)]
            refine inv.head j t hj ?_ hjt
            rcases hset j hjl with e' | e'
            · subst e'
              rw [hdd] at hjt
              exact absurd (Option.some.inj hjt).symm e
            · exact e'
        · intro hl
          rw [getD_set_ne false hia] at hl
          obtain ⟨b, k1, k2, k3⟩ := inv.al hl
          have hdn : dd ≠ d := fun e => h7 n (Nat.le_refl _) (Ne.symm hia) (by rw [dstOf, hoa]; simp [hda, e])
          have hbl : b < w'.heap.size := (Array.getElem?_eq_some_iff.1 k3).1
          exact ⟨b, by simp only [Act.put, Array.getElem?_setIfInBounds_ne hdn]; exact k1, k2, (hbw.block b hbl).trans k3⟩
      · have := hq w' inv.bel i o dd hin' ho h3 w hg
        unfold Oper.quietAt at *
        rw [he]
        exact this

def dstsB (l : List Oper) (m : Nat) : Bool := l.all fun o => match o.dst with | some d => decide (d < m) | none => true

theorem wp_region_free {id : Nat} {Q : Exit → Act → World → Prop} {a : Act} {w : World} {l : List Oper} (n d : Nat) (O : Obj) {A' : Act} (hm : P.follows .mixedOrders = true) (hB : freeB .any l.toArray n = true) (hD : dstsB l a.tmps.size = true)
    (hoa : ∀ oa, l[n]? = some oa → oa.dst = some d ∧ ∀ ρ w, (execOp ρ oa).run P w = .ok (.value (.pointer (some ⟨w.heap.size, 0, none⟩))) (w.alloc O))
    (h : ∀ v, Below w.heap.size w v → wpQuiet P l.toArray (fun w' => ∃ p : Regrown, w' = Go.Sort.grow (redrawn v p.d) p.os) (fun x => x = A') (l.take n) a)
    (hL : ∀ b w', Below w.heap.size w w' → w.heap.size ≤ b → w'.heap[b]? = some O → wpList P l.toArray Q (l.drop (n + 1)) (A'.put (some d) (.pointer (some ⟨b, 0, none⟩))) w') : (Code.region id l.toArray true).wp P Q a w := by
  simp only [freeB, Bool.and_eq_true, decide_eq_true_eq] at hB
  obtain ⟨hn, hH, hA, hW, hC, hS⟩ := hB
  have hn' : n + 1 < l.length := by simpa using hn
  have hH' : ∀ i, i < n → okHead .any l.toArray n i = true := fun i hi => List.all_eq_true.1 hH i (List.mem_range.2 hi)
  have hon : l.toArray[n]? = some (l[n]'(by omega)) := by simp [show n < l.length by omega]
  obtain ⟨hda, hrun⟩ := hoa (l[n]'(by omega)) (List.getElem?_eq_getElem _)
  have hA' := hA
  unfold okAlloc at hA'
  rw [hon] at hA'
  simp only [Bool.and_eq_true] at hA'
  have hdst : ∀ i dd, dstOf l.toArray i = some dd → dd < a.tmps.size := fun i dd hi => by
    unfold dstOf at hi
    cases ho : l.toArray[i]? with
    | none => rw [ho] at hi; cases hi
    | some o =>
      rw [ho] at hi
      have hi : o.dst = some dd := hi
      have hmem : o ∈ l := by
        have := Array.mem_of_getElem? ho
        simpa using this
      have := List.all_eq_true.1 hD o hmem
      rw [hi] at this
      simpa using this
  have hidx : ∀ o ∈ l.take n, ∃ i, i < n ∧ l.toArray[i]? = some o := fun o ho => by
    obtain ⟨i, hi, e⟩ := List.getElem_of_mem ho
    have hi2 : i < n ∧ i < l.length := by rw [List.length_take] at hi; omega
    refine ⟨i, hi2.1, ?_⟩
    rw [← e]
    simp [hi2.2]
  have hlex : ∀ v, Below w.heap.size w v → _ := fun v hv => lexQ (C := Grn v) (l.take n) a (h v hv) (fun o ho => by
    obtain ⟨i, hi, e⟩ := hidx o ho
    obtain ⟨o2, dd, h1, h2, h3, h4, h5, _, _⟩ := okHead_spec (hH' i hi)
    rw [e] at h1
    cases h1
    have hdd : dstOf l.toArray i = some dd := by rw [dstOf, e]; exact h3
    exact ⟨h2, h4, dd, h3, hdst i dd hdd, fun hx => by have := (h5 dd hx i (by omega) hdd).1; omega⟩) (by
    rw [List.pairwise_iff_getElem]
    intro i j hi hj hij
    have hi2 : i < n ∧ i < l.length := by rw [List.length_take] at hi; omega
    have hj2 : j < n ∧ j < l.length := by rw [List.length_take] at hj; omega
    have ei : l.toArray[i]? = some ((l.take n)[i]) := by simp [hi2.2]
    have ej : l.toArray[j]? = some ((l.take n)[j]) := by simp [hj2.2]
    obtain ⟨o2, dd, h1, h2, h3, h4, h5, _, h7⟩ := okHead_spec (hH' i hi2.1)
    rw [ei] at h1
    have h1 := (Option.some.inj h1).symm
    subst h1
    refine ⟨fun d' hd' hx => ?_, fun e => ?_⟩
    · have := (h5 d' hx j (by omega) (by rw [dstOf, ej]; exact hd')).1
      omega
    · exact h7 j (by omega) (by omega) (by rw [dstOf, ej]; simp only [Option.bind_some]; rw [← e]; exact h3))
  obtain ⟨⟨x1, x2, x3⟩, _⟩ := hlex w (Below.refl _ _)
  have hdl : d < A'.tmps.size := by rw [x2]; exact hdst n d (by rw [dstOf, hon]; exact hda)
  refine wp_region_any hm ?_
  have key := free_sound (P := P) (md := .any) (ops := l.toArray) (n := n) (d := d) (g := l.toArray.size - (n + 1)) (oa := l[n]'(by omega)) (O := O) (W := w) (a := a) (A' := A') (Q' := Q) hH' hon (by simpa using hA'.1.1) hda
    (fun e he hb => by have := Array.all_eq_true'.1 hA'.2 e he; rw [hb] at this; simpa using this) hrun
    (fun i hi => List.all_eq_true.1 hW i (List.mem_range.2 (by omega))) (fun t ht htn => by have := List.all_eq_true.1 hC t (List.mem_range.2 ht); simpa [show ¬ t ≤ n + 1 by omega] using this) hn hdl (fun i dd _ hi => by rw [x2]; exact hdst i dd hi)
    (fun v hv i o dd hi ho hdd w1 hw1 => (hlex v hv).2 o (by
      have hil : i < l.length := by omega
      have : l.toArray[i]? = some l[i] := by simp [hil]
      rw [ho] at this
      cases this
      exact List.mem_take_iff_getElem.2 ⟨i, by omega, rfl⟩) dd hdd w1 hw1)
    (fun b w' hb1 hb2 hb3 => by
      have := wpAny_of_seq (P := P) (md := .any) (ops := l.toArray) (Q' := Q) (l.drop (n + 1)) (n + 1) _ _ _ (fun j => by simp [List.getElem?_drop]) (by rw [show (l.drop (n + 1)).length = l.toArray.size - (n + 1) by simp]; exact hS) (hL b w' hb1 hb2 hb3)
      rwa [show (l.drop (n + 1)).length = l.toArray.size - (n + 1) by simp] at this)
    (n + 1) (Array.replicate l.toArray.size false) a { w with drawn := w.drawn + 1 }
    ⟨by simp, fun t _ ht => getD_in (by simpa using ht) (getD_replicate_false _ _), Below.drew (Below.refl _ _), x1.symm, x2.symm, fun t ht => ?_, fun i t _ hl _ => (by rw [getD_replicate_false] at hl; cases hl), fun hl => (by rw [getD_replicate_false] at hl; cases hl)⟩
    (by
      have : ∀ m, cntF (Array.replicate l.toArray.size false) m = m := fun m => by
        induction m with
        | zero => rfl
        | succ m ih => simp only [cntF, ih, getD_replicate_false]; rfl
      exact this _)
  · rwa [show n + 1 + (l.toArray.size - (n + 1)) = l.toArray.size by omega] at key
  · refine (x3 t fun o ho e => ?_).symm
    obtain ⟨i, hi, ei⟩ := hidx o ho
    exact ht i (by omega) (by rw [dstOf, ei]; exact e)

theorem wp_region_free_ex {id : Nat} {Q : Exit → Act → World → Prop} {a : Act} {w : World} {l : List Oper} (n d : Nat) (O : Obj) (hm : P.follows .mixedOrders = true) (hB : freeB .any l.toArray n = true) (hD : dstsB l a.tmps.size = true)
    (hoa : ∀ oa, l[n]? = some oa → oa.dst = some d ∧ ∀ ρ w, (execOp ρ oa).run P w = .ok (.value (.pointer (some ⟨w.heap.size, 0, none⟩))) (w.alloc O))
    (h : ∃ A' : Act, (∀ v, Below w.heap.size w v → wpQuiet P l.toArray (fun w' => ∃ p : Regrown, w' = Go.Sort.grow (redrawn v p.d) p.os) (fun x => x = A') (l.take n) a) ∧
      ∀ b w', Below w.heap.size w w' → w.heap.size ≤ b → w'.heap[b]? = some O → wpList P l.toArray Q (l.drop (n + 1)) (A'.put (some d) (.pointer (some ⟨b, 0, none⟩))) w') : (Code.region id l.toArray true).wp P Q a w := by
  obtain ⟨A', h1, h2⟩ := h
  exact wp_region_free n d O hm hB hD hoa h1 h2

/-- Operations that only read or call (the callees may make memory), and a forced end. -/
theorem wp_region_below_tail {id : Nat} {Q : Exit → Act → World → Prop} {a : Act} {w : World} {l : List Oper} (n : Nat) (hm : P.follows .mixedOrders = true) (hB : Region.lexTailB .any l.toArray n = true)
    (h : wpQuiet P l.toArray (fun w' => ∃ p : Regrown, w' = Go.Sort.grow (redrawn w p.d) p.os) (fun a' => ∀ w', Below w.heap.size w w' → wpList P l.toArray Q (l.drop n) a' w') (l.take n) a) : (Code.region id l.toArray true).wp P Q a w := by
  simp only [Region.lexTailB, Bool.and_eq_true, decide_eq_true_eq] at hB
  obtain ⟨⟨⟨⟨hsel, hn⟩, hs⟩, hc⟩, hlex⟩ := hB
  have hn' : n < l.length := by simpa using hn
  have htl : (l.take n).length = n := by simp; omega
  have hdl : (l.drop n).length = l.toArray.size - n := by simp
  have inv0 : HeadInv .any l.toArray n (Array.replicate l.toArray.size false) :=
    ⟨by simp, fun j oj _ hl => (by rw [getD_replicate_false] at hl; cases hl), fun t _ ht => getD_in (by simpa using ht) (getD_replicate_false _ _)⟩
  have H := wpAnyM_lex (md := .any) (g := l.toArray.size - n) hsel hs hc hn (l.take n) 0 _ a (fun j hj => by
    have hj' : j < n := by rw [htl] at hj; exact hj
    simp [hj']) (by simpa using htl) inv0 (by rw [htl]; exact hlex) h
  refine wp_region_any hm ?_
  have := wpAny_of_headM (Q' := Q) (g := l.toArray.size - n) (fun listed a' w' hw' hL => by
    have := wpAny_of_seq (md := .any) (Q' := Q) (l.drop n) n listed a' w' (fun j => by simp [List.getElem?_drop]) (by rw [hdl]; exact hL.1) (hL.2 w' (grn_below hw'))
    rwa [hdl] at this) _ _ _ { w with drawn := w.drawn + 1 } (grn_of (Below.drew (Below.refl _ _))) H
  rw [htl, show n + (l.toArray.size - n) = l.toArray.size by omega] at this
  exact this
/-- The same without an end. -/
theorem wp_region_below {id : Nat} {Q : Exit → Act → World → Prop} {a : Act} {w : World} {l : List Oper} (hm : P.follows .mixedOrders = true) (hB : Region.lexB .any l.toArray = true)
    (h : wpQuiet P l.toArray (fun w' => ∃ p : Regrown, w' = Go.Sort.grow (redrawn w p.d) p.os) (fun a' => ∀ w', Below w.heap.size w w' → Q .normal a' w') l a) : (Code.region id l.toArray true).wp P Q a w :=
  wp_region_quiet (C := Grn w) hm hB (grn_of (Below.drew (Below.refl _ _))) (by
    have : (fun a' => ∀ w', Below w.heap.size w w' → Q .normal a' w') = fun a' => ∀ w', Grn w w' → Q .normal a' w' := by
      funext a'
      exact propext ⟨fun h w' hw' => h w' (grn_below hw'), fun h w' hw' => h w' (grn_of hw')⟩
    rw [this] at h
    exact h)
theorem calls_grn {f : FuncId} {args : Array Value} {v : World} {d : Nat} {os : Array Obj} {u : Value} (h : ∀ w, Calls P f args w fun e w' => e = .returned u ∧ Below w.heap.size w w') :
    Calls P f args (Go.Sort.grow (redrawn v d) os) fun e w'' => e = .returned u ∧ ∃ p : Regrown, w'' = Go.Sort.grow (redrawn v p.d) p.os := Calls.regrown_of (h _)
theorem calls_grn' {f : FuncId} {args : Array Value} {v : World} {d : Nat} {os : Array Obj} {u : Value} (h : ∀ w, Below v.heap.size v w → Calls P f args w fun e w' => e = .returned u ∧ Below w.heap.size w w') :
    Calls P f args (Go.Sort.grow (redrawn v d) os) fun e w'' => e = .returned u ∧ ∃ p : Regrown, w'' = Go.Sort.grow (redrawn v p.d) p.os := Calls.regrown_of (h _ (below_regrown ..))
theorem cell_grn {w v : World} {b o : Nat} {x : Value} (hv : Below w.heap.size w v) (hb : b < w.heap.size) (h : w.cell? ⟨b, o, none⟩ = some x) : ∀ d os, (Go.Sort.grow (redrawn v d) os).cell? ⟨b, o, none⟩ = some x :=
  fun d os => cell_regrown ((hv.cell (p := ⟨b, o, none⟩) hb).trans h) d os
end
end Go.Proofs.Ytgageljahebjnaa
