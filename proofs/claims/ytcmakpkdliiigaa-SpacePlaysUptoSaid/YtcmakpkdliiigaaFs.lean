/- A region whose order Go leaves open: one step, and the whole. -/
import Derived.Test.YtcmakpkdliiigaaFr
namespace Go.Fw
set_option maxHeartbeats 8000000
set_option linter.all false
open Go

variable {P : Program} {w w0 : World} {O O0 D0 : Nat → Prop} {H : AH} {s s' : St} {a : Act} {n : Nat} {t : TypeId}

theorem tail_after {M : List Nat} {listed : Array Bool} (cb : ∀ j, Lt listed j → ∀ k, (M.getD j 0).testBit k = true → Lt listed k) (i e : Nat) (hi : ∀ k, (M.getD i 0).testBit k = true → Lt listed k) :
    ∀ (r : List Item) (asy : List Nat) (e' : Nat), ok2 M (some e') asy r = true → (Lt listed e' → Lt listed e) → i ∈ r.map Item.i → Lt listed e
  | [], _, _, _, _, hm => by simp at hm
  | .a j :: r, asy, e', h, he, hm => by
    simp only [ok2, Bool.and_eq_true, after] at h
    rcases List.mem_cons.1 (show i ∈ j :: r.map Item.i from hm) with rfl | hm
    · exact he (hi e' h.1)
    · exact tail_after cb i e hi r _ e' h.2 he hm
  | .e j c :: r, asy, e', h, he, hm => by
    simp only [ok2, Bool.and_eq_true, after] at h
    rcases List.mem_cons.1 (show i ∈ j :: r.map Item.i from hm) with rfl | hm
    · exact he (hi e' h.1.1)
    · exact tail_after cb i e hi r _ j h.2 (fun hj => he (cb j hj e' h.1.1)) hm

theorem lt_set {listed : Array Bool} {i j : Nat} (hi : i < listed.size) : Lt (listed.setIfInBounds i true) j ↔ j = i ∨ Lt listed j := by
  unfold Lt
  simp only [Array.getD_eq_getD_getElem?]
  by_cases e : i = j
  · subst e; simp [hi]
  · rw [Array.getElem?_setIfInBounds_ne e]
    constructor
    · exact .inr
    · rintro (h | h)
      · exact absurd h.symm e
      · exact h

theorem item_eq {plan : List Item} (hn : (plan.map Item.i).Nodup) {x y : Item} (hx : x ∈ plan) (hy : y ∈ plan) (h : x.i = y.i) : x = y := by
  induction plan with
  | nil => cases hx
  | cons z l ih =>
    simp only [List.map_cons, List.nodup_cons] at hn
    rcases List.mem_cons.1 hx with e1 | hx' <;> rcases List.mem_cons.1 hy with e2 | hy'
    · rw [e1, e2]
    · exact absurd (List.mem_map.2 ⟨y, hy', by rw [← h, e1]⟩) hn.1
    · exact absurd (List.mem_map.2 ⟨x, hx', by rw [h, e2]⟩) hn.1
    · exact ih hn.2 hx' hy'

theorem ready_spec {ops : Array Oper} {listed : Array Bool} (hl : listed.size = ops.size) {i : Nat} (h : i ∈ Region.ready .any ops listed) : ∃ o, ops[i]? = some o ∧ ¬ Lt listed i ∧ ∀ k ∈ edges o, Lt listed k := by
  unfold Region.ready at h
  simp only [List.mem_filter, List.mem_range, Bool.and_eq_true, Bool.not_eq_true'] at h
  obtain ⟨hi, h1, h2⟩ := h
  cases ho : ops[i]? with
  | none => simp [ho] at h2
  | some o =>
    refine ⟨o, rfl, ?_, ?_⟩
    · unfold Lt
      rw [Array.getD_eq_getD_getElem?] at h1 ⊢
      rw [Array.getElem?_eq_getElem (by omega)] at h1 ⊢
      simp at h1 ⊢
      exact h1
    · intro k hk
      simp only [ho, Option.map_some, Option.getD_some] at h2
      unfold edges at hk
      obtain ⟨e, he, rfl⟩ := List.mem_map.1 hk
      obtain ⟨he1, he2⟩ := List.mem_filter.1 he
      have := Array.all_eq_true'.1 h2 e (by simpa using he1)
      simp only [he2, Bool.not_true, Bool.false_or] at this
      exact this

/-- One operation comes up. -/
theorem DI.step {ops : Array Oper} {M : List Nat} {plan : List Item} {K : St → AH → Prop} {listed : Array Bool} {Q : Exit → Act → World → Prop} {rest : List Item} (pf : PlanFacts P n ops.toList M plan)
    (h : DI P n ops M plan w0 O0 D0 K listed a w rest s H O) (hnrm : ∀ j r, rest ≠ .a j :: r) {i : Nat} (hi : i ∈ Region.ready .any ops listed) :
    wpOp P ops Q i (fun a' w' => ∃ rest s H O, DI P n ops M plan w0 O0 D0 K (listed.setIfInBounds i true) a' w' rest s H O) a w := by
  obtain ⟨o, ho, hnL, hed⟩ := ready_spec h.lsz hi
  have hol : ops.toList[i]? = some o := by simpa using ho
  have hiN : i < ops.size := (Array.getElem?_eq_some_iff.1 ho).1
  have hilst : i < listed.size := by rw [h.lsz]; exact hiN
  have hbits : ∀ k, (M.getD i 0).testBit k = true → Lt listed k := by
    intro k hk
    obtain ⟨e, he, hh⟩ := (mask_bit pf.mask hol k).1 hk
    rcases hh with rfl | hh
    · exact hed _ he
    · exact h.cb e (hed e he) k hh
  have hcb' : ∀ j, Lt (listed.setIfInBounds i true) j → ∀ k, (M.getD j 0).testBit k = true → Lt (listed.setIfInBounds i true) k := by
    intro j hj k hk
    rcases (lt_set hilst).1 hj with rfl | hj
    · exact (lt_set hilst).2 (.inr (hbits k hk))
    · exact (lt_set hilst).2 (.inr (h.cb j hj k hk))
  have hlsz' : (listed.setIfInBounds i true).size = ops.size := by simp [h.lsz]
  -- what it looks at is there
  have hmod : Mod w0 O0 D0 n (s.keep (looks ops.toList o)) H a w O := by
    refine ⟨h.heap, h.defers, h.size, fun t => ?_⟩
    by_cases ht : t ∈ looks ops.toList o
    · rw [St.get_keep_mem s _ t ht]
      rcases h.tmps t with ⟨j, p, hj1, hj2, hj3, hj4, hj5⟩ | hr
      · obtain ⟨_, hpl⟩ := h.pend j hj1 hj2 hj3
        obtain ⟨p', d, hp', _, hd, _, hdl, hnm⟩ := pf.a j hpl
        have : p' = p := by
          have : ops.toList[j]? = some p := by simpa using hj4
          rw [hp'] at this; exact Option.some.inj this
        subst this
        rw [hj5] at hd
        cases hd
        by_cases hji : i = j
        · subst hji
          rw [hol] at hp'
          cases hp'
          exact absurd ht hdl
        · exact absurd (hbits j (hnm i o hol (by simp [names, ht]) hji)) hj3
      · exact hr
    · rw [St.get_keep_not s _ t ht]; exact .junk _
  obtain ⟨seen, last, asy, c1, c2, c3, c4, c5⟩ := h.ctx
  by_cases hir : i ∈ rest.map Item.i
  · -- it is the next that does more
    match rest, hnrm, h, hir, c1, c2, c3 with
    | [], _, _, hir, _, _, _ => simp at hir
    | .a j :: r, hnrm, _, _, _, _, _ => exact absurd rfl (hnrm j r)
    | .e i0 chk :: r, hnrm, h, hir, c1, c2, c3 =>
      simp only [ok2, Bool.and_eq_true] at c2
      have hi0 : i = i0 := by
        rcases List.mem_cons.1 (show i ∈ i0 :: r.map Item.i from hir) with h' | h'
        · exact h'
        · have := tail_after h.cb i i0 hbits r asy i0 c2.2 id h'
          exact absurd (by simp [Item.i]) (h.lst i0 this)
      subst hi0
      have hreg := h.reg
      simp only [aregD, hol] at hreg
      obtain ⟨hin, g, hg, h1, h0⟩ := hreg
      simp only [ok1, Item.i, hol, Bool.and_eq_true] at c1
      have hnd := List.nodup_cons.1 (show (i :: r.map Item.i).Nodup from h.nd)
      have his : i ∉ seen := fun hs => ((c3 i).1 hs).2 (by simp [Item.i])
      have hpl : Item.e i chk ∈ plan := h.sub _ (by simp)
      -- the rest of the state, whatever came
      have build : ∀ (x : AV) (H' : AH) (w' : World) (O' : Nat → Prop) (y : Value), aregD P n ops.toList r (s.put o.dst x) H' K → (∀ q, q ∈ chk → q < ops.size → q ∉ (Item.e i chk :: r).map Item.i → ¬ Lt listed q → fit P ops.toList (s.put o.dst x) H' q) →
          Heap w0 O0 D0 w' O' H' → Ext w O O w' O' → Rep w' O' x y → ∃ rest s H O, DI P n ops M plan w0 O0 D0 K (listed.setIfInBounds i true) (a.put o.dst y) w' rest s H O := by
        intro x H' w' O' y hreg' hfit hH' hext hrep
        refine ⟨r, s.put o.dst x, H', O', hreg', ⟨i :: seen, some i, asy, c1.2, c2.2, ?_, ?_, ?_⟩, fun it hit => h.sub it (by simp [hit]), hnd.2, hH', ?_, ?_, hlsz', ?_, hcb', ?_, ?_⟩
        · intro k
          rw [List.mem_cons, c3 k]
          constructor
          · rintro (rfl | ⟨hk1, hk2⟩)
            · exact ⟨pf.allIn k (by simpa using hiN), hnd.1⟩
            · exact ⟨hk1, fun hk => hk2 (by simp; right; simpa using hk)⟩
          · rintro ⟨hk1, hk2⟩
            by_cases e : k = i
            · exact .inl e
            · exact .inr ⟨hk1, fun hk => by
                rcases List.mem_cons.1 (show k ∈ i :: r.map Item.i from hk) with hk | hk
                · exact e hk
                · exact hk2 hk⟩
        · intro k hk1 hk2
          rcases List.mem_cons.1 hk2 with rfl | hk2
          · have := item_eq pf.nodup hk1 hpl rfl
            cases this
          · exact c4 k hk1 hk2
        · intro k hk m hm
          rcases List.mem_cons.1 hk with rfl | hk
          · obtain ⟨e, he, hh⟩ := (mask_bit pf.mask hol m).1 hm
            have hes : e ∈ seen := by simpa using List.all_eq_true.1 c1.1 e he
            rcases hh with rfl | hh
            · exact List.mem_cons_of_mem _ hes
            · exact List.mem_cons_of_mem _ (c5 e hes m hh)
          · exact List.mem_cons_of_mem _ (c5 k hk m hm)
        · cases o.dst <;> exact h.defers
        · cases o.dst with
          | none => exact h.size
          | some d => show (a.tmps.setIfInBounds d y).size = n; simp [h.size]
        · intro k hk hmem
          rcases (lt_set hilst).1 hk with rfl | hk
          · exact hnd.1 hmem
          · exact h.lst k hk (by simp; right; simpa using hmem)
        · intro k hkN hkr hkL
          have hki : k ≠ i := fun e => hkL ((lt_set hilst).2 (.inl e))
          have hkL0 : ¬ Lt listed k := fun e => hkL ((lt_set hilst).2 (.inr e))
          have hk0 : k ∉ (Item.e i chk :: r).map Item.i := fun hk => by
            rcases List.mem_cons.1 (show k ∈ i :: r.map Item.i from hk) with hk | hk
            · exact hki hk
            · exact hkr hk
          obtain ⟨_, p2⟩ := h.pend k hkN hk0 hkL0
          have hks : k ∈ seen := (c3 k).2 ⟨pf.allIn k (by simpa using hkN), hk0⟩
          have hka := c4 k p2 hks
          have := List.all_eq_true.1 c2.1.2 k hka
          simp only [Bool.or_eq_true] at this
          rcases this with hb | hc
          · exact absurd (hbits k hb) hkL0
          · exact ⟨hfit k (by simpa using hc) hkN hk0 hkL0, p2⟩
        · intro t
          have hother : (∃ j p, j < ops.size ∧ j ∉ (Item.e i chk :: r).map Item.i ∧ ¬ Lt listed j ∧ ops[j]? = some p ∧ p.dst = some t) → (∃ j p, j < ops.size ∧ j ∉ r.map Item.i ∧ ¬ Lt (listed.setIfInBounds i true) j ∧ ops[j]? = some p ∧ p.dst = some t) := by
            rintro ⟨j, p, hj1, hj2, hj3, hj4, hj5⟩
            refine ⟨j, p, hj1, fun hk => hj2 (by simp; right; simpa using hk), fun hk => ?_, hj4, hj5⟩
            rcases (lt_set hilst).1 hk with rfl | hk
            · exact hj2 (by simp [Item.i])
            · exact hj3 hk
          cases hd : o.dst with
          | none =>
            rcases h.tmps t with hp | hr
            · exact .inl (hother hp)
            · exact .inr (hr.ext hext fun _ h => h)
          | some d =>
            rw [hd] at hin
            rw [St.get_put, getD_put a d t y (by rw [h.size]; exact hin)]
            by_cases e : d = t
            · rw [if_pos e, if_pos e]; exact .inr hrep
            · rw [if_neg e, if_neg e]
              rcases h.tmps t with hp | hr
              · exact .inl (hother hp)
              · exact .inr (hr.ext hext fun _ h => h)
      refine exec_op ho hmod hg h1 ?_ ?_
      · intro x H' w' O' y _ hJ hH' hext hrep
        exact build x H' w' O' y hJ.2.out (fun q hq _ _ _ => fits_mem hJ.1 q hq) hH' hext hrep
      · intro hg0
        refine build .junk H w O undef (h0 hg0).out ?_ h.heap (Ext.refl w O O) (.junk _)
        intro q _ hqN hqr hqL
        obtain ⟨p1, p2⟩ := h.pend q hqN hqr hqL
        cases hd : o.dst with
        | none => exact p1
        | some d =>
          obtain ⟨oq, dq, hoq, _⟩ := pf.a q p2
          refine fit_congr hoq (names_put fun hn => ?_) p1
          have hqs : q ∈ seen := (c3 q).2 ⟨pf.allIn q (by simpa using hqN), hqr⟩
          have hqi : q ≠ i := fun e => hqr (by simp [e, Item.i])
          rcases pf.e i chk o d hpl hol hd q oq hoq hn hqi with hb | hb
          · exact his (c5 q hqs i hb)
          · exact hqL (hbits q hb)
  · -- it was walked already
    obtain ⟨hf, hpl⟩ := h.pend i hiN hir hnL
    obtain ⟨o', d, ho', has, hd, hdn, hdl, hnm⟩ := pf.a i hpl
    rw [hol] at ho'
    cases ho'
    unfold fit at hf
    rw [hol] at hf
    obtain ⟨g, hg, h1, h0⟩ := hf
    have build : ∀ (w' : World) (O' : Nat → Prop) (y : Value), Heap w0 O0 D0 w' O' H → Ext w O O w' O' → Rep w' O' (s.get d) y → d < n → ∃ rest s H O, DI P n ops M plan w0 O0 D0 K (listed.setIfInBounds i true) (a.put o.dst y) w' rest s H O := by
      intro w' O' y hH' hext hrep hdn
      rw [hd]
      refine ⟨rest, s, H, O', h.reg, h.ctx, h.sub, h.nd, hH', h.defers, by show (a.tmps.setIfInBounds d y).size = n; simp [h.size], hlsz', ?_, hcb', ?_, ?_⟩
      · intro k hk
        rcases (lt_set hilst).1 hk with rfl | hk
        · exact hir
        · exact h.lst k hk
      · intro k hkN hkr hkL
        exact h.pend k hkN hkr fun e => hkL ((lt_set hilst).2 (.inr e))
      · intro t
        rw [getD_put a d t y (by rw [h.size]; exact hdn)]
        by_cases e : d = t
        · subst e; rw [if_pos rfl]; exact .inr hrep
        · rw [if_neg e]
          rcases h.tmps t with ⟨j, p, hj1, hj2, hj3, hj4, hj5⟩ | hr
          · refine .inl ⟨j, p, hj1, hj2, fun hk => ?_, hj4, hj5⟩
            rcases (lt_set hilst).1 hk with rfl | hk
            · rw [ho] at hj4
              cases hj4
              rw [hd] at hj5
              cases hj5
              exact e rfl
            · exact hj3 hk
          · exact .inr (hr.ext hext fun _ h => h)
    refine exec_op ho hmod hg (J := fun x H' => (∀ d, o.dst = some d → s.get d = x) ∧ H' = H) ?_ ?_ ?_
    · intro e
      obtain ⟨x, hx, hdet⟩ := async_det has (h1 e)
      exact hdet _ ⟨hx, rfl⟩
    · intro x H' w' O' y _ hJ hH' hext hrep
      obtain ⟨hx, rfl⟩ := hJ
      exact build w' O' y hH' hext (by rw [hx d hd]; exact hrep) hdn
    · intro e
      exact build w O undef h.heap (Ext.refl w O O) (by rw [h0 e d hd]; exact .junk _) hdn

theorem listed_all {ops : Array Oper} {listed : Array Bool} (hl : listed.size = ops.size) (hr : Region.ready .any ops listed = []) : ∀ (pl : List Item) (seen : List Nat), ok1 ops.toList seen pl = true → (∀ k ∈ seen, Lt listed k) →
    ∀ it ∈ pl, Lt listed it.i
  | [], _, _, _, it, hit => by cases hit
  | x :: r, seen, h, hs, it, hit => by
    simp only [ok1, Bool.and_eq_true] at h
    obtain ⟨h1, h2⟩ := h
    cases ho : ops.toList[x.i]? with
    | none => simp [ho] at h1
    | some o =>
      simp only [ho] at h1
      have hx : Lt listed x.i := by
        rcases Bool.eq_false_or_eq_true (listed.getD x.i false) with hq | hq
        · exact hq
        · exfalso
          have hiN : x.i < ops.size := by simpa using (List.getElem?_eq_some_iff.1 ho).1
          have ho' : ops[x.i]? = some o := by simpa using ho
          have : x.i ∈ Region.ready .any ops listed := by
            unfold Region.ready
            simp only [List.mem_filter, List.mem_range, Bool.and_eq_true, Bool.not_eq_true']
            refine ⟨hiN, ?_, ?_⟩
            · rw [Array.getD_eq_getD_getElem?] at hq ⊢
              rw [Array.getElem?_eq_getElem (by omega)] at hq ⊢
              simpa using hq
            · simp only [ho', Option.map_some, Option.getD_some]
              refine Array.all_eq_true'.2 fun e he => ?_
              by_cases hb : Region.binds .any e = true
              · have hk : e.on ∈ edges o := List.mem_map.2 ⟨e, List.mem_filter.2 ⟨by simpa using he, hb⟩, rfl⟩
                have := List.all_eq_true.1 h1 _ hk
                have hl := hs _ (by simpa using this)
                unfold Lt at hl
                simp [hb, hl]
              · simp [hb]
          rw [hr] at this
          cases this
      rcases List.mem_cons.1 hit with rfl | hit
      · exact hx
      · exact listed_all hl hr r (x.i :: seen) h2 (fun k hk => (List.mem_cons.1 hk).elim (fun e => e ▸ hx) (hs k)) it hit

def cnt (N : Nat) (listed : Array Bool) : Nat := ((List.range N).filter fun i => !listed.getD i false).length

theorem filter_lt {p q : Nat → Bool} (hpq : ∀ x, q x = true → p x = true) {i : Nat} : ∀ {l : List Nat}, i ∈ l → p i = true → q i = false → (l.filter q).length < (l.filter p).length := by
  intro l
  induction l with
  | nil => intro h; cases h
  | cons x l ih =>
    intro h hp hq
    have hle : ∀ l : List Nat, (l.filter q).length ≤ (l.filter p).length := by
      intro l
      induction l with
      | nil => exact Nat.le_refl _
      | cons y l ih =>
        simp only [List.filter_cons]
        cases hqy : q y with
        | true => rw [hpq y hqy]; simpa using ih
        | false => cases p y <;> simp <;> omega
    rcases List.mem_cons.1 h with rfl | h
    · simp only [List.filter_cons, hp, hq]
      have := hle l
      simp; omega
    · have := ih h hp hq
      simp only [List.filter_cons]
      cases hqx : q x with
      | true => rw [hpq x hqx]; simpa using this
      | false => cases p x <;> simp <;> omega

/-- Whatever order comes up. -/
theorem any_order {ops : Array Oper} {M : List Nat} {plan : List Item} {K : St → AH → Prop} {Q : Exit → Act → World → Prop} (pf : PlanFacts P n ops.toList M plan) (hQ : ∀ s H a w O, K s H → Mod w0 O0 D0 n s H a w O → Q .normal a w) :
    ∀ (fuel : Nat) (listed : Array Bool) (a : Act) (w : World) (rest : List Item) (s : St) (H : AH) (O : Nat → Prop), cnt ops.size listed ≤ fuel → DI P n ops M plan w0 O0 D0 K listed a w rest s H O → wpAny P .any ops Q fuel listed a w := by
  have fin : ∀ (listed : Array Bool) (a : Act) (w : World) (rest : List Item) (s : St) (H : AH) (O : Nat → Prop), Region.ready .any ops listed = [] → DI P n ops M plan w0 O0 D0 K listed a w rest s H O → Q .normal a w := by
    intro listed a w rest s H O hr h
    have hall : ∀ i, i < ops.size → Lt listed i := by
      intro i hi
      obtain ⟨it, h1, h2⟩ := List.mem_map.1 (pf.allIn i (by simpa using hi))
      exact h2 ▸ listed_all h.lsz hr plan [] pf.o1 (fun k hk => by cases hk) it h1
    have hrest : rest = [] := by
      cases rest with
      | nil => rfl
      | cons it r =>
        exfalso
        have hp := h.sub it (by simp)
        have := listed_all h.lsz hr plan [] pf.o1 (fun k hk => by cases hk) it hp
        exact h.lst _ this (by simp)
    subst hrest
    refine hQ s H a w O h.reg ⟨h.heap, h.defers, h.size, fun t => ?_⟩
    rcases h.tmps t with ⟨j, p, hj1, hj2, hj3, hj4, hj5⟩ | hr
    · exact absurd (hall j hj1) hj3
    · exact hr
  intro fuel
  induction fuel with
  | zero =>
    intro listed a w rest s H O hc h
    have hr : Region.ready .any ops listed = [] := by
      cases hq : Region.ready .any ops listed with
      | nil => rfl
      | cons i r =>
        exfalso
        obtain ⟨o, ho, hn, _⟩ := ready_spec h.lsz (show i ∈ Region.ready .any ops listed by rw [hq]; simp)
        have hiN : i < ops.size := (Array.getElem?_eq_some_iff.1 ho).1
        have : i ∈ (List.range ops.size).filter fun i => !listed.getD i false := by
          simp only [List.mem_filter, List.mem_range, hiN, true_and, Bool.not_eq_true']
          unfold Lt at hn
          simpa using hn
        have := List.length_pos_of_mem this
        unfold cnt at hc
        omega
    exact ⟨hr, fin listed a w rest s H O hr h⟩
  | succ fuel ih =>
    intro listed a w rest s H O hc h
    refine ⟨fun hr => fin listed a w rest s H O hr h, fun i hi => ?_⟩
    obtain ⟨rest', s', h', hnrm⟩ := DI.norm pf rest s h
    refine wpOp_mono ?_ (DI.step (Q := Q) pf h' hnrm hi)
    rintro a' w' ⟨rest2, s2, H2, O2, h2⟩
    refine ih _ a' w' rest2 s2 H2 O2 ?_ h2
    obtain ⟨o, ho, hn, _⟩ := ready_spec h.lsz hi
    have hiN : i < ops.size := (Array.getElem?_eq_some_iff.1 ho).1
    have hlt : cnt ops.size (listed.setIfInBounds i true) < cnt ops.size listed := by
      unfold cnt
      refine filter_lt (i := i) ?_ (List.mem_range.2 hiN) ?_ ?_
      · intro x hx
        simp only [Bool.not_eq_true'] at hx ⊢
        have : ¬ Lt (listed.setIfInBounds i true) x := by unfold Lt; rw [hx]; simp
        have h3 : ¬ Lt listed x := fun e => this ((lt_set (by rw [h.lsz]; exact hiN)).2 (.inr e))
        unfold Lt at h3
        simpa using h3
      · unfold Lt at hn
        simpa using hn
      · have : Lt (listed.setIfInBounds i true) i := (lt_set (by rw [h.lsz]; exact hiN)).2 (.inl rfl)
        unfold Lt at this
        simp [this]
    omega

/-- A region whose order Go leaves open. -/
theorem W_draw {id : Nat} {ops : Array Oper} {K : Exit → St → AH → Prop} (M : List Nat) (plan : List Item) (hP : P.follows .mixedOrders = true) (hpl : planOk P n ops.toList M plan = true)
    (h : Hide (aregD P n ops.toList plan s H (fun s' H' => K .normal s' H'))) : W P n (.region id ops true) s H K := by
  refine ⟨fun w0 O0 D0 a w O hm => ?_⟩
  have pf := planFacts hpl
  refine wp_region_any hP ?_
  have hemp : ∀ j, ¬ Lt (Array.replicate ops.size false) j := by
    intro j hj
    unfold Lt at hj
    rw [Array.getD_eq_getD_getElem?, Array.getElem?_replicate] at hj
    split at hj <;> simp at hj
  have hidx : ∀ j, j < ops.size → j ∈ plan.map Item.i := fun j hj => pf.allIn j (by simpa using hj)
  refine any_order (K := fun s' H' => K .normal s' H') pf (fun s H a w O h1 h2 => ⟨s, H, O, h1, h2⟩) ops.size _ a _ plan s H O ?_ ?_
  · unfold cnt
    have := List.length_filter_le (fun i => !(Array.replicate ops.size false).getD i false) (List.range ops.size)
    simpa using this
  · refine ⟨h.out, ⟨[], none, [], pf.o1, pf.o2, ?_, (fun j _ hj => absurd hj (by simp)), (fun j hj => absurd hj (by simp))⟩, fun it hit => hit, pf.nodup, hm.heap.drew, hm.defers, hm.size, by simp, fun j hj => absurd hj (hemp j), fun j hj => absurd hj (hemp j), ?_, ?_⟩
    · intro j
      simp
    · intro j hj hn
      exact absurd (hidx j hj) hn
    · intro t
      exact .inr ((hm.tmps t).ext (Ext.drew w O) fun b hb => hb.elim)

end Go.Fw
