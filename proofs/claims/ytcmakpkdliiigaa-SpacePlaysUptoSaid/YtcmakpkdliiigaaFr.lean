/- A region whose order Go leaves open: the rounds. -/
import Derived.Test.YtcmakpkdliiigaaFq
namespace Go.Fw
set_option maxHeartbeats 8000000
set_option linter.all false
open Go

variable {P : Program} {w w0 : World} {O O0 D0 : Nat → Prop} {H : AH} {s s' : St} {a : Act} {n : Nat} {t : TypeId}

/-- What the look at a plan gives. -/
structure PlanFacts (P : Program) (n : Nat) (all : List Oper) (M : List Nat) (plan : List Item) : Prop where
  mask : maskOk all M = true
  nodup : (plan.map Item.i).Nodup
  allIn : ∀ i, i < all.length → i ∈ plan.map Item.i
  o1 : ok1 all [] plan = true
  o2 : ok2 M none [] plan = true
  a : ∀ i, Item.a i ∈ plan → ∃ o d, all[i]? = some o ∧ asyncOp P o.op = true ∧ o.dst = some d ∧ d < n ∧ d ∉ looks all o ∧ ∀ j p, all[j]? = some p → names all p d = true → j ≠ i → (M.getD j 0).testBit i = true
  e : ∀ i c o d, Item.e i c ∈ plan → all[i]? = some o → o.dst = some d → ∀ j p, all[j]? = some p → names all p d = true → j ≠ i → (M.getD j 0).testBit i = true ∨ (M.getD i 0).testBit j = true

theorem planFacts {all : List Oper} {M : List Nat} {plan : List Item} (h : planOk P n all M plan = true) : PlanFacts P n all M plan := by
  unfold planOk at h
  simp only [Bool.and_eq_true] at h
  obtain ⟨⟨⟨⟨⟨h1, h2⟩, h3⟩, h4⟩, h5⟩, h6⟩ := h
  refine ⟨h1, of_decide_eq_true h2, fun i hi => ?_, h4, h5, fun i hi => ?_, fun i c o d hi ho hd j p hj hn hne => ?_⟩
  · have := List.all_eq_true.1 h3 i (List.mem_range.2 hi)
    simpa using this
  · have := List.all_eq_true.1 h6 _ hi
    unfold ok3 at this
    cases ho : all[i]? with
    | none => simp [ho] at this
    | some o =>
      simp only [ho, Bool.and_eq_true] at this
      obtain ⟨t1, t2⟩ := this
      cases hd : o.dst with
      | none => simp [hd] at t2
      | some d =>
        simp only [hd, Bool.and_eq_true, Bool.not_eq_true'] at t2
        obtain ⟨⟨t0, t2⟩, t3⟩ := t2
        refine ⟨o, d, rfl, t1, hd, of_decide_eq_true t0, by simpa using t2, fun j p hj hn hne => ?_⟩
        have hjl : j < all.length := (List.getElem?_eq_some_iff.1 hj).1
        have := List.all_eq_true.1 t3 j (List.mem_range.2 hjl)
        simp only [hj, Option.any_some, hn, Bool.not_true, Bool.or_false, Bool.or_eq_true, beq_iff_eq] at this
        exact this.resolve_left hne
  · have := List.all_eq_true.1 h6 _ hi
    unfold ok3 at this
    simp only [ho, hd] at this
    have hjl : j < all.length := (List.getElem?_eq_some_iff.1 hj).1
    have := List.all_eq_true.1 this j (List.mem_range.2 hjl)
    simp only [hj, Option.any_some, hn, Bool.not_true, Bool.or_false, Bool.or_eq_true, beq_iff_eq] at this
    rcases this with (h | h) | h
    · exact absurd h hne
    · exact .inl h
    · exact .inr h

theorem names_put {all : List Oper} {o : Oper} {d : Nat} {x : AV} (h : names all o d ≠ true) : ∀ t, names all o t = true → s.get t = (s.put (some d) x).get t := by
  intro t ht
  rw [St.get_put]
  split
  · rename_i e; subst e; exact absurd ht h
  · rfl

theorem looks_put {all : List Oper} {o : Oper} {d : Nat} {x : AV} (h : d ∉ looks all o) : ∀ t ∈ looks all o, s.get t = (s.put (some d) x).get t := by
  intro t ht
  rw [St.get_put]
  split
  · rename_i e; subst e; exact absurd ht h
  · rfl

/-- What computes or reads is walked on to the next that does more. -/
theorem DI.norm {ops : Array Oper} {M : List Nat} {plan : List Item} {K : St → AH → Prop} {listed : Array Bool} (pf : PlanFacts P n ops.toList M plan) (rest : List Item) : ∀ (s : St), DI P n ops M plan w0 O0 D0 K listed a w rest s H O →
    ∃ rest s, DI P n ops M plan w0 O0 D0 K listed a w rest s H O ∧ ∀ j r, rest ≠ .a j :: r := by
  induction rest with
  | nil => intro s h; exact ⟨[], s, h, fun j r e => by cases e⟩
  | cons it r ih =>
    intro s h
    cases it with
    | e i chk => exact ⟨_, s, h, fun j r e => by cases e⟩
    | a j =>
      obtain ⟨o, d, ho, has, hd, _, hdl, hnm⟩ := pf.a j (h.sub _ (by simp))
      have hjN : j < ops.size := by simpa using (List.getElem?_eq_some_iff.1 ho).1
      have hreg := h.reg
      simp only [aregD, ho] at hreg
      obtain ⟨hin, g, hg, h1, h0⟩ := hreg
      obtain ⟨seen, last, asy, c1, c2, c3, c4, c5⟩ := h.ctx
      have hnd := List.nodup_cons.1 (show (j :: r.map Item.i).Nodup from h.nd)
      have hjs : j ∉ seen := fun hs => ((c3 j).1 hs).2 (by simp [Item.i])
      have hjL : ¬ Lt listed j := fun hL => h.lst j hL (by simp [Item.i])
      simp only [ok1, Item.i, ho, Bool.and_eq_true] at c1
      simp only [ok2, Bool.and_eq_true] at c2
      -- the new state, whatever the guard says
      have main : ∃ x, aregD P n ops.toList r (s.put (some d) x) H K ∧ fit P ops.toList (s.put (some d) x) H j := by
        cases g with
        | true =>
          obtain ⟨x, hx, hdet⟩ := async_det has (h1 rfl)
          rw [hd] at hx
          refine ⟨x, hx.out, ?_⟩
          unfold fit
          rw [ho]
          refine ⟨true, by rw [← gon_congr (looks_put hdl)]; exact hg, fun _ => ?_, fun e => by cases e⟩
          rw [← aop_congr (ev_looks (looks_put hdl))]
          refine hdet _ ?_
          intro d' hd'
          rw [hd] at hd'
          cases hd'
          rw [St.get_put, if_pos rfl]
        | false =>
          have := (h0 rfl).out
          rw [hd] at this
          refine ⟨.junk, this, ?_⟩
          unfold fit
          rw [ho]
          refine ⟨false, by rw [← gon_congr (looks_put hdl)]; exact hg, (fun e => by cases e), fun _ d' hd' => ?_⟩
          rw [hd] at hd'
          cases hd'
          rw [St.get_put, if_pos rfl]
      obtain ⟨x, hx, hfit⟩ := main
      refine ih (s.put (some d) x) ⟨hx, ⟨j :: seen, last, j :: asy, c1.2, c2.2, ?_, ?_, ?_⟩, fun it hit => h.sub it (by simp [hit]), hnd.2, h.heap, h.defers, h.size, h.lsz, ?_, h.cb, ?_, ?_⟩
      · intro k
        rw [List.mem_cons, c3 k]
        constructor
        · rintro (rfl | ⟨hk1, hk2⟩)
          · exact ⟨pf.allIn k (by simpa using hjN), hnd.1⟩
          · exact ⟨hk1, fun hk => hk2 (by simp [hk])⟩
        · rintro ⟨hk1, hk2⟩
          by_cases e : k = j
          · exact .inl e
          · exact .inr ⟨hk1, fun hk => by
              rcases List.mem_cons.1 (show k ∈ j :: r.map Item.i from hk) with hk | hk
              · exact e hk
              · exact hk2 hk⟩
      · intro k hk1 hk2
        rcases List.mem_cons.1 hk2 with rfl | hk2
        · simp
        · exact List.mem_cons_of_mem _ (c4 k hk1 hk2)
      · intro k hk m hm
        rcases List.mem_cons.1 hk with rfl | hk
        · obtain ⟨e, he, hh⟩ := (mask_bit pf.mask ho m).1 hm
          have hes : e ∈ seen := by simpa using List.all_eq_true.1 c1.1 e he
          rcases hh with rfl | hh
          · exact List.mem_cons_of_mem _ hes
          · exact List.mem_cons_of_mem _ (c5 e hes m hh)
        · exact List.mem_cons_of_mem _ (c5 k hk m hm)
      · intro k hk hmem
        exact h.lst k hk (by simp; right; simpa using hmem)
      · intro k hkN hkr hkL
        by_cases e : k = j
        · subst e
          exact ⟨hfit, h.sub _ (by simp)⟩
        · have hk0 : k ∉ (Item.a j :: r).map Item.i := fun hk => by
            rcases List.mem_cons.1 (show k ∈ j :: r.map Item.i from hk) with hk | hk
            · exact e hk
            · exact hkr hk
          obtain ⟨p1, p2⟩ := h.pend k hkN hk0 hkL
          obtain ⟨ok, dk, hok, _⟩ := pf.a k p2
          refine ⟨fit_congr hok (names_put fun hn => ?_) p1, p2⟩
          have hks : k ∈ seen := (c3 k).2 ⟨pf.allIn k (by simpa using hkN), hk0⟩
          exact hjs (c5 k hks j (hnm k ok hok hn e))
      · intro t
        by_cases e : d = t
        · subst e
          exact .inl ⟨j, o, hjN, hnd.1, hjL, by simpa using ho, hd⟩
        · rcases h.tmps t with ⟨k, ok, hk1, hk2, hk3, hk4, hk5⟩ | hr
          · exact .inl ⟨k, ok, hk1, fun hk => hk2 (by simp; right; simpa using hk), hk3, hk4, hk5⟩
          · refine .inr ?_
            rw [St.get_put, if_neg e]
            exact hr

end Go.Fw
