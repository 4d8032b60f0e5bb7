/- A region in the text's order; code; functions: the rules by which a walk goes. -/
import Derived.Test.YtcmakpkdliiigaaFh
import Derived.Deep.LoopGhost
namespace Go.Fw
set_option maxHeartbeats 8000000
set_option linter.all false
open Go

variable {P : Program} {w w0 : World} {O O0 D0 : Nat → Prop} {H : AH} {s : St} {a : Act} {n : Nat} {t : TypeId}

theorem Heap.then {w' : World} {O' : Nat → Prop} {H' : AH} (h : Heap w0 O0 D0 w O H) (k : Heap w O (Fw.dom H) w' O' H') : Heap w0 O0 D0 w' O' H' where
  ext := h.ext.trans k.ext fun b hb hd => by
    obtain ⟨o, ho⟩ := hd
    exact (h.dom b o ho).2 hb
  bound := k.bound
  dom := fun b o ho => ⟨(k.dom b o ho).1, fun hb => by
    obtain ⟨o', ho'⟩ := (k.dom b o ho).2 (Nat.lt_of_lt_of_le hb h.ext.size)
    exact (h.dom b o' ho').2 hb⟩
  rep := k.rep

theorem dom_own (h : Heap w0 O0 D0 w O H) (b : Nat) (hb : Fw.dom H b) : O b := by
  obtain ⟨o, ho⟩ := hb
  exact (h.dom b o ho).1

/-- A call of a function by a contract. -/
theorem call_wp {o : Oper} {f : FuncId} {args : List AV} {vs : List Value} {K : AV → AH → Prop} {next : Act → World → Prop} {Q : Exit → Act → World → Prop} (hH : Heap w0 O0 D0 w O H) (hc : CallOK P f args H K)
    (hl : args.length = vs.length) (hr : ∀ (i : Nat) x y, args[i]? = some x → vs[i]? = some y → Rep w O x y) (hrun : (execOp a.eval o).run P w = (callFunc f vs.toArray).run P w)
    (hk : ∀ x H' w' O' y, K x H' → Heap w0 O0 D0 w' O' H' → Ext w O O w' O' → Rep w' O' x y → next (a.put o.dst y) w') : o.wp P a w next Q := by
  obtain ⟨⟨fn, hfn, hname, hbody⟩, hcall⟩ := hc
  unfold Oper.wp
  rw [hrun]
  have : (callFunc f vs.toArray).run P w = .ok (.enter f vs.toArray) w := by
    have h1 : ¬ (fn.name == "runtime.NumGoroutine") = true := by rw [hname]; exact Bool.false_ne_true
    have h2 : ¬ fn.body.isNone = true := by rw [hbody]; exact Bool.false_ne_true
    simp only [callFunc, Sem.run_bind, run_program, Result.andThen_ok, hfn]
    rw [if_neg h1, if_neg h2]
    rfl
  rw [this, Oper.upon_enter]
  refine (hcall w O vs hH.bound (fun b o hb => ⟨(hH.dom b o hb).1, hH.rep b o hb⟩) hl hr).mono ?_
  rintro e w' ⟨x, H', O', y, rfl, h1, h2, h3⟩
  exact hk x H' w' O' y h1 (hH.then h2) (h2.ext.all (dom_own hH)) h3

theorem gives_wp {o : Oper} {m : Sem Value} {K : AV → Prop} {next : Act → World → Prop} {Q : Exit → Act → World → Prop} (hg : Gives P w O K m) (hex : execOp a.eval o = (do pure (.value (← m))))
    (hk : ∀ x y, K x → Rep w O x y → next (a.put o.dst y) w) : o.wp P a w next Q := by
  obtain ⟨x, y, h1, h2, h3⟩ := hg
  unfold Oper.wp
  rw [hex]
  simp only [Sem.run_bind, h3, Result.andThen_ok, Sem.run_pure, Oper.upon_value]
  exact hk x y h1 h2

theorem makes_wp {o : Oper} {m : Sem Value} {K : AV → AH → Prop} {next : Act → World → Prop} {Q : Exit → Act → World → Prop} (hg : Makes P w0 O0 D0 w O K m) (hex : execOp a.eval o = (do pure (.value (← m))))
    (hk : ∀ x H' w' O' y, K x H' → Heap w0 O0 D0 w' O' H' → Ext w O O w' O' → Rep w' O' x y → next (a.put o.dst y) w') : o.wp P a w next Q := by
  obtain ⟨x, H', O', y, w', h1, h2, h3, h4, h5⟩ := hg
  unfold Oper.wp
  rw [hex]
  simp only [Sem.run_bind, h2, Result.andThen_ok, Sem.run_pure, Oper.upon_value]
  exact hk x H' w' O' y h1 h3 h4 h5

theorem aop_sound {o : Oper} {K : AV → AH → Prop} {next : Act → World → Prop} {Q : Exit → Act → World → Prop} (hm : Mod w0 O0 D0 n s H a w O) (h : aop P o.op s H K)
    (hk : ∀ x H' w' O' y, K x H' → Heap w0 O0 D0 w' O' H' → Ext w O O w' O' → Rep w' O' x y → next (a.put o.dst y) w') : o.wp P a w next Q := by
  have same : ∀ x y, K x H → Rep w O x y → next (a.put o.dst y) w := fun x y h1 h2 => hk x H w O y h1 hm.heap (Ext.refl w O O) h2
  obtain ⟨dst, op, type, pos, after, guard⟩ := o
  cases op <;> simp only [aop] at h
  case move x => exact gives_wp (Gives.pure (K := (K · H)) h (hm.ev x)) rfl same
  case assign x => exact gives_wp (Gives.pure (K := (K · H)) h (hm.ev x)) rfl same
  case pick c x y => exact gives_wp (pick_ok h (hm.ev c) (hm.ev x) (hm.ev y)) (by simp [execOp]) same
  case nilCheck x =>
    obtain ⟨hk', hv⟩ := nil_ok h (hm.ev x)
    refine gives_wp (m := Pure.pure (a.eval x)) (Gives.pure (K := (K · H)) hk' (hm.ev x)) ?_ same
    rcases hv with ⟨p, hp⟩ | ⟨f, cs, hp⟩ <;> simp [execOp, hp]
  case binOp op t x y yt => exact gives_wp (bin_ok (ox := x) (oy := y) h (hm.ev x) (hm.ev y)) rfl same
  case unOp op t x => exact gives_wp (un_ok h (hm.ev x)) rfl same
  case convert c d x => exact gives_wp (conv_ok h (hm.ev x)) rfl same
  case load t x => exact gives_wp (load_ok h (hm.ev x) hm.heap.holds) rfl same
  case store t x y =>
    obtain ⟨H', w', h1, h2, h3, h4⟩ := store_ok (P := P) h (hm.ev x) (hm.ev y) hm.heap
    unfold Oper.wp
    simp only [execOp, Sem.run_bind, h2, Result.andThen_ok, Sem.run_pure, Oper.upon_skip]
    exact hk _ _ _ _ _ h1 h3 h4 (.junk _)
  case fieldAddr t x f => exact gives_wp (fld_ok h (hm.ev x)) rfl same
  case field t x f => exact gives_wp (field_ok h (hm.ev x)) rfl same
  case indexAddr t x i => exact gives_wp (idx_ok h (hm.ev x) (hm.ev i)) rfl same
  case index t x i => exact gives_wp (index_ok h (hm.ev x) (hm.ev i)) rfl same
  case slice t x lo hi mx => exact gives_wp (slice_ok h hm (hm.ev x)) rfl same
  case makeSlice t l c => exact makes_wp (make_ok h (hm.ev l) (hm.ev c) hm.heap) rfl hk
  case build t ps => exact gives_wp (build_ok h hm) rfl same
  case buildSlice t k ps => exact makes_wp (buildS_ok h hm) rfl fun x H' w' O' y hx => by obtain ⟨hx, rfl⟩ := hx; exact hk x _ w' O' y hx
  case box t x => exact makes_wp (box_ok h (hm.ev x) hm.heap) rfl hk
  case alloc t => exact makes_wp (alloc_ok h hm.heap) rfl hk
  case extract x i => exact gives_wp (ext_ok h (hm.ev x)) rfl same
  case makeFunc f first cs =>
    cases f <;> simp only [aop] at h
    rename_i f
    obtain ⟨rfl, h⟩ := h
    refine gives_wp (m := Pure.pure (.func (.func f) #[] (cs.toList.map a.eval).toArray)) (Gives.pure (K := (K · H)) h (.clo f _ _ (by simp) ?_)) (by simp only [execOp, Instr.makeFunc, toArray_map, Array.map_empty]) same
    intro i x y hx hy
    rw [List.getElem?_map] at hx hy
    cases hq : cs.toList[i]? with
    | none => rw [hq] at hx; cases hx
    | some q =>
      rw [hq] at hx hy
      simp only [Option.map_some, Option.some.injEq] at hx hy
      subst hx hy
      exact hm.ev q
  case call c =>
    obtain ⟨callee, args, ats⟩ := c
    unfold acall at h
    cases callee with
    | value f =>
      simp only at h
      split at h
      · rename_i g cs hg
        have hev := hm.ev f
        rw [hg] at hev
        generalize hvf : a.eval f = vf at hev
        cases hev with
        | clo f' cs' vs hl hr =>
          refine call_wp (vs := args.toList.map a.eval ++ vs) hm.heap h (by simp [hl]) ?_ ?_ hk
          · intro i x y hx hy
            rw [List.getElem?_append] at hx hy
            simp only [List.length_map] at hx hy
            split at hx
            · rename_i hlt
              rw [if_pos hlt] at hy
              rw [List.getElem?_map] at hx hy
              cases hq : args.toList[i]? with
              | none => rw [hq] at hx; cases hx
              | some q =>
                rw [hq] at hx hy
                simp only [Option.map_some, Option.some.injEq] at hx hy
                subst hx hy
                exact hm.ev q
            · rename_i hge
              rw [if_neg hge] at hy
              exact hr _ _ _ hx hy
          · have harr : args.map a.eval ++ vs.toArray = (args.toList.map a.eval ++ vs).toArray := by
              apply Array.ext'
              simp
            simp [execOp, resolve, hvf, Deferred.ofValue, invoke, harr]
      · exact h.elim
    | invoke r m => exact h.elim
    | builtin b =>
      cases b <;> simp only at h
      case len =>
        split at h
        · rename_i u x hu hx
          exact gives_wp (len_ok (ty := type) (ts := ats) (r := args.map a.eval) h (hm.ev x) hu (by simp [hx])) (by simp [execOp, resolve, invoke, builtin]) same
        · exact h.elim
      case append =>
        split at h
        · rename_i d x hd hx
          exact makes_wp (app_ok (ty := type) (ts := ats) (r := args.map a.eval) h (hm.ev d) (hm.ev x) hm.heap (by simp [hd]) (by simp [hx])) (by simp [execOp, resolve, invoke, builtin]) hk
        · exact h.elim

end Go.Fw
