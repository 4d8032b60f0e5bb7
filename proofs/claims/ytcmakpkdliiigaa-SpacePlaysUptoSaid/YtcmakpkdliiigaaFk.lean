/- Functions: a contract out of the body. -/
import Derived.Test.YtcmakpkdliiigaaFj
namespace Go.Fw
set_option maxHeartbeats 8000000
set_option linter.all false
open Go

variable {P : Program} {w w0 : World} {O O0 D0 : Nat → Prop} {H : AH} {s : St} {a : Act} {n : Nat} {t : TypeId}

def argSt : Nat → List AV → St
  | _, [] => []
  | k, x :: r => (k, x) :: argSt (k + 1) r

theorem argSt_get : ∀ (l : List AV) (k t : Nat), (argSt k l).get t = if k ≤ t ∧ t < k + l.length then (l[t - k]?).getD .junk else .junk
  | [], k, t => by
    rw [if_neg (by simp; try omega)]; rfl
  | x :: r, k, t => by
    show (if k = t then x else (argSt (k + 1) r).get t) = _
    rw [argSt_get r (k + 1) t]
    simp only [List.length_cons]
    by_cases h : k = t
    · subst h; rw [if_pos rfl, if_pos (by omega)]; simp
    · rw [if_neg h]
      by_cases h2 : k + 1 ≤ t ∧ t < k + 1 + r.length
      · rw [if_pos h2, if_pos (by omega)]
        have : t - k = (t - (k + 1)) + 1 := by omega
        rw [this, List.getElem?_cons_succ]
      · rw [if_neg h2, if_neg (by omega)]

def ares (P : Program) : List ResultVar → St → AH → (List AV → Prop) → Prop
  | [], _, _, K => K []
  | .tmp t :: r, s, H, K => ares P r s H fun l => K (s.get t :: l)
  | .cell b t :: r, s, H, K => aload P t (s.get b) H fun x => ares P r s H fun l => K (x :: l)

def pack : List AV → AV
  | [x] => x
  | l => .tup l

def retK (P : Program) (rs : List ResultVar) (K : AV → AH → Prop) : Exit → St → AH → Prop
  | .normal, s, H => ares P rs s H fun l => K (pack l) H
  | .ret, s, H => ares P rs s H fun l => K (pack l) H
  | _, _, _ => False

def resOf (tmps : Array Value) : ResultVar → Sem Value
  | .tmp t => pure (tmps.getD t undef)
  | .cell a t => do loadVar t (← asAddr (tmps.getD a undef))

theorem ares_ok (hm : Mod w0 O0 D0 n s H a w O) : ∀ (rs : List ResultVar) (K : List AV → Prop), ares P rs s H K → ∃ l vs, K l ∧ l.length = vs.length ∧ l.length = rs.length ∧ (∀ (i : Nat) x y, l[i]? = some x → vs[i]? = some y → Rep w O x y) ∧ (rs.mapM (m := Sem) (resOf a.tmps)).run P w = .ok vs w
  | [], K, h => ⟨[], [], h, rfl, rfl, fun i x y hx => by simp at hx, rfl⟩
  | .tmp t :: r, K, h => by
    obtain ⟨l, vs, h1, h2, h3, h4, h5⟩ := ares_ok hm r _ h
    refine ⟨_, a.tmps.getD t undef :: vs, h1, by simp [h2], by simp [h3], ?_, ?_⟩
    · intro i x y hx hy
      match i with
      | 0 =>
        simp only [List.getElem?_cons_zero, Option.some.injEq] at hx hy
        subst hx hy; exact hm.tmps t
      | i + 1 => exact h4 i x y (by simpa using hx) (by simpa using hy)
    · simp only [List.mapM_cons, resOf, Sem.run_bind, Sem.run_pure, Result.andThen_ok, h5]
  | .cell b u :: r, K, h => by
    obtain ⟨e, f, bl, off, hk, hv, ⟨rw_⟩⟩ := row_ok h (hm.tmps b) hm.heap.holds
    obtain ⟨x, y, h1, h2, h3⟩ := cut_load hk rw_
    obtain ⟨l, vs, g1, g2, g3, g4, g5⟩ := ares_ok hm r _ h1
    refine ⟨_, y :: vs, g1, by simp [g2], by simp [g3], ?_, ?_⟩
    · intro i p q hp hq
      match i with
      | 0 => simp at hp hq; subst hp hq; exact h2
      | i + 1 => exact g4 i p q (by simpa using hp) (by simpa using hq)
    · simp only [List.mapM_cons, resOf, Sem.run_bind, hv, asAddr, Sem.run_pure, Result.andThen_ok, h3, g5]

theorem results_ok {fn : Func} {K : AV → Prop} (hm : Mod w0 O0 D0 n s H a w O) (h : ares P fn.results.toList s H fun l => K (pack l)) : Gives P w O K (results fn a.tmps) := by
  obtain ⟨l, vs, h1, h2, h3, h4, h5⟩ := ares_ok hm _ _ h
  have hrun : (results fn a.tmps).run P w = .ok (if h : vs.toArray.size = 1 then vs.toArray[0] else .tuple vs.toArray) w := by
    have he : results fn a.tmps = (do let vs ← fn.results.mapM (m := Sem) (resOf a.tmps); pure (if h : vs.size = 1 then vs[0] else .tuple vs)) := by
      unfold results
      congr 2
    rw [he, Array.mapM_eq_mapM_toList, map_eq_pure_bind]
    simp only [Sem.run_bind, h5]
    rfl
  refine ⟨_, _, h1, ?_, hrun⟩
  clear hrun h5 h1 h3
  match l, vs, h2, h4 with
  | [], [], _, h4 => exact .tup [] [] rfl h4
  | [x], [y], _, h4 => exact h4 0 x y rfl rfl
  | x :: x' :: l, y :: y' :: vs, h2, h4 =>
    have := Rep.tup (w := w) (O := O) (x :: x' :: l) (y :: y' :: vs) h2 h4
    simpa [pack] using this

theorem CallOK.of_body {f : FuncId} {fn : Func} {c : Code} {args : List AV} {K : AV → AH → Prop} (hf : P.funcs[f]? = some fn) (hname : (fn.name == "runtime.NumGoroutine") = false) (hb : fn.body = some c)
    (h : W P (args.length + (fn.ntmps - args.length)) c (argSt 0 args) H (retK P fn.results.toList K)) : CallOK P f args H K := by
  refine ⟨⟨fn, hf, hname, by rw [hb]; rfl⟩, fun w O vs hO hH hl hr => ?_⟩
  refine calls_of_wp hf hb ?_
  have hm : Mod w O (dom H) (args.length + (fn.ntmps - args.length)) (argSt 0 args) H { tmps := vs.toArray ++ Array.replicate (fn.ntmps - vs.toArray.size) undef, defers := [] } w O := by
    refine ⟨⟨Ext.refl w O _, hO, fun b o hb => ⟨(hH b o hb).1, fun _ => ⟨o, hb⟩⟩, fun b o hb => (hH b o hb).2⟩, rfl, by simp [hl], fun t => ?_⟩
    rw [argSt_get, Nat.zero_add]
    split
    · rename_i ht
      have hx : args[t - 0]? = some (args[t]'ht.2) := List.getElem?_eq_getElem ht.2
      have hy : vs[t]? = some (vs[t]'(by omega)) := List.getElem?_eq_getElem (by omega)
      rw [hx, Option.getD_some]
      have hq : (vs.toArray ++ Array.replicate (fn.ntmps - vs.toArray.size) undef).getD t undef = vs[t]'(by omega) := by
        rw [Array.getD_eq_getD_getElem?, Array.getElem?_append_left (by simp; omega), List.getElem?_toArray, hy]
        rfl
      rw [hq]
      exact hr t _ _ (List.getElem?_eq_getElem ht.2) hy
    · exact .junk _
  refine wp_mono (h.run w O (dom H) _ w O hm) ?_
  rintro e a w' ⟨s, H', O', h1, h2⟩
  have fin : ∀ (h1 : ares P fn.results.toList s H' fun l => K (pack l) H'), a.defers = [] ∧ ∃ v, (results fn a.tmps).run P w' = .ok v w' ∧ Returns w O (dom H) K (.returned v) w' := by
    intro h1
    obtain ⟨x, y, g1, g2, g3⟩ := results_ok (K := fun x => K x H') h2 h1
    exact ⟨h2.defers, y, g3, x, H', O', y, rfl, g1, h2.heap, g2⟩
  cases e <;> simp only [retK] at h1
  · exact fin h1
  · exact fin h1

end Go.Fw
