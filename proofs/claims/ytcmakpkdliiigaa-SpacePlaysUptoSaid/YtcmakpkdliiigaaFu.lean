/- From a call that is sure to a row: what was handed in is read on the walk's own side, and behind the call as before. -/
import Derived.Test.YtcmakpkdliiigaaFt
import Derived.WalkKit
import Derived.ProofKit
import Derived.OpenShut
import Derived.JoinedCond
import Derived.Carry
namespace Go.Fw
set_option maxHeartbeats 8000000
set_option linter.all false
open Go Go.ChangeShapes Go.WideShapes Go.ChangeAt Go.RowKit
set_option linter.unusedVariables false

variable {H : Type} {enc : TypeId × Value → H} {P : Program}

theorem carryAll (hl : laidOutB P = true) {W W' : World} (hb : Below W.heap.size W W') {ts : List TypeId} {vs : List Value} {ds : List (DataW H)} {ps : List MemPlace}
    (hr : ∀ t ∈ ts, P.readableRec t = true ∧ t < P.types.size) (h : DataW.TrodAll enc P W 0 (fun _ => true) true ts vs ds ps) (hlt : ∀ x ∈ ps, x.block < W.heap.size) (sp : Nat → Bool) (hsp : ∀ p ∈ ps, sp p.block = true) :
    DataW.TrodAll enc P W' 0 sp true ts vs ds ps := by
  induction ts generalizing vs ds ps with
  | nil =>
    obtain ⟨rfl, rfl, rfl⟩ := trodAll_nil h
    exact trodAll_mk0
  | cons t ts ih =>
    obtain ⟨v, vs', d, ds', p, q, rfl, rfl, rfl, h0, h1⟩ := trodAll_cons h
    have ht := hr t (by simp)
    exact trodAll_cons_mk (WideElems.Trod_stays hl ht.1 ht.2 h0 (fun x hx => hb.same (hlt x (by simp [hx]))) (fun x hx => hsp x (by simp [hx])))
      (ih (fun t' h' => hr t' (by simp [h'])) h1 (fun x hx => hlt x (by simp [hx])) (fun x hx => hsp x (by simp [hx])))

/-- A law answers: true, and what came in reads as it did. -/
theorem law_post {f : Func} {s : ChangeSpec} {fresh handsOn again : Bool} {W W' : World} {args : Array Value} {ds gs : List (DataW H)} {before : List MemPlace} {tb : TypeId}
    (hl : laidOutB P = true) (hv : s.vars = []) (hr : ∀ t ∈ f.params.toList, P.readableRec t = true ∧ t < P.types.size) (hres : f.resultTypes = #[tb]) (htb : P.underlying tb = some .bool)
    (hW : DataW.Whole enc P f.params.toList s.vars false W args.toList ds gs before) (hs : (s.fn H (ds ++ gs)).results = [.lit (.bool true)] ∧ (s.fn H (ds ++ gs)).args = ds ∧ (s.fn H (ds ++ gs)).vars = [])
    (hb : Below W.heap.size W W') : s.post enc P f false fresh handsOn again W args (.bool true) W' := by
  have hlt : ∀ p ∈ before, p.block < W.heap.size := hW.lt
  have hW0 := hW
  obtain ⟨p, q, hA, hV, rfl, hz, hn⟩ := hW0
  rw [hv] at hV
  obtain ⟨rfl, rfl⟩ := trodVars_none hV
  simp only [List.append_nil] at hlt hz hs hW ⊢
  obtain ⟨s1, s2, s3⟩ := hs
  have hargs : ∀ sp : Nat → Bool, (∀ x ∈ p, sp x.block = true) → DataW.TrodAll enc P W' 0 sp true f.params.toList args.toList ds p := fun sp hsp => carryAll hl hb hr hA hlt sp hsp
  have hresd : ∀ (b : Nat) (sp : Nat → Bool) (hd : Bool), DataW.TrodAll enc P W' b sp hd f.resultTypes.toList ((Value.bool true).resultList f.resultTypes.size) [.lit (.bool true)] [] := by
    intro b sp hd
    rw [hres]
    exact trodAll_mk1 (shut_bool htb true)
  have hold : ∀ x ∈ p, (fun b => decide (b < W.heap.size)) x.block = true := fun x hx => by simpa using hlt x hx
  refine ⟨ds, [], p, [], p, [], hW, by simp only [List.append_nil]; rw [s1]; exact hresd _ _ _, by simp only [List.append_nil]; rw [s2]; exact hargs _ hold, by simp only [List.append_nil]; rw [hv, s3]; rfl, hb.frame _, fun _ => ?_⟩
  refine ⟨ok_one hres rfl (okWide_bool_mk htb true), _, [], ([] ++ p) ++ [], ⟨[] ++ p, [], trodAll_append (hargs _ (fun _ _ => rfl)) (hresd _ _ _), by rw [hv]; rfl, rfl, ?_, ?_⟩, ?_⟩
  · intro b off hp
    have hp' : MemPlace.cell b off ∈ p := by simpa using hp
    rw [hb.frozen (hlt _ hp')]
    exact hz b off hp'
  · intro ha; cases ha
  · intro x hx _
    simpa using hx

/-- A call that is sure to return true, over nothing of its own. -/
theorem calls_law {f : FuncId} {args : List AV} {vs : List Value} {W : World} (h : CallOK P f args (fun _ => none) (fun r _ => r = .v (.bool true))) (hl : args.length = vs.length)
    (hr : ∀ (i : Nat) x y, args[i]? = some x → vs[i]? = some y → Rep W (fun _ => False) x y) :
    Calls P f vs.toArray W fun e W' => e = .returned (.bool true) ∧ Below W.heap.size W W' := by
  refine (h.run W (fun _ => False) vs (fun _ h => h.elim) (fun b o h => by cases h) hl hr).mono fun e W' hR => ?_
  obtain ⟨r, H', O', v, rfl, rfl, hH, hrep⟩ := hR
  cases hrep
  have hx := hH.ext
  exact ⟨rfl, hx.os, hx.tape, hx.output, hx.size, fun k hk => hx.block k hk (fun ⟨_, h⟩ => by cases h)⟩

theorem cell_of {w : World} {a : Addr} {v : Value} (h : w.cell? a = some v) : a.spot = none ∧ ∃ c t fr, w.heap[a.block]? = some (.cells c t fr) ∧ c[a.off]? = some v := by
  unfold World.cell? at h
  split at h
  · rename_i c t fr hh
    split at h
    · cases h
    · rename_i hs
      exact ⟨by cases hs' : a.spot <;> simp_all, c, t, fr, hh, h⟩
  · cases h

theorem add_plain (a : Addr) (h : a.spot = none) (i : Nat) : a.add i = ⟨a.block, a.off + i, none⟩ := by
  obtain ⟨b, o, s⟩ := a
  simp only at h
  subst h
  unfold Addr.add
  split
  · rename_i e; simp_all
  · rfl

/-- A slice of whole numbers that came in. -/
theorem rep_ints {t e : TypeId} {v : Value} {d : DataW H} {ps : List MemPlace} {w : World} {k : IntKind} (ht : P.underlying t = some (.slice e)) (he : P.underlying e = some (.int k)) (hc : P.cellsOf e = 1)
    (hv : ∃ a l c, v = .slice a l c) (h : DataW.Trod enc P w 0 (fun _ => true) true t v d ps) :
    ∃ us : List Int, Rep w (fun _ => False) (.imm 1 (us.map fun x => [.v (.int k x)])) v ∧ (us = [] ∨ ∃ el sp, d = .slice el sp ∧ us.length = el.length) := by
  obtain ⟨a0, l0, c0, rfl⟩ := hv
  obtain ⟨fuel, hf⟩ := h
  rcases open_ints ht he hc hf with ⟨hcs, hx⟩ | ⟨a, len, cap, zs, hcs, _, hlc, hm, hz, hx, hcell, hwz⟩
  · simp [Value.cells] at hcs
    obtain ⟨rfl, rfl, rfl⟩ := hcs
    exact ⟨[], .imn 1 none 0, .inl rfl⟩
  · simp [Value.cells] at hcs
    obtain ⟨rfl, rfl, rfl⟩ := hcs
    simp only [if_true] at hz
    simp only [Prod.mk.injEq] at hx
    refine ⟨zs.take l0, ?_, .inr ⟨_, _, hx.1, by simp [lits]⟩⟩
    by_cases h0 : l0 = 0
    · subst h0; exact .imn 1 _ _
    · have hlen : (zs.take l0).length = l0 := by simp; omega
      have hm : ((zs.take l0).map fun x => [AV.v (.int k x)]).length = l0 := by rw [List.length_map, hlen]
      obtain ⟨hs, c, ty, fr, hh, h1⟩ := cell_of (hcell 0 (by omega))
      have hsp : a.spot = none := by simpa [Addr.add] using hs
      have hadd := add_plain a hsp
      obtain ⟨ab, ao, asp⟩ := a
      simp only at hsp
      subst hsp
      have hh' : w.heap[ab]? = some (.cells c ty fr) := by rw [hadd] at hh; exact hh
      have := Rep.imm (w := w) (O := fun _ => False) 1 ((zs.take l0).map fun x => [AV.v (.int k x)]) ab ao c0 c ty fr (fun i f => .int k (zs.getD i 0)) hh' (fun h => h) (by rw [hm]; exact hlc) ?_ ?_ ?_
      · rw [hm] at this; exact this
      · intro e hE
        obtain ⟨x, _, rfl⟩ := List.mem_map.1 hE
        refine ⟨rfl, fun x hx => ?_⟩
        simp at hx; subst hx; rfl
      · intro i e f x h1 h2
        have hi : i < l0 := by
          have := (List.getElem?_eq_some_iff.1 h1).1
          omega
        simp only [List.getElem?_map, Option.map_eq_some_iff] at h1
        obtain ⟨y, _, rfl⟩ := h1
        have hf : f = 0 := by
          cases f with
          | zero => rfl
          | succ f => simp at h2
        subst hf
        obtain ⟨_, c', ty', fr', hh2, h3⟩ := cell_of (hcell i (by omega))
        have hh3 : w.heap[ab]? = some (.cells c' ty' fr') := by rw [hadd] at hh2; exact hh2
        rw [hh'] at hh3
        simp only [Option.some.injEq, Obj.cells.injEq] at hh3
        rw [← hh3.1] at h3
        rw [hadd] at h3
        simpa using h3
      · intro i e f x h1 h2
        simp only [List.getElem?_map, Option.map_eq_some_iff] at h1
        obtain ⟨y, hy, rfl⟩ := h1
        cases f with
        | succ f => simp at h2
        | zero =>
          simp at h2
          subst h2
          have : y = zs.getD i 0 := by
            rw [List.getElem?_take] at hy
            split at hy
            · simp [List.getD, hy]
            · cases hy
          rw [this]
          exact .v _
end Go.Fw
