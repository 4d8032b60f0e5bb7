/- What an operation looks at: it hangs on its operands alone; what is fixed of it. -/
import Derived.Test.YtcmakpkdliiigaaFm
namespace Go.Fw
set_option maxHeartbeats 8000000
set_option linter.all false
open Go

variable {P : Program} {w w0 : World} {O O0 D0 : Nat → Prop} {H : AH} {s s' : St} {a : Act} {n : Nat} {t : TypeId}

theorem det_build (ps : Array (Nat × Operand)) (s : St) : Det fun K => abuild P t ps s K := by
  intro K h
  unfold abuild at h ⊢
  split at h
  · obtain ⟨h1, h2, h⟩ := h
    split at h
    · rename_i cs hcs
      exact ⟨_, h, fun K' h' => ⟨h1, h2, h'⟩⟩
    · exact h.elim
  · obtain ⟨h1, h2, h⟩ := h
    split at h
    · rename_i cs hcs
      exact ⟨_, h, fun K' h' => ⟨h1, h2, h'⟩⟩
    · exact h.elim
  · exact h.elim

theorem det_buildS (k : Nat) (ps : Array (Nat × Operand)) (s : St) : Det fun K => abuildS P t k ps s K := by
  intro K h
  unfold abuildS at h ⊢
  split at h
  · split at h
    · obtain ⟨h1, h2, h3, h4, h⟩ := h
      split at h
      · rename_i xs hxs
        obtain ⟨z, h5, h6⟩ := Det.cond (k = 0) _ _ K h
        exact ⟨z, h5, fun K' h' => ⟨h1, h2, h3, h4, h6 K' h'⟩⟩
      · exact h.elim
    · exact h.elim
  · exact h.elim

theorem async_det {op : Op} (ha : asyncOp P op = true) {K : AV → AH → Prop} (h : aop P op s H K) : ∃ x, K x H ∧ ∀ K' : AV → AH → Prop, K' x H → aop P op s H K' := by
  have lift : ∀ {J : (AV → Prop) → Prop}, Det J → J (K · H) → ∃ x, K x H ∧ ∀ K' : AV → AH → Prop, K' x H → J (K' · H) := by
    intro J hJ hk
    obtain ⟨x, h1, h2⟩ := hJ _ hk
    exact ⟨x, h1, fun K' h' => h2 (K' · H) h'⟩
  cases op <;> simp only [asyncOp, Bool.false_eq_true] at ha <;> simp only [aop] at h ⊢
  case move x => exact ⟨_, h, fun _ h => h⟩
  case pick c x y => exact lift (det_pick _ _ _) h
  case nilCheck x => exact lift (det_nil _) h
  case binOp op u x y v =>
    refine lift (det_bin _ _ _ ?_) h
    rintro (rfl | rfl) e he <;> simp [he] at ha
  case unOp op u x => exact lift (det_un _ _) h
  case convert c d x => exact lift (det_conv _ _) h
  case load u x => exact lift (det_load _ _) h
  case fieldAddr u x f => exact lift (det_fld _ _) h
  case field u x f => exact lift (det_field _ _) h
  case indexAddr u x i => exact lift (det_idx _ _) h
  case index u x i => exact lift (det_index _ _) h
  case slice u x lo hi mx => exact lift (det_slice _ _ _ _ _) h
  case build u ps => exact lift (det_build _ _) h
  case buildSlice u k ps => exact lift (det_buildS _ _ _) h
  case extract x i => exact lift (det_ext _ _) h
  case makeFunc f first cs =>
    cases f <;> simp only [aop] at h ⊢
    exact ⟨_, h.2, fun _ h' => ⟨h.1, h'⟩⟩
  case call c =>
    obtain ⟨callee, args, ats⟩ := c
    cases callee with
    | builtin b =>
      cases b <;> simp only [Bool.false_eq_true] at ha
      unfold acall at h ⊢
      simp only at h ⊢
      split at h
      · exact lift (det_len _) h
      · exact h.elim
    | value f => cases ha
    | invoke r m => cases ha

theorem map_ev {l : List Operand} (h : ∀ x ∈ l, ev s x = ev s' x) : l.map (ev s) = l.map (ev s') := List.map_congr_left h

theorem fill_congr (fs : Array Field) : ∀ (ps : List (Nat × Operand)) (cs : List AV), (∀ p ∈ ps, ev s p.2 = ev s' p.2) → afill P fs s ps cs = afill P fs s' ps cs
  | [], _, _ => rfl
  | (i, x) :: ps, cs, h => by
    simp only [afill]
    rw [h (i, x) (by simp)]
    split
    · split
      · exact fill_congr fs ps _ fun p hp => h p (by simp [hp])
      · rfl
    · rfl

theorem fillA_congr (es : Nat) : ∀ (ps : List (Nat × Operand)) (cs : List AV), (∀ p ∈ ps, ev s p.2 = ev s' p.2) → afillA es s ps cs = afillA es s' ps cs
  | [], _, _ => rfl
  | (i, x) :: ps, cs, h => by
    simp only [afillA]
    rw [h (i, x) (by simp)]
    split
    · exact fillA_congr es ps _ fun p hp => h p (by simp [hp])
    · rfl

theorem fillS_congr (es : Nat) : ∀ (ps : List (Nat × Operand)) (cs : List (List AV)), (∀ p ∈ ps, ev s p.2 = ev s' p.2) → afillS es s ps cs = afillS es s' ps cs
  | [], _, _ => rfl
  | (i, x) :: ps, cs, h => by
    simp only [afillS]
    rw [h (i, x) (by simp)]
    split
    · exact fillS_congr es ps _ fun p hp => h p (by simp [hp])
    · rfl

theorem bnd_congr (x : Option Operand) (dflt hi : Nat) (K : Nat → Prop) (h : ∀ y ∈ x.toList, ev s y = ev s' y) : abnd s x dflt hi K = abnd s' x dflt hi K := by
  cases x with
  | none => rfl
  | some y => unfold abnd; simp only [h y (by simp)]

theorem slice_congr (x : AV) (lo hi mx : Option Operand) (K : AV → Prop) (h1 : ∀ y ∈ lo.toList, ev s y = ev s' y) (h2 : ∀ y ∈ hi.toList, ev s y = ev s' y) (h3 : ∀ y ∈ mx.toList, ev s y = ev s' y) :
    aslice P t x lo hi mx s K = aslice P t x lo hi mx s' K := by
  have b1 : ∀ d k J, abnd s lo d k J = abnd s' lo d k J := fun d k J => bnd_congr lo d k J h1
  have b2 : ∀ d k J, abnd s hi d k J = abnd s' hi d k J := fun d k J => bnd_congr hi d k J h2
  cases mx with
  | none =>
    cases hu : P.underlying t with
    | none => simp only [aslice, hu]
    | some d => cases d <;> simp only [aslice, hu, b1, b2]
  | some m =>
    have b3 : ∀ d k J, abnd s (some m) d k J = abnd s' (some m) d k J := fun d k J => bnd_congr (some m) d k J h3
    cases hu : P.underlying t with
    | none => simp only [aslice, hu]
    | some d => cases d <;> simp only [aslice, hu, b1, b2, b3]

theorem aop_congr {op : Op} {K : AV → AH → Prop} (h : ∀ x ∈ op.operands.toList, ev s x = ev s' x) : aop P op s H K = aop P op s' H K := by
  cases op <;> simp only [Op.operands] at h
  case move x => simp only [aop, h x (by simp)]
  case assign x => simp only [aop, h x (by simp)]
  case pick c x y => simp only [aop, h c (by simp), h x (by simp), h y (by simp)]
  case nilCheck x => simp only [aop, h x (by simp)]
  case binOp op u x y v => simp only [aop, h x (by simp), h y (by simp)]
  case unOp op u x => simp only [aop, h x (by simp)]
  case convert c d x => simp only [aop, h x (by simp)]
  case load u x => simp only [aop, h x (by simp)]
  case store u x y => simp only [aop, h x (by simp), h y (by simp)]
  case fieldAddr u x f => simp only [aop, h x (by simp)]
  case field u x f => simp only [aop, h x (by simp)]
  case indexAddr u x i => simp only [aop, h x (by simp), h i (by simp)]
  case index u x i => simp only [aop, h x (by simp), h i (by simp)]
  case slice u x lo hi mx =>
    simp only [aop, h x (by simp)]
    exact slice_congr _ lo hi mx _ (fun y hy => h y (by cases lo <;> simp_all)) (fun y hy => h y (by cases hi <;> simp_all)) (fun y hy => h y (by cases mx <;> simp_all))
  case makeSlice u l c => simp only [aop, h l (by simp), h c (by simp)]
  case build u ps =>
    have hp : ∀ p ∈ ps.toList, ev s p.2 = ev s' p.2 := fun p hp => h p.2 (by simp; exact ⟨p.1, by simpa using hp⟩)
    simp only [aop, abuild]
    cases P.underlying u with
    | none => rfl
    | some d => cases d <;> simp only [fill_congr _ ps.toList _ hp, fillA_congr _ ps.toList _ hp]
  case buildSlice u k ps =>
    have hp : ∀ p ∈ ps.toList, ev s p.2 = ev s' p.2 := fun p hp => h p.2 (by simp; exact ⟨p.1, by simpa using hp⟩)
    simp only [aop, abuildS, fillS_congr _ ps.toList _ hp]
  case box u x => simp only [aop, h x (by simp)]
  case alloc u => simp only [aop]
  case extract x i => simp only [aop, h x (by simp)]
  case makeFunc f first cs =>
    cases f <;> simp only [aop]
    rw [map_ev fun x hx => h x (by simp at hx ⊢; exact .inr hx)]
  case call c =>
    obtain ⟨callee, args, ats⟩ := c
    simp only [Call.operands] at h
    have ha : ∀ x ∈ args.toList, ev s x = ev s' x := fun x hx => h x (by simp at hx ⊢; exact .inr hx)
    cases callee with
    | value f =>
      have hf : ev s f = ev s' f := h f (by simp)
      simp only [aop, acall, hf, map_ev ha]
    | invoke r m => rfl
    | builtin b =>
      cases b <;> simp only [aop, acall]
      case len =>
        cases h0 : args[0]? with
        | none => cases ats[0]? <;> rfl
        | some x =>
          have hx := ha x (by simpa using List.mem_of_getElem? (l := args.toList) (i := 0) (by simpa using h0))
          cases ats[0]? <;> simp only [hx]
      case append =>
        cases h0 : args[0]? with
        | none => rfl
        | some x =>
          have hx := ha x (by simpa using List.mem_of_getElem? (l := args.toList) (i := 0) (by simpa using h0))
          cases h1 : args[1]? with
          | none => rfl
          | some y =>
            have hy := ha y (by simpa using List.mem_of_getElem? (l := args.toList) (i := 1) (by simpa using h1))
            simp only [hx, hy]
  all_goals rfl

end Go.Fw
