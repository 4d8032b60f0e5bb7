/- A region whose order Go leaves open: whatever order comes up, it comes to what the walked one comes to. -/
import Derived.Test.YtcmakpkdliiigaaFo
namespace Go.Fw
set_option maxHeartbeats 8000000
set_option linter.all false
open Go

variable {P : Program} {w w0 : World} {O O0 D0 : Nat → Prop} {H : AH} {s s' : St} {a : Act} {n : Nat} {t : TypeId}

theorem St.get_keep_mem (s : St) (l : List Nat) (t : Nat) (h : t ∈ l) : (s.keep l).get t = s.get t := by
  induction l with
  | nil => cases h
  | cons u l ih =>
    show (if u = t then s.get u else (s.keep l).get t) = s.get t
    split
    · rename_i e; rw [e]
    · rename_i e
      exact ih ((List.mem_cons.1 h).resolve_left fun q => e q.symm)

theorem St.get_keep_not (s : St) (l : List Nat) (t : Nat) (h : t ∉ l) : (s.keep l).get t = .junk := by
  induction l with
  | nil => rfl
  | cons u l ih =>
    show (if u = t then s.get u else (s.keep l).get t) = .junk
    rw [if_neg fun e => h (by simp [e])]
    exact ih fun q => h (by simp [q])

theorem ev_looks {all : List Oper} {o : Oper} (h : ∀ t ∈ looks all o, s.get t = s'.get t) : ∀ x ∈ o.op.operands.toList, ev s x = ev s' x := by
  intro x hx
  cases x with
  | tmp t => exact h t (List.mem_append_left _ (List.mem_filterMap.2 ⟨_, hx, rfl⟩))
  | _ => rfl

theorem gon_congr {all : List Oper} {o : Oper} (h : ∀ t ∈ looks all o, s.get t = s'.get t) : gon all o s = gon all o s' := by
  unfold gon
  cases hg : o.guard with
  | none => rfl
  | some jw =>
    obtain ⟨j, want⟩ := jw
    simp only
    cases hd : gslot all j with
    | none => rfl
    | some d =>
      simp only
      rw [h d (List.mem_append_right _ (by rw [hg]; simp [hd]))]

theorem fit_congr {all : List Oper} {q : Nat} {o : Oper} (ho : all[q]? = some o) (h : ∀ t, names all o t = true → s.get t = s'.get t) (hf : fit P all s H q) : fit P all s' H q := by
  unfold fit at hf ⊢
  rw [ho] at hf ⊢
  obtain ⟨g, h1, h2, h3⟩ := hf
  have hl : ∀ t ∈ looks all o, s.get t = s'.get t := fun t ht => h t (by simp [names, ht])
  have hd : ∀ d, o.dst = some d → s.get d = s'.get d := fun d hd => h d (by simp [names, hd])
  refine ⟨g, by rw [← gon_congr hl]; exact h1, fun e => ?_, fun e d hdd => by rw [← hd d hdd]; exact h3 e d hdd⟩
  have := h2 e
  rw [aop_congr (ev_looks hl)] at this
  have he : (fun (x : AV) (_ : AH) => ∀ d, o.dst = some d → s.get d = x) = (fun (x : AV) (_ : AH) => ∀ d, o.dst = some d → s'.get d = x) := by
    funext x _
    exact propext ⟨fun k d hdd => (hd d hdd) ▸ k d hdd, fun k d hdd => (hd d hdd).symm ▸ k d hdd⟩
  rw [he] at this
  exact this

theorem exec_op {ops : Array Oper} {i : Nat} {o : Oper} {g : Bool} {J : AV → AH → Prop} {next : Act → World → Prop} {Q : Exit → Act → World → Prop} (hi : ops[i]? = some o)
    (hm : Mod w0 O0 D0 n (s.keep (looks ops.toList o)) H a w O) (hg : gon ops.toList o s = some g) (h1 : g = true → aop P o.op s H J)
    (hk1 : ∀ x H' w' O' y, g = true → J x H' → Heap w0 O0 D0 w' O' H' → Ext w O O w' O' → Rep w' O' x y → next (a.put o.dst y) w') (hk0 : g = false → next (a.put o.dst undef) w) : wpOp P ops Q i next a w := by
  have hl : ∀ t ∈ looks ops.toList o, s.get t = (s.keep (looks ops.toList o)).get t := fun t ht => (St.get_keep_mem s _ t ht).symm
  have hwant : Region.wanted o (yielded ops a.tmps) = g := by
    rw [gon_congr hl] at hg
    unfold gon at hg
    unfold Region.wanted
    cases hgd : o.guard with
    | none => rw [hgd] at hg; simp at hg; simp [hg]
    | some jw =>
      obtain ⟨j, want⟩ := jw
      rw [hgd] at hg
      simp only at hg
      cases hd : gslot ops.toList j with
      | none => rw [hd] at hg; cases hg
      | some d =>
        rw [hd] at hg
        simp only at hg
        split at hg
        · rename_i c hc
          simp only [Option.some.injEq] at hg
          have hval := hm.guard hc
          have hget : a.tmps[d]? = some (.bool c) := by
            rw [Array.getD_eq_getD_getElem?] at hval
            cases hq : a.tmps[d]? with
            | none => rw [hq] at hval; cases hval
            | some v => rw [hq] at hval; simp at hval; rw [hval]
          have hdst : (ops[j]?).bind (·.dst) = some d := by
            unfold gslot at hd
            simpa using hd
          have hy : yielded ops a.tmps j = some c := by
            unfold yielded
            rw [hdst]
            simp [hget]
          simp only [hy]
          rw [← hg]
          cases c <;> cases want <;> rfl
        · cases hg
  unfold wpOp
  simp only [hi, hwant]
  cases g with
  | true =>
    rw [if_pos rfl]
    have := h1 rfl
    rw [aop_congr (ev_looks hl)] at this
    exact .inl (aop_sound hm this fun x H' w' O' y hJ hH hx hr => hk1 x H' w' O' y rfl hJ hH hx hr)
  | false =>
    rw [if_neg (by simp)]
    exact hk0 rfl

theorem mask_bit {all : List Oper} {M : List Nat} (h : maskOk all M = true) {i : Nat} {o : Oper} (ho : all[i]? = some o) (k : Nat) :
    (M.getD i 0).testBit k = true ↔ ∃ e ∈ edges o, k = e ∨ (M.getD e 0).testBit k = true := by
  have hi : i < all.length := (List.getElem?_eq_some_iff.1 ho).1
  have := List.all_eq_true.1 h i (List.mem_range.2 hi)
  rw [ho] at this
  simp only [beq_iff_eq] at this
  rw [this]
  have gen : ∀ (l : List Nat) (s : Nat), (l.foldl (fun s k => s ||| 2 ^ k ||| M.getD k 0) s).testBit k = true ↔ s.testBit k = true ∨ ∃ e ∈ l, k = e ∨ (M.getD e 0).testBit k = true := by
    intro l
    induction l with
    | nil => intro s; simp
    | cons x l ih =>
      intro s
      rw [List.foldl_cons, ih]
      simp only [Nat.testBit_or, Bool.or_eq_true, Nat.testBit_two_pow, decide_eq_true_eq, List.mem_cons]
      constructor
      · rintro ((h | h) | h)
        · rcases h with h | h
          · exact .inl h
          · exact .inr ⟨x, .inl rfl, .inl h.symm⟩
        · exact .inr ⟨x, .inl rfl, .inr h⟩
        · obtain ⟨e, h1, h2⟩ := h
          exact .inr ⟨e, .inr h1, h2⟩
      · rintro (h | ⟨e, (rfl | h1), h2⟩)
        · exact .inl (.inl (.inl h))
        · rcases h2 with h2 | h2
          · exact .inl (.inl (.inr h2.symm))
          · exact .inl (.inr h2)
        · exact .inr ⟨e, h1, h2⟩
  rw [gen]
  simp

def Lt (listed : Array Bool) (i : Nat) : Prop := listed.getD i false = true

/-- Where the walked order stands, when these have come up. -/
structure DI (P : Program) (n : Nat) (ops : Array Oper) (M : List Nat) (plan : List Item) (w0 : World) (O0 D0 : Nat → Prop) (K : St → AH → Prop) (listed : Array Bool) (a : Act) (w : World) (rest : List Item) (s : St) (H : AH) (O : Nat → Prop) : Prop where
  reg : aregD P n ops.toList rest s H K
  ctx : ∃ seen last asy, ok1 ops.toList seen rest = true ∧ ok2 M last asy rest = true ∧ (∀ j, j ∈ seen ↔ (j ∈ plan.map Item.i ∧ j ∉ rest.map Item.i)) ∧ (∀ j, Item.a j ∈ plan → j ∈ seen → j ∈ asy) ∧
    (∀ j ∈ seen, ∀ k, (M.getD j 0).testBit k = true → k ∈ seen)
  sub : ∀ it ∈ rest, it ∈ plan
  nd : (rest.map Item.i).Nodup
  heap : Heap w0 O0 D0 w O H
  defers : a.defers = []
  size : a.tmps.size = n
  lsz : listed.size = ops.size
  lst : ∀ j, Lt listed j → j ∉ rest.map Item.i
  cb : ∀ j, Lt listed j → ∀ k, (M.getD j 0).testBit k = true → Lt listed k
  pend : ∀ j, j < ops.size → j ∉ rest.map Item.i → ¬ Lt listed j → fit P ops.toList s H j ∧ Item.a j ∈ plan
  tmps : ∀ t, (∃ j o, j < ops.size ∧ j ∉ rest.map Item.i ∧ ¬ Lt listed j ∧ ops[j]? = some o ∧ o.dst = some t) ∨ Rep w O (s.get t) (a.tmps.getD t undef)

end Go.Fw
