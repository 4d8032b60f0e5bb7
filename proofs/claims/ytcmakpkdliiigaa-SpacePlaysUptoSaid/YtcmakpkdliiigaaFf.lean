/- New blocks and stores: the heap behind them. -/
import Derived.Test.YtcmakpkdliiigaaFe
namespace Go.Fw
set_option maxHeartbeats 8000000
set_option linter.all false
open Go

variable {P : Program} {w w0 : World} {O O0 D0 : Nat → Prop} {H : AH} {s : St} {a : Act} {n : Nat} {t : TypeId}

def none_ (_ : Nat) : Prop := False
def only (b : Nat) (x : Nat) : Prop := x = b
def plus (O : Nat → Prop) (b : Nat) (x : Nat) : Prop := O x ∨ x = b

theorem alloc_old (w : World) (o : Obj) {b : Nat} (h : b < w.heap.size) : (w.alloc o).heap[b]? = w.heap[b]? := by
  show (w.heap.push o)[b]? = _
  rw [Array.getElem?_push, if_neg (by omega)]
theorem alloc_new (w : World) (o : Obj) : (w.alloc o).heap[w.heap.size]? = some o := by
  show (w.heap.push o)[w.heap.size]? = _
  simp

theorem Ext.alloc (w : World) (O : Nat → Prop) (o : Obj) : Ext w O none_ (w.alloc o) (plus O w.heap.size) where
  os := rfl
  tape := rfl
  output := rfl
  size := by simp
  block := fun b hb _ => alloc_old w o hb
  cells := fun b c t fr h => ⟨c, fr, (alloc_old w o (lt_of_heap h)).trans h, rfl⟩
  own := fun b hb _ => ⟨fun h => h.elim id fun e => by omega, .inl⟩
  less := fun b hb h => h.elim id fun e => by omega

theorem Ext.allocF (w : World) (O : Nat → Prop) (o : Obj) : Ext w O none_ (w.alloc o) O where
  os := rfl
  tape := rfl
  output := rfl
  size := by simp
  block := fun b hb _ => alloc_old w o hb
  cells := fun b c t fr h => ⟨c, fr, (alloc_old w o (lt_of_heap h)).trans h, rfl⟩
  own := fun b hb _ => Iff.rfl
  less := fun b hb h => h

theorem Ext.drew (w : World) (O : Nat → Prop) : Ext w O none_ w.drew O :=
  ⟨rfl, rfl, rfl, Nat.le_refl _, fun _ _ _ => rfl, fun _ c _ fr h => ⟨c, fr, h, rfl⟩, fun _ _ _ => Iff.rfl, fun _ _ h => h⟩

theorem Ext.setRow (w : World) (O : Nat → Prop) {b : Nat} {c c' : Array Value} {t : TypeId} {fr : Nat × Nat} (h : w.heap[b]? = some (.cells c t fr)) (hs : c'.size = c.size) : Ext w O (only b) (w.setRow b c') O where
  os := rfl
  tape := rfl
  output := rfl
  size := by simp
  block := fun k _ hd => setRow_other w b k c' hd
  cells := fun k d u f hk => by
    by_cases e : k = b
    · subst e
      rw [h] at hk
      cases hk
      exact ⟨c', fr, setRow_heap w k c c' t fr h, hs⟩
    · exact ⟨d, f, (setRow_other w b k c' e).trans hk, rfl⟩
  own := fun _ _ _ => Iff.rfl
  less := fun _ _ h => h

theorem Ext.all {w w' : World} {O O' D : Nat → Prop} (h : Ext w O D w' O') (hD : ∀ b, D b → O b) : Ext w O O w' O' := h.mono hD

/-- A step that writes no block that H tells of. -/
theorem Heap.keep {w' : World} {O' : Nat → Prop} (h : Heap w0 O0 D0 w O H) (k : Ext w O none_ w' O') (hb : ∀ b, O' b → b < w'.heap.size) : Heap w0 O0 D0 w' O' H where
  ext := h.ext.trans k fun b _ hd => hd.elim
  bound := hb
  dom := fun b o ho => ⟨(k.own b (h.bound b (h.dom b o ho).1) (fun e => e)).2 (h.dom b o ho).1, (h.dom b o ho).2⟩
  rep := fun b o ho => (h.rep b o ho).ext k (fun b hd => hd.elim) (k.block b (h.bound b (h.dom b o ho).1) fun e => e)

theorem Heap.drew (h : Heap w0 O0 D0 w O H) : Heap w0 O0 D0 w.drew O H := h.keep (Ext.drew w O) h.bound

theorem Heap.allocF (h : Heap w0 O0 D0 w O H) (o : Obj) : Heap w0 O0 D0 (w.alloc o) O H :=
  h.keep (Ext.allocF w O o) fun b hb => Nat.lt_of_lt_of_le (h.bound b hb) (by simp)

theorem Heap.fresh (h : Heap w0 O0 D0 w O H) : Fw.fresh H w.heap.size := by
  unfold Fw.fresh
  cases hh : H w.heap.size with
  | none => rfl
  | some o => exact absurd (h.bound _ (h.dom _ o hh).1) (Nat.lt_irrefl _)

/-- A new block of one's own. -/
theorem Heap.new {es : Nat} {xs : List (List AV)} {cells : Array Value} (h : Heap w0 O0 D0 w O H) (t : TypeId) (hl : xs.length * es ≤ cells.size) (hes : ∀ e ∈ xs, e.length = es ∧ ∀ x ∈ e, x.cell = true)
    (hr : ∀ (i : Nat) e (f : Nat) x, xs[i]? = some e → e[f]? = some x → ∃ y, cells[i * es + f]? = some y ∧ Rep w O x y) :
    Heap w0 O0 D0 (w.alloc (.cells cells t)) (plus O w.heap.size) (H.set w.heap.size ⟨es, xs⟩) where
  ext := h.ext.trans (Ext.alloc w O _) fun b _ hd => hd.elim
  bound := fun b hb => by
    rcases hb with hb | hb
    · exact Nat.lt_of_lt_of_le (h.bound b hb) (by simp)
    · subst hb; simp
  dom := fun b o ho => by
    by_cases e : b = w.heap.size
    · subst e
      exact ⟨.inr rfl, fun hlt => absurd hlt (Nat.not_lt.2 h.ext.size)⟩
    · rw [AH.set_ne _ _ e] at ho
      exact ⟨.inl (h.dom b o ho).1, (h.dom b o ho).2⟩
  rep := fun b o ho => by
    by_cases e : b = w.heap.size
    · subst e
      rw [AH.set_same] at ho
      cases ho
      refine ⟨cells, t, alloc_new w _, hl, hes, fun i e f x hi hf => ?_⟩
      obtain ⟨y, h1, h2⟩ := hr i e f x hi hf
      exact ⟨y, h1, h2.ext (Ext.alloc w O _) (fun b hd => hd.elim)⟩
    · rw [AH.set_ne _ _ e] at ho
      exact (h.rep b o ho).ext (Ext.alloc w O _) (fun b hd => hd.elim) (alloc_old w _ (h.bound b (h.dom b o ho).1))

/-- A block that H tells of is written anew. -/
theorem Heap.write {b : Nat} {o : AObj} {es : Nat} {xs : List (List AV)} {c c' : Array Value} {t : TypeId} (h : Heap w0 O0 D0 w O H) (ho : H b = some o) (hc : w.heap[b]? = some (.cells c t (0, 0))) (hs : c'.size = c.size)
    (hl : xs.length * es ≤ c'.size) (hes : ∀ e ∈ xs, e.length = es ∧ ∀ x ∈ e, x.cell = true)
    (hr : ∀ (i : Nat) e (f : Nat) x, xs[i]? = some e → e[f]? = some x → ∃ y, c'[i * es + f]? = some y ∧ Rep w O x y) :
    Heap w0 O0 D0 (w.setRow b c') O (H.set b ⟨es, xs⟩) where
  ext := h.ext.trans (Ext.setRow w O hc hs) fun k hk hd => by
    have : k = b := hd
    subst this
    exact (h.dom k o ho).2 hk
  bound := fun k hk => by simpa using h.bound k hk
  dom := fun k o' hk => by
    by_cases e : k = b
    · subst e; exact h.dom k o ho
    · rw [AH.set_ne _ _ e] at hk; exact h.dom k o' hk
  rep := fun k o' hk => by
    have hO : ∀ x, only b x → O x := fun x hx => by
      have : x = b := hx
      subst this
      exact (h.dom x o ho).1
    by_cases e : k = b
    · subst e
      rw [AH.set_same] at hk
      cases hk
      refine ⟨c', t, setRow_heap w k c c' t (0, 0) hc, hl, hes, fun i e f x hi hf => ?_⟩
      obtain ⟨y, h1, h2⟩ := hr i e f x hi hf
      exact ⟨y, h1, h2.ext (Ext.setRow w O hc hs) hO⟩
    · rw [AH.set_ne _ _ e] at hk
      exact (h.rep k o' hk).ext (Ext.setRow w O hc hs) hO (setRow_other w b k c' e)

/-- A block is told of no more. -/
theorem Heap.del (h : Heap w0 O0 D0 w O H) (b : Nat) : Heap w0 O0 D0 w O (H.del b) where
  ext := h.ext
  bound := h.bound
  dom := fun k o hk => by
    by_cases e : k = b
    · subst e; rw [AH.del_same] at hk; cases hk
    · rw [AH.del_ne _ e] at hk; exact h.dom k o hk
  rep := fun k o hk => by
    by_cases e : k = b
    · subst e; rw [AH.del_same] at hk; cases hk
    · rw [AH.del_ne _ e] at hk; exact h.rep k o hk

theorem allCell_mem {l : List AV} (h : allCell l = true) : ∀ x ∈ l, x.cell = true := by
  induction l with
  | nil => intro x hx; cases hx
  | cons y r ih =>
    simp only [allCell, Bool.and_eq_true] at h
    intro x hx
    rcases List.mem_cons.1 hx with rfl | hx
    · exact h.1
    · exact ih h.2 x hx

/-- The cells of a value, side by side. -/
theorem cells_rep {x : AV} {y : Value} (h : Rep w O x y) (hj : allCell x.cells = true) : x.cells.length = y.cells.size ∧ ∀ (i : Nat) u v, x.cells[i]? = some u → y.cells[i]? = some v → Rep w O u v := by
  have one : ∀ (u : AV) (v : Value), Rep w O u v → ∀ (i : Nat) p q, [u][i]? = some p → (#[v] : Array Value)[i]? = some q → Rep w O p q := by
    intro u v huv i p q hp hq
    match i, hp, hq with
    | 0, hp, hq => simp at hp hq; subst hp hq; exact huv
    | i + 1, hp, _ => simp at hp
  cases h with
  | v =>
    cases y with
    | agg arr =>
      refine ⟨by simp [AV.cells, Value.cells], fun i u v hu hv => ?_⟩
      simp only [AV.cells, List.getElem?_map, Array.getElem?_toList] at hu
      simp only [Value.cells] at hv
      rw [hv] at hu
      simp only [Option.map_some, Option.some.injEq] at hu
      rw [← hu]
      exact .v v
    | _ => exact ⟨rfl, one _ _ (.v _)⟩
  | agg cs vs hl h =>
    refine ⟨by simpa [AV.cells, Value.cells] using hl, fun i u v hu hv => ?_⟩
    exact h i u v hu (by simpa [Value.cells] using hv)
  | junk => simp [AV.cells, allCell, AV.cell] at hj
  | tup cs vs hl h => exact ⟨rfl, one _ _ (.tup cs vs hl h)⟩
  | ptr b es i f hb => exact ⟨rfl, one _ _ (.ptr b es i f hb)⟩
  | ovn es ad => exact ⟨rfl, one _ _ (.ovn es ad)⟩
  | ov b off es n c c' cells t fr hw hc hn hcc => exact ⟨rfl, one _ _ (.ov b off es n c c' cells t fr hw hc hn hcc)⟩
  | imn es ad c => exact ⟨rfl, one _ _ (.imn es ad c)⟩
  | imm es xs b o c cells t fr vals hw hO hc hes h1 h2 => exact ⟨rfl, one _ _ (.imm es xs b o c cells t fr vals hw hO hc hes h1 h2)⟩
  | ip e f b o cells t fr vals hw hO hes h1 h2 => exact ⟨rfl, one _ _ (.ip e f b o cells t fr vals hw hO hes h1 h2)⟩
  | clo f cs vs hl h => exact ⟨rfl, one _ _ (.clo f cs vs hl h)⟩

theorem splice_length {e cs : List AV} {f : Nat} (h : f + cs.length ≤ e.length) : (splice e f cs).length = e.length := by
  simp [splice]; omega

theorem splice_mem {e cs : List AV} {f : Nat} {x : AV} (h : x ∈ splice e f cs) : x ∈ e ∨ x ∈ cs := by
  simp only [splice, List.mem_append] at h
  rcases h with (h | h) | h
  · exact .inl (List.mem_of_mem_take h)
  · exact .inr h
  · exact .inl (List.mem_of_mem_drop h)

theorem splice_get {e cs : List AV} {f j : Nat} (h : f + cs.length ≤ e.length) : (splice e f cs)[j]? = if f ≤ j ∧ j < f + cs.length then cs[j - f]? else e[j]? := by
  unfold splice
  rw [List.append_assoc, List.getElem?_append, List.length_take, Nat.min_eq_left (by omega)]
  by_cases h1 : j < f
  · rw [if_pos h1, if_neg (by omega), List.getElem?_take, if_pos h1]
  · rw [if_neg h1, List.getElem?_append]
    by_cases h2 : j < f + cs.length
    · rw [if_pos (by omega), if_pos ⟨by omega, h2⟩]
    · rw [if_neg (by omega), if_neg (by omega), List.getElem?_drop]
      congr 1; omega

theorem row_get {α : Type} (c : List α) (vs : List α) {p j : Nat} (h : p + vs.length ≤ c.length) : (c.take p ++ vs ++ c.drop (p + vs.length))[j]? = if p ≤ j ∧ j < p + vs.length then vs[j - p]? else c[j]? := by
  rw [List.append_assoc, List.getElem?_append, List.length_take, Nat.min_eq_left (by omega)]
  by_cases h1 : j < p
  · rw [if_pos h1, if_neg (by omega), List.getElem?_take, if_pos h1]
  · rw [if_neg h1, List.getElem?_append]
    by_cases h2 : j < p + vs.length
    · rw [if_pos (by omega), if_pos ⟨by omega, h2⟩]
    · rw [if_neg (by omega), if_neg (by omega), List.getElem?_drop]
      congr 1; omega

/-- A value is stored into an element of a block. -/
theorem write_elem {b es i f : Nat} {o : AObj} {e : List AV} {cs : List AV} {vs : List Value} (h : Heap w0 O0 D0 w O H) (ho : H b = some o) (hes : o.es = es) (hi : o.xs[i]? = some e) (hf : f + cs.length ≤ e.length)
    (hc : allCell cs = true) (hl : cs.length = vs.length) (hr : ∀ (j : Nat) x y, cs[j]? = some x → vs[j]? = some y → Rep w O x y) :
    ∃ w', (storeCells ⟨b, i * es + f, none⟩ vs).run P w = .ok () w' ∧ Heap w0 O0 D0 w' O (H.set b ⟨es, o.xs.set i (splice e f cs)⟩) ∧ Ext w O O w' O := by
  subst hes
  obtain ⟨cells, t, h1, h2, h3, h4⟩ := h.rep b o ho
  have hel := (h3 e (List.mem_of_getElem? hi)).1
  have hil := (List.getElem?_eq_some_iff.1 hi).1
  have hbnd : i * o.es + o.es ≤ cells.size := by
    have : (i + 1) * o.es ≤ o.xs.length * o.es := Nat.mul_le_mul_right _ hil
    rw [Nat.add_mul, Nat.one_mul] at this
    omega
  have hone : ∀ v ∈ vs, v.oneCell' = true := by
    intro v hv
    obtain ⟨j, hj⟩ := List.getElem?_of_mem hv
    have hjl := (List.getElem?_eq_some_iff.1 hj).1
    have hx : cs[j]? = some (cs[j]'(by omega)) := List.getElem?_eq_getElem (by omega)
    exact (hr j _ _ hx hj).oneCell (allCell_mem hc _ (List.getElem_mem _))
  have hst := run_storeCells_at P b (i * o.es + f) t vs 0 cells w h1 (by omega) hone
  have hrow : ∀ j, ((cells.toList.take (i * o.es + f + 0) ++ vs ++ cells.toList.drop (i * o.es + f + 0 + vs.length)).toArray)[j]? = if i * o.es + f ≤ j ∧ j < i * o.es + f + vs.length then vs[j - (i * o.es + f)]? else cells[j]? := by
    intro j
    have := row_get cells.toList vs (p := i * o.es + f) (j := j) (by simp; omega)
    simp only [Nat.add_zero, List.getElem?_toArray]
    rw [this]
    simp
  refine ⟨_, hst, ?_, (Ext.setRow w O h1 (by simp; omega)).all fun k hk => by
    have : k = b := hk
    subst this
    exact (h.dom k o ho).1⟩
  refine h.write ho h1 (by simp; omega) (by simp; omega) ?_ ?_
  · intro e' he'
    rcases List.mem_or_eq_of_mem_set he' with he' | rfl
    · exact h3 e' he'
    · refine ⟨by rw [splice_length hf]; exact hel, fun x hx => ?_⟩
      rcases splice_mem hx with hx | hx
      · exact (h3 e (List.mem_of_getElem? hi)).2 x hx
      · exact allCell_mem hc x hx
  · intro i' e' f' x hi' hf'
    rw [hrow]
    rw [List.getElem?_set] at hi'
    by_cases he : i = i'
    · subst he
      rw [if_pos rfl, if_pos hil] at hi'
      cases hi'
      rw [splice_get hf] at hf'
      split at hf'
      · rename_i hin
        have hv : vs[f' - f]? = some (vs[f' - f]'(by omega)) := List.getElem?_eq_getElem (by omega)
        refine ⟨vs[f' - f]'(by omega), ?_, hr _ _ _ hf' hv⟩
        rw [if_pos (by omega), ← hv]
        congr 1; omega
      · rename_i hout
        obtain ⟨y, hy, hry⟩ := h4 i e f' x hi hf'
        refine ⟨y, ?_, hry⟩
        have hfl := (List.getElem?_eq_some_iff.1 hf').1
        rw [if_neg (by omega)]
        exact hy
    · rw [if_neg he] at hi'
      obtain ⟨y, hy, hry⟩ := h4 i' e' f' x hi' hf'
      refine ⟨y, ?_, hry⟩
      have hfl := (List.getElem?_eq_some_iff.1 hf').1
      have hel' := (h3 e' (List.mem_of_getElem? hi')).1
      have hne : ¬ (i * o.es + f ≤ i' * o.es + f' ∧ i' * o.es + f' < i * o.es + f + vs.length) := by
        rintro ⟨ha, hb⟩
        rcases Nat.lt_or_gt_of_ne he with hlt | hgt
        · have : (i + 1) * o.es ≤ i' * o.es := Nat.mul_le_mul_right _ hlt
          rw [Nat.add_mul, Nat.one_mul] at this
          omega
        · have : (i' + 1) * o.es ≤ i * o.es := Nat.mul_le_mul_right _ hgt
          rw [Nat.add_mul, Nat.one_mul] at this
          omega
      rw [if_neg hne]
      exact hy

theorem store_ok {x y : AV} {vx vy : Value} {K : AH → Prop} (h : astore P t x y H K) (hx : Rep w O x vx) (hy : Rep w O y vy) (hH : Heap w0 O0 D0 w O H) :
    ∃ H' w', K H' ∧ (Instr.storeAt t vx vy).run P w = .ok () w' ∧ Heap w0 O0 D0 w' O H' ∧ Ext w O O w' O := by
  unfold astore at h
  split at h
  · split at h
    · rename_i b es i f _ o ho
      obtain ⟨hes, hz, e, hi, hl, hf, hc, hk⟩ := h
      cases hx
      have hcr := cells_rep hy hc
      obtain ⟨w', h1, h2, h3⟩ := write_elem (P := P) (f := f) (vs := vy.cells.toList) hH ho hes hi (by omega) hc (by simpa using hcr.1) (fun j x y hj hq => hcr.2 j x y hj (by simpa using hq))
      refine ⟨_, w', hk, ?_, h2, h3⟩
      have hsz : vy.cells.size = P.cellsOf t := by rw [← hcr.1]; exact hl
      have hs := run_cells (w := w) (.inl hz)
      simp [Instr.storeAt, Instr.sureAddr, storeVar, hs, hsz, h1]
    · exact h.elim
  · exact h.elim

end Go.Fw
