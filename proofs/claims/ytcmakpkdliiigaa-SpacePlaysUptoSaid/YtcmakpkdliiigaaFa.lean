/- The abstract values and heaps of the walks: what a value of the model is taken for, and when a world is as an abstract heap says. Generic: no program in sight. -/
import Derived.WalkKit
namespace Go.Fw
set_option maxHeartbeats 8000000
set_option linter.all false
open Go

/-- A value as the walks see it. -/
inductive AV where
  | v (x : Value)
  | agg (cs : List AV)
  | tup (cs : List AV)
  | ptr (b es i f : Nat)
  | ov (b : Option Nat) (off es n : Nat) (c : Option Nat)
  | imm (es : Nat) (xs : List (List AV))
  | ip (e : List AV) (f : Nat)
  | clo (f : FuncId) (cs : List AV)
  | junk
  deriving Inhabited

/-- One cell may hold it. -/
def AV.cell : AV → Bool
  | .v (.agg _) => false
  | .v (.tuple _) => false
  | .agg _ => false
  | .tup _ => false
  | .junk => false
  | _ => true

/-- A block that is owned: elements of es cells each. -/
structure AObj where
  es : Nat
  xs : List (List AV)

abbrev AH := Nat → Option AObj
def AH.set (H : AH) (b : Nat) (o : AObj) : AH := fun x => if x = b then some o else H x
def AH.del (H : AH) (b : Nat) : AH := fun x => if x = b then none else H x

theorem AH.set_same (H : AH) (b : Nat) (o : AObj) : (H.set b o) b = some o := by simp [AH.set]
theorem AH.set_ne (H : AH) {b x : Nat} (o : AObj) (h : x ≠ b) : (H.set b o) x = H x := by simp [AH.set, h]
theorem AH.del_same (H : AH) (b : Nat) : (H.del b) b = none := by simp [AH.del]
theorem AH.del_ne (H : AH) {b x : Nat} (h : x ≠ b) : (H.del b) x = H x := by simp [AH.del, h]
theorem AH.set_set (H : AH) (b : Nat) (o p : AObj) : (H.set b o).set b p = H.set b p := by
  funext x
  simp only [AH.set]
  split <;> rfl
theorem AH.set_swap (H : AH) {b c : Nat} (o p q : AObj) (h : b ≠ c) : ((H.set b o).set c p).set b q = (H.set b q).set c p := by
  funext x
  simp only [AH.set]
  by_cases h1 : x = b <;> by_cases h2 : x = c <;> simp_all
theorem AH.set_comm (H : AH) {b c : Nat} (o p : AObj) (h : b ≠ c) : (H.set b o).set c p = (H.set c p).set b o := by
  funext x
  simp only [AH.set]
  by_cases h1 : x = b <;> by_cases h2 : x = c <;> simp_all
theorem AH.set_self (H : AH) {b : Nat} {o : AObj} (h : H b = some o) : H.set b o = H := by
  funext x
  simp only [AH.set]
  split <;> simp_all

/-- What an abstract value stands for, in a world w of whose blocks those in O are owned. -/
inductive Rep (w : World) (O : Nat → Prop) : AV → Value → Prop
  | v (x : Value) : Rep w O (.v x) x
  | junk (x : Value) : Rep w O .junk x
  | agg (cs : List AV) (vs : List Value) (hl : cs.length = vs.length) (h : ∀ (i : Nat) x y, cs[i]? = some x → vs[i]? = some y → Rep w O x y) : Rep w O (.agg cs) (.agg vs.toArray)
  | tup (cs : List AV) (vs : List Value) (hl : cs.length = vs.length) (h : ∀ (i : Nat) x y, cs[i]? = some x → vs[i]? = some y → Rep w O x y) : Rep w O (.tup cs) (.tuple vs.toArray)
  | ptr (b es i f : Nat) (hb : b < w.heap.size) : Rep w O (.ptr b es i f) (.pointer (some ⟨b, i * es + f, none⟩))
  | ovn (es : Nat) (a : Option Addr) : Rep w O (.ov none 0 es 0 none) (.slice a 0 0)
  | ov (b off es n c : Nat) (c' : Option Nat) (cells : Array Value) (t : TypeId) (fr : Nat × Nat) (hw : w.heap[b]? = some (.cells cells t fr)) (hc : (off + c) * es ≤ cells.size) (hn : n ≤ c)
      (hcc : ∀ k, c' = some k → k = c) : Rep w O (.ov (some b) off es n c') (.slice (some ⟨b, off * es, none⟩) n c)
  | imn (es : Nat) (a : Option Addr) (c : Nat) : Rep w O (.imm es []) (.slice a 0 c)
  | imm (es : Nat) (xs : List (List AV)) (b o c : Nat) (cells : Array Value) (t : TypeId) (fr : Nat × Nat) (vals : Nat → Nat → Value) (hw : w.heap[b]? = some (.cells cells t fr)) (hO : ¬ O b)
      (hc : xs.length ≤ c) (hes : ∀ e ∈ xs, e.length = es ∧ ∀ x ∈ e, x.cell = true)
      (h1 : ∀ (i : Nat) e (f : Nat) x, xs[i]? = some e → e[f]? = some x → cells[o + i * es + f]? = some (vals i f))
      (h2 : ∀ (i : Nat) e (f : Nat) x, xs[i]? = some e → e[f]? = some x → Rep w O x (vals i f)) : Rep w O (.imm es xs) (.slice (some ⟨b, o, none⟩) xs.length c)
  | ip (e : List AV) (f b o : Nat) (cells : Array Value) (t : TypeId) (fr : Nat × Nat) (vals : Nat → Value) (hw : w.heap[b]? = some (.cells cells t fr)) (hO : ¬ O b)
      (hes : ∀ x ∈ e, x.cell = true)
      (h1 : ∀ (j : Nat) x, e[j]? = some x → cells[o + j]? = some (vals j)) (h2 : ∀ (j : Nat) x, e[j]? = some x → Rep w O x (vals j)) : Rep w O (.ip e f) (.pointer (some ⟨b, o + f, none⟩))
  | clo (f : FuncId) (cs : List AV) (vs : List Value) (hl : cs.length = vs.length) (h : ∀ (i : Nat) x y, cs[i]? = some x → vs[i]? = some y → Rep w O x y) : Rep w O (.clo f cs) (.func (.func f) #[] vs.toArray)

theorem Rep.oneCell {w : World} {O : Nat → Prop} {x : AV} {y : Value} (h : Rep w O x y) (hx : x.cell = true) : y.oneCell' = true := by
  cases h with
  | v => cases y <;> first | rfl | simp [AV.cell] at hx
  | _ => first | rfl | simp [AV.cell] at hx

/-- From a world and what is owned in it to a later one; D: the blocks that may have been written. -/
structure Ext (w : World) (O D : Nat → Prop) (w' : World) (O' : Nat → Prop) : Prop where
  os : w'.os = w.os
  tape : w'.tape = w.tape
  output : w'.output = w.output
  size : w.heap.size ≤ w'.heap.size
  block : ∀ b, b < w.heap.size → ¬ D b → w'.heap[b]? = w.heap[b]?
  cells : ∀ (b : Nat) (c : Array Value) (t : TypeId) (fr : Nat × Nat), w.heap[b]? = some (.cells c t fr) → ∃ (c' : Array Value) (fr' : Nat × Nat), w'.heap[b]? = some (.cells c' t fr') ∧ c'.size = c.size
  own : ∀ b, b < w.heap.size → ¬ D b → (O' b ↔ O b)
  less : ∀ b, b < w.heap.size → O' b → O b

theorem Ext.refl (w : World) (O D : Nat → Prop) : Ext w O D w O :=
  ⟨rfl, rfl, rfl, Nat.le_refl _, fun _ _ _ => rfl, fun _ c _ fr h => ⟨c, fr, h, rfl⟩, fun _ _ _ => Iff.rfl, fun _ _ h => h⟩

theorem Ext.trans {w w1 w2 : World} {O O1 O2 D D1 : Nat → Prop} (h : Ext w O D w1 O1) (k : Ext w1 O1 D1 w2 O2) (hD : ∀ b, b < w.heap.size → D1 b → D b) : Ext w O D w2 O2 where
  os := k.os.trans h.os
  tape := k.tape.trans h.tape
  output := k.output.trans h.output
  size := Nat.le_trans h.size k.size
  block := fun b hb hd => (k.block b (Nat.lt_of_lt_of_le hb h.size) (fun e => hd (hD b hb e))).trans (h.block b hb hd)
  cells := fun b c t fr hc => by
    obtain ⟨c1, f1, h1, e1⟩ := h.cells b c t fr hc
    obtain ⟨c2, f2, h2, e2⟩ := k.cells b c1 t f1 h1
    exact ⟨c2, f2, h2, e2.trans e1⟩
  own := fun b hb hd => (k.own b (Nat.lt_of_lt_of_le hb h.size) (fun e => hd (hD b hb e))).trans (h.own b hb hd)
  less := fun b hb h2 => h.less b hb (k.less b (Nat.lt_of_lt_of_le hb h.size) h2)

theorem Ext.mono {w w' : World} {O O' D D' : Nat → Prop} (h : Ext w O D w' O') (hD : ∀ b, D b → D' b) : Ext w O D' w' O' :=
  ⟨h.os, h.tape, h.output, h.size, fun b hb hd => h.block b hb fun e => hd (hD b e), h.cells, fun b hb hd => h.own b hb fun e => hd (hD b e), h.less⟩

theorem lt_of_heap {w : World} {b : Nat} {o : Obj} (h : w.heap[b]? = some o) : b < w.heap.size := by
  rcases Nat.lt_or_ge b w.heap.size with g | g
  · exact g
  · simp [Array.getElem?_eq_none g] at h

/-- What was read stays read. -/
theorem Rep.ext {w w' : World} {O D O' : Nat → Prop} (hx : Ext w O D w' O') (hD : ∀ b, D b → O b) {x : AV} {y : Value} (h : Rep w O x y) : Rep w' O' x y := by
  induction h with
  | v x => exact .v x
  | junk x => exact .junk x
  | agg cs vs hl _ ih => exact .agg cs vs hl ih
  | tup cs vs hl _ ih => exact .tup cs vs hl ih
  | ptr b es i f hb => exact .ptr b es i f (Nat.lt_of_lt_of_le hb hx.size)
  | ovn es a => exact .ovn es a
  | ov b off es n c c' cells t fr hw hc hn hcc =>
    obtain ⟨c1, f1, h1, e1⟩ := hx.cells b cells t fr hw
    exact .ov b off es n c c' c1 t f1 h1 (by rw [e1]; exact hc) hn hcc
  | imn es a c => exact .imn es a c
  | imm es xs b o c cells t fr vals hw hO hc hes h1 _ ih =>
    have hb := lt_of_heap hw
    exact .imm es xs b o c cells t fr vals ((hx.block b hb fun e => hO (hD b e)).trans hw) (fun e => hO (hx.less b hb e)) hc hes h1 ih
  | ip e f b o cells t fr vals hw hO hes h1 _ ih =>
    have hb := lt_of_heap hw
    exact .ip e f b o cells t fr vals ((hx.block b hb fun e => hO (hD b e)).trans hw) (fun e => hO (hx.less b hb e)) hes h1 ih
  | clo f cs vs hl _ ih => exact .clo f cs vs hl ih

/-- An owned block is as its abstract object says. -/
def ObjRep (w : World) (O : Nat → Prop) (b : Nat) (o : AObj) : Prop :=
  ∃ (cells : Array Value) (t : TypeId), w.heap[b]? = some (.cells cells t (0, 0)) ∧ o.xs.length * o.es ≤ cells.size ∧ (∀ e ∈ o.xs, e.length = o.es ∧ ∀ x ∈ e, x.cell = true) ∧
    ∀ (i : Nat) e (f : Nat) x, o.xs[i]? = some e → e[f]? = some x → ∃ y, cells[i * o.es + f]? = some y ∧ Rep w O x y

theorem ObjRep.ext {w w' : World} {O D O' : Nat → Prop} (hx : Ext w O D w' O') (hD : ∀ b, D b → O b) {b : Nat} {o : AObj} (h : ObjRep w O b o) (hb : w'.heap[b]? = w.heap[b]?) : ObjRep w' O' b o := by
  obtain ⟨cells, t, h1, h2, h3, h4⟩ := h
  refine ⟨cells, t, hb.trans h1, h2, h3, fun i e f x hi hf => ?_⟩
  obtain ⟨y, hy, hr⟩ := h4 i e f x hi hf
  exact ⟨y, hy, hr.ext hx hD⟩

/-- The world w is as the abstract heap H says; all that was in w0 and is not in D0 is as it was. -/
structure Heap (w0 : World) (O0 D0 : Nat → Prop) (w : World) (O : Nat → Prop) (H : AH) : Prop where
  ext : Ext w0 O0 D0 w O
  bound : ∀ b, O b → b < w.heap.size
  dom : ∀ b o, H b = some o → O b ∧ (b < w0.heap.size → D0 b)
  rep : ∀ b o, H b = some o → ObjRep w O b o

/-- What a function's end is told: the value, the heap. -/
def Returns (w : World) (O D : Nat → Prop) (K : AV → AH → Prop) (e : Ending) (w' : World) : Prop :=
  ∃ r H' O' v, e = .returned v ∧ K r H' ∧ Heap w O D w' O' H' ∧ Rep w' O' r v

def dom (H : AH) (b : Nat) : Prop := ∃ o, H b = some o

/-- A function of the program that has a body. -/
def Callable (P : Program) (f : FuncId) : Prop := ∃ fn, P.funcs[f]? = some fn ∧ (fn.name == "runtime.NumGoroutine") = false ∧ fn.body.isNone = false

/-- Called with such arguments, over such a heap, the function returns, and K holds of what it returns and of the heap behind it. -/
structure CallOK (P : Program) (f : FuncId) (args : List AV) (H : AH) (K : AV → AH → Prop) : Prop where
  callable : Callable P f
  run : ∀ (w : World) (O : Nat → Prop) (vs : List Value), (∀ b, O b → b < w.heap.size) → (∀ b o, H b = some o → O b ∧ ObjRep w O b o) → args.length = vs.length →
    (∀ (i : Nat) x y, args[i]? = some x → vs[i]? = some y → Rep w O x y) → Calls P f vs.toArray w (Returns w O (dom H) K)

theorem Returns.mono {w : World} {O D : Nat → Prop} {K K' : AV → AH → Prop} (hk : ∀ r H, K r H → K' r H) {e : Ending} {w' : World} (h : Returns w O D K e w') : Returns w O D K' e w' := by
  obtain ⟨r, H', O', v, h1, h2, h3⟩ := h
  exact ⟨r, H', O', v, h1, hk _ _ h2, h3⟩

theorem CallOK.mono {P : Program} {f : FuncId} {args : List AV} {H : AH} {K K' : AV → AH → Prop} (h : CallOK P f args H K) (hk : ∀ r H, K r H → K' r H) : CallOK P f args H K' :=
  ⟨h.1, fun w O vs hO hH hl hr => (h.2 w O vs hO hH hl hr).mono fun _ _ => Returns.mono hk⟩

end Go.Fw
