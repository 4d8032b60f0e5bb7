/- Made values: boxes, rows, structs, literals of slices. -/
import Derived.Test.YtcmakpkdliiigaaFf
namespace Go.Fw
set_option maxHeartbeats 8000000
set_option linter.all false
open Go

variable {P : Program} {w w0 : World} {O O0 D0 : Nat → Prop} {H : AH} {s : St} {a : Act} {n : Nat} {t : TypeId}

/-- An operation that makes memory: its value and the heap behind it. -/
def Makes (P : Program) (w0 : World) (O0 D0 : Nat → Prop) (w : World) (O : Nat → Prop) (K : AV → AH → Prop) (m : Sem Value) : Prop :=
  ∃ x H' O' y w', K x H' ∧ m.run P w = .ok y w' ∧ Heap w0 O0 D0 w' O' H' ∧ Ext w O O w' O' ∧ Rep w' O' x y

theorem zeros_ok {cs : List AV} (h : zeros P t = some cs) : ∃ i z, P.info? t = some i ∧ i.zero = some z ∧ cs = z.cells.toList.map AV.v := by
  unfold zeros at h
  cases hi : P.info? t with
  | none => simp [hi] at h
  | some i =>
    cases hz : i.zero with
    | none => simp [hi, hz] at h
    | some z => exact ⟨i, z, rfl, hz, by simp [hi, hz] at h; exact h.symm⟩

/-- A block of one element. -/
theorem new_one {cs : List AV} {vs : Array Value} (hH : Heap w0 O0 D0 w O H) (u : TypeId) (hc : allCell cs = true) (hl : cs.length = vs.size) (hr : ∀ (i : Nat) x y, cs[i]? = some x → vs[i]? = some y → Rep w O x y) :
    Heap w0 O0 D0 (w.alloc (.cells vs u)) (plus O w.heap.size) (H.set w.heap.size ⟨cs.length, [cs]⟩) := by
  refine hH.new u (by simp; omega) ?_ ?_
  · intro e he
    simp only [List.mem_singleton] at he
    subst he
    exact ⟨rfl, allCell_mem hc⟩
  · intro i e f x hi hf
    match i, hi with
    | 0, hi =>
      simp at hi; subst hi
      have hlt := (List.getElem?_eq_some_iff.1 hf).1
      exact ⟨vs[f]'(by omega), by simp [Array.getElem?_eq_getElem (show f < vs.size by omega)], hr f x _ hf (Array.getElem?_eq_getElem _)⟩
    | i + 1, hi => simp at hi

theorem box_ok {x : AV} {vx : Value} {K : AV → AH → Prop} (h : abox x H K) (hx : Rep w O x vx) (hH : Heap w0 O0 D0 w O H) : Makes P w0 O0 D0 w O K (Instr.box t vx) := by
  obtain ⟨hc, h⟩ := h
  have hk := h _ hH.fresh
  have hcr := cells_rep hx hc
  refine ⟨_, _, _, .pointer (some ⟨w.heap.size, 0, none⟩), w.alloc (.cells vx.cells t), hk, ?_, new_one hH t hc hcr.1 hcr.2, (Ext.alloc w O _).all fun b hb => hb.elim, ?_⟩
  · simp [Instr.box, newVar, newRow]
  · have := Rep.ptr (w := w.alloc (.cells vx.cells t)) (O := plus O w.heap.size) w.heap.size x.cells.length 0 0 (by simp)
    simpa using this

theorem vals_rep (l : List Value) : ∀ (i : Nat) x y, (l.map AV.v)[i]? = some x → l[i]? = some y → Rep w O x y := by
  intro i x y hx hy
  rw [List.getElem?_map, hy] at hx
  simp only [Option.map_some, Option.some.injEq] at hx
  rw [← hx]; exact .v y

theorem alloc_ok {K : AV → AH → Prop} (h : aalloc P t H K) (hH : Heap w0 O0 D0 w O H) : Makes P w0 O0 D0 w O K (Instr.alloc t true (.tuple #[])) := by
  unfold aalloc at h
  split at h
  · rename_i cs hcs
    obtain ⟨i, z, hi, hz, rfl⟩ := zeros_ok hcs
    obtain ⟨hc, h⟩ := h
    have hk := h _ hH.fresh
    refine ⟨_, _, _, .pointer (some ⟨w.heap.size, 0, none⟩), w.alloc (.cells z.cells t), hk, ?_, new_one hH t hc (by simp) (fun i x y h1 h2 => vals_rep z.cells.toList i x y h1 (by simpa using h2)), (Ext.alloc w O _).all fun b hb => hb.elim, ?_⟩
    · simp [Instr.alloc, zeroValue, typeInfo, hi, hz, newVar, newRow]
    · have := Rep.ptr (w := w.alloc (.cells z.cells t)) (O := plus O w.heap.size) w.heap.size (z.cells.toList.map AV.v).length 0 0 (by simp)
      simpa using this
  · exact h.elim

/-- Rows of one and the same cells. -/
theorem rep_rows (z : Array Value) (k : Nat) (hz : 0 < z.size) (i f : Nat) (e : List AV) (x : AV) (hi : (List.replicate k (z.toList.map AV.v))[i]? = some e) (hf : e[f]? = some x) :
    ((Array.range (k * z.size)).map fun j => z[j % z.size]!)[i * z.size + f]? = z[f]? ∧ z[f]? = some (z[f]?.getD undef) ∧ Rep w O x (z[f]?.getD undef) := by
  have hik : i < k := by simpa using (List.getElem?_eq_some_iff.1 hi).1
  have he : e = z.toList.map AV.v := by
    rw [List.getElem?_replicate, if_pos hik] at hi
    simpa using hi.symm
  subst he
  have hfz : f < z.size := by simpa using (List.getElem?_eq_some_iff.1 hf).1
  have hlt : i * z.size + f < k * z.size := by
    have : (i + 1) * z.size ≤ k * z.size := Nat.mul_le_mul_right _ hik
    rw [Nat.add_mul, Nat.one_mul] at this
    omega
  have hmod : (i * z.size + f) % z.size = f := by rw [Nat.mul_comm, Nat.mul_add_mod, Nat.mod_eq_of_lt hfz]
  refine ⟨?_, ?_, ?_⟩
  · simp [hlt, hmod, hfz]
  · simp [hfz]
  · rw [List.getElem?_map] at hf
    simp [hfz] at hf
    simp only [hfz, Array.getElem?_eq_getElem, Option.getD_some]
    rw [← hf]
    exact .v _

theorem make_ok {l c : AV} {vl vc : Value} {K : AV → AH → Prop} (h : amake P t l c H K) (hl : Rep w O l vl) (hc : Rep w O c vc) (hH : Heap w0 O0 D0 w O H) : Makes P w0 O0 D0 w O K (Instr.makeSlice t vl vc) := by
  unfold amake at h
  split at h
  · rename_i el nn mm hu
    split at h
    · rename_i zz hzz
      obtain ⟨i, z, hi, hz, rfl⟩ := zeros_ok hzz
      obtain ⟨h0, hlc, hb, h63, hzl, hzc, hzall, h⟩ := h
      have hk := h _ hH.fresh
      cases hl; cases hc
      have hsz : P.cellsOf el = z.cells.size := by simpa using hzc.symm
      have his : i.size = z.cells.size := by rw [← hsz]; simp [Program.cellsOf, hi]
      have hbo : P.bytesOf el = i.bytes := by simp [Program.bytesOf, hi]
      have hrun := run_make (P := P) w t el i z hu hi hz .i64 .i64 nn mm h0 hlc (by rw [hbo, Int.mul_comm] at hb; exact hb) h63
      have hzp : 0 < z.cells.size := by simpa using hzl
      refine ⟨_, _, _, _, _, hk, hrun, ?_, (Ext.alloc w O _).all fun b hb => hb.elim, ?_⟩
      · refine hH.new el ?_ ?_ ?_
        · simp [madeCells, hsz, his]
        · intro e he
          have := List.eq_of_mem_replicate he
          subst this
          exact ⟨hzc, allCell_mem hzall⟩
        · intro j e f x hj hf
          obtain ⟨h1, h2, h3⟩ := rep_rows (w := w) (O := O) z.cells mm.toNat hzp j f e x hj hf
          refine ⟨_, ?_, h3⟩
          rw [hsz, his]
          unfold madeCells
          rw [h1]
          exact h2
      · have := Rep.ov (w := w.alloc (.cells (madeCells z.cells (mm.toNat * i.size)) el)) (O := plus O w.heap.size) w.heap.size 0 (P.cellsOf el) nn.toNat mm.toNat (some mm.toNat) _ el (0, 0) (alloc_new w _)
          (by simp [madeCells, hsz, his]) (by omega) (by intro k hk; cases hk; rfl)
        simpa using this
    · exact h.elim
  · exact h.elim

/-- Cells written one behind another. -/
theorem fold_cells (off : Nat) (l : List Value) : ∀ (k : Nat) (cs : Array Value), off + k + l.length ≤ cs.size →
    let r := (l.zipIdx k).foldl (fun (cs : Array Value) (p : Value × Nat) => cs.setIfInBounds (off + p.2) p.1) cs
    r.size = cs.size ∧ ∀ j, r[j]? = if off + k ≤ j ∧ j < off + k + l.length then l[j - (off + k)]? else cs[j]? := by
  induction l with
  | nil => intro k cs _; exact ⟨rfl, fun j => by simp; omega⟩
  | cons v l ih =>
    intro k cs hle
    simp only [List.length_cons] at hle
    obtain ⟨h1, h2⟩ := ih (k + 1) (cs.setIfInBounds (off + k) v) (by simp; omega)
    refine ⟨by simpa [List.zipIdx_cons] using h1, fun j => ?_⟩
    have := h2 j
    simp only [List.zipIdx_cons, List.foldl_cons]
    rw [this]
    simp only [List.length_cons]
    by_cases hj : j = off + k
    · subst hj
      rw [if_neg (by omega), if_pos (by omega)]
      simp [show off + k < cs.size by omega]
    · by_cases hin : off + (k + 1) ≤ j ∧ j < off + (k + 1) + l.length
      · rw [if_pos hin, if_pos (by omega)]
        have : j - (off + k) = (j - (off + (k + 1))) + 1 := by omega
        rw [this, List.getElem?_cons_succ]
      · rw [if_neg hin, if_neg (by omega), Array.getElem?_setIfInBounds_ne (by omega)]

/-- What stands in an array of cells is what is told of it. -/
def CellsRep (w : World) (O : Nat → Prop) (cs : List AV) (vs : Array Value) : Prop :=
  cs.length = vs.size ∧ allCell cs = true ∧ ∀ (i : Nat) x y, cs[i]? = some x → vs[i]? = some y → Rep w O x y

theorem allCell_of {l : List AV} (h : ∀ x ∈ l, x.cell = true) : allCell l = true := by
  induction l with
  | nil => rfl
  | cons y r ih => simp only [allCell, Bool.and_eq_true]; exact ⟨h y (by simp), ih fun x hx => h x (by simp [hx])⟩

theorem CellsRep.splice {cs ys : List AV} {vs : Array Value} {us : Array Value} {off : Nat} (h : CellsRep w O cs vs) (hy : CellsRep w O ys us) (hl : off + ys.length ≤ cs.length) :
    CellsRep w O (splice cs off ys) (us.zipIdx.foldl (fun cs (c, j) => cs.setIfInBounds (off + j) c) vs) := by
  have hf := fold_cells off us.toList 0 vs (by have := h.1; have := hy.1; simp; omega)
  have he : us.zipIdx.foldl (fun (cs : Array Value) (p : Value × Nat) => cs.setIfInBounds (off + p.2) p.1) vs = (us.toList.zipIdx 0).foldl (fun (cs : Array Value) (p : Value × Nat) => cs.setIfInBounds (off + p.2) p.1) vs := by
    rw [← Array.foldl_toList]; simp
  simp only at hf
  refine ⟨?_, ?_, ?_⟩
  · show _ = (us.zipIdx.foldl (fun (cs : Array Value) (p : Value × Nat) => cs.setIfInBounds (off + p.2) p.1) vs).size
    rw [he, hf.1, splice_length hl, h.1]
  · refine allCell_of fun x hx => ?_
    rcases splice_mem hx with hx | hx
    · exact allCell_mem h.2.1 x hx
    · exact allCell_mem hy.2.1 x hx
  · intro i x y hx hv
    have hv' : (us.zipIdx.foldl (fun (cs : Array Value) (p : Value × Nat) => cs.setIfInBounds (off + p.2) p.1) vs)[i]? = some y := hv
    rw [he, hf.2 i] at hv'
    rw [splice_get hl] at hx
    simp only [Nat.add_zero, Array.length_toList, ← hy.1] at hv'
    split at hx
    · rename_i hin
      rw [if_pos hin, Array.getElem?_toList] at hv'
      exact hy.2.2 _ _ _ hx hv'
    · rename_i hout
      rw [if_neg hout] at hv'
      exact h.2.2 _ _ _ hx hv'

theorem cells_of {x : AV} {y : Value} (h : Rep w O x y) (hc : allCell x.cells = true) : CellsRep w O x.cells y.cells := ⟨(cells_rep h hc).1, hc, (cells_rep h hc).2⟩

theorem zero_cells {z : Value} (h : allCell (z.cells.toList.map AV.v) = true) : CellsRep w O (z.cells.toList.map AV.v) z.cells :=
  ⟨by simp, h, fun i x y h1 h2 => vals_rep _ i x y h1 (by simpa using h2)⟩

theorem fill_ok (fs : Array Field) (hm : Mod w0 O0 D0 n s H a w O) : ∀ (ps : List (Nat × Operand)) (cs : List AV) (vs : Array Value) (r : List AV), afill P fs s ps cs = some r → CellsRep w O cs vs →
    ∃ out, Instr.fill (fun i => (fs.map fun f => (f.offset, P.cellsOf f.type))[i]?) vs (ps.map fun p => (p.1, a.eval p.2)) = some out ∧ CellsRep w O r out
  | [], cs, vs, r, h, hc => by simp only [afill, Option.some.injEq] at h; subst h; exact ⟨vs, rfl, hc⟩
  | (i, x) :: ps, cs, vs, r, h, hc => by
    simp only [afill] at h
    split at h
    · rename_i fd hfd
      split at h
      · rename_i hcond
        obtain ⟨h1, h2, h3⟩ := hcond
        have hx := cells_of (hm.ev x) h3
        obtain ⟨out, ho, hr⟩ := fill_ok fs hm ps _ _ r h (hc.splice hx h2)
        refine ⟨out, ?_, hr⟩
        have e1 : (a.eval x).cells.size = P.cellsOf fd.type := by rw [← hx.1]; exact h1
        have e2 : ¬ fd.offset + (a.eval x).cells.size > vs.size := by rw [← hx.1, ← hc.1]; omega
        simp only [List.map_cons, Instr.fill, Array.getElem?_map, hfd, Option.map_some]
        rw [if_neg (by simp [e1]; omega)]
        simp only [Array.getElem?_map] at ho
        exact ho
      · cases h
    · cases h

theorem fillA_ok (es : Nat) (hm : Mod w0 O0 D0 n s H a w O) : ∀ (ps : List (Nat × Operand)) (cs : List AV) (vs : Array Value) (r : List AV), afillA es s ps cs = some r → CellsRep w O cs vs →
    ∃ out, Instr.fill (fun i => some (i * es, es)) vs (ps.map fun p => (p.1, a.eval p.2)) = some out ∧ CellsRep w O r out
  | [], cs, vs, r, h, hc => by simp only [afillA, Option.some.injEq] at h; subst h; exact ⟨vs, rfl, hc⟩
  | (i, x) :: ps, cs, vs, r, h, hc => by
    simp only [afillA] at h
    split at h
    · rename_i hcond
      obtain ⟨h1, h2, h3⟩ := hcond
      have hx := cells_of (hm.ev x) h3
      obtain ⟨out, ho, hr⟩ := fillA_ok es hm ps _ _ r h (hc.splice hx h2)
      refine ⟨out, ?_, hr⟩
      have e1 : (a.eval x).cells.size = es := by rw [← hx.1]; exact h1
      have e2 : ¬ i * es + (a.eval x).cells.size > vs.size := by rw [← hx.1, ← hc.1]; omega
      simp only [List.map_cons, Instr.fill]
      rw [if_neg (by simp [e1]; omega)]
      exact ho
    · cases h

theorem toArray_map {α β : Type} (l : Array α) {f : α → β} : (l.toList.map f).toArray = l.map f := by
  cases l; simp

theorem run_places (fs : Array Field) (h : sizedF P fs.toList) : (fs.mapM (m := Sem) fun (f : Field) => do pure (f.offset, ← sizeOf f.type)).run P w = .ok (fs.map fun f => (f.offset, P.cellsOf f.type)) w := by
  have main : ∀ (l : List Field), sizedF P l → (l.mapM (m := Sem) fun (f : Field) => do pure (f.offset, ← sizeOf f.type)).run P w = .ok (l.map fun f => (f.offset, P.cellsOf f.type)) w := by
    intro l
    induction l with
    | nil => intro _; rfl
    | cons f r ih =>
      intro hl
      simp only [List.mapM_cons, Sem.run_bind, run_cells (w := w) (.inl hl.1), Result.andThen_ok, Sem.run_pure, ih hl.2, List.map_cons]
  rw [Array.mapM_eq_mapM_toList]
  rw [map_eq_pure_bind, Sem.run_bind, main fs.toList h]
  show Result.ok (List.toArray (fs.toList.map fun f => (f.offset, P.cellsOf f.type))) w = _
  rw [toArray_map fs]

theorem build_ok {ps : Array (Nat × Operand)} {K : AV → Prop} (h : abuild P t ps s K) (hm : Mod w0 O0 D0 n s H a w O) : Gives P w O K (Instr.build t (ps.map fun (i, x) => (i, a.eval x))) := by
  unfold abuild at h
  split at h
  · rename_i fs zz hu hzz
    obtain ⟨i, z, hi, hz, rfl⟩ := zeros_ok hzz
    obtain ⟨hs, hza, h⟩ := h
    split at h
    · rename_i cs hcs
      · obtain ⟨out, ho, hr⟩ := fill_ok fs hm ps.toList _ _ cs hcs (zero_cells (w := w) (O := O) hza)
        refine ⟨_, .agg out, h, ?_, ?_⟩
        · have := Rep.agg (w := w) (O := O) cs out.toList (by simpa using hr.1) (fun i x y hx hy => hr.2.2 i x y hx (by simpa using hy))
          simpa using this
        · have ho' : Instr.fill (fun i => (fs.map fun f => (f.offset, P.cellsOf f.type))[i]?) z.cells ((ps.map fun (p : Nat × Operand) => (p.1, a.eval p.2)).toList) = some out := by simpa using ho
          simp only [Instr.build, Sem.run_bind, zeroValue, typeInfo, run_program, Result.andThen_ok, hi, Sem.run_pure, hz, run_underlying hu]
          erw [run_places fs hs]
          simp only [Result.andThen_ok]
          erw [ho']
          rfl
    · exact h.elim
  · rename_i len el zz hu hzz
    obtain ⟨i, z, hi, hz, rfl⟩ := zeros_ok hzz
    obtain ⟨hs, hza, h⟩ := h
    split at h
    · rename_i cs hcs
      obtain ⟨out, ho, hr⟩ := fillA_ok _ hm ps.toList _ _ cs hcs (zero_cells (w := w) (O := O) hza)
      refine ⟨_, .agg out, h, ?_, ?_⟩
      · have := Rep.agg (w := w) (O := O) cs out.toList (by simpa using hr.1) (fun i x y hx hy => hr.2.2 i x y hx (by simpa using hy))
        simpa using this
      · have ho' : Instr.fill (fun i => some (i * P.cellsOf el, P.cellsOf el)) z.cells ((ps.map fun (p : Nat × Operand) => (p.1, a.eval p.2)).toList) = some out := by simpa using ho
        simp only [Instr.build, Sem.run_bind, zeroValue, typeInfo, run_program, Result.andThen_ok, hi, Sem.run_pure, hz, run_underlying hu, run_cells (w := w) (.inl hs)]
        erw [ho']
        rfl
    · exact h.elim
  · exact h.elim

/-- Rows of cells. -/
def RowsRep (w : World) (O : Nat → Prop) (es : Nat) (xs : List (List AV)) (vs : Array Value) : Prop :=
  xs.length * es ≤ vs.size ∧ (∀ e ∈ xs, e.length = es ∧ ∀ x ∈ e, x.cell = true) ∧ ∀ (i : Nat) e (f : Nat) x, xs[i]? = some e → e[f]? = some x → ∃ y, vs[i * es + f]? = some y ∧ Rep w O x y

theorem RowsRep.set {es i : Nat} {xs : List (List AV)} {y : List AV} {vs us : Array Value} (h : RowsRep w O es xs vs) (hy : CellsRep w O y us) (hl : y.length = es) (hi : i < xs.length) :
    RowsRep w O es (xs.set i y) (us.zipIdx.foldl (fun cs (c, j) => cs.setIfInBounds (i * es + j) c) vs) := by
  have hb : i * es + es ≤ vs.size := by
    have : (i + 1) * es ≤ xs.length * es := Nat.mul_le_mul_right _ hi
    rw [Nat.add_mul, Nat.one_mul] at this
    exact Nat.le_trans this h.1
  have hf := fold_cells (i * es) us.toList 0 vs (by have := hy.1; simp; omega)
  have he : us.zipIdx.foldl (fun (cs : Array Value) (p : Value × Nat) => cs.setIfInBounds (i * es + p.2) p.1) vs = (us.toList.zipIdx 0).foldl (fun (cs : Array Value) (p : Value × Nat) => cs.setIfInBounds (i * es + p.2) p.1) vs := by
    rw [← Array.foldl_toList]; simp
  simp only at hf
  have hus : us.size = es := by rw [← hy.1]; exact hl
  refine ⟨?_, ?_, ?_⟩
  · show _ ≤ (us.zipIdx.foldl (fun (cs : Array Value) (p : Value × Nat) => cs.setIfInBounds (i * es + p.2) p.1) vs).size
    rw [he, hf.1, List.length_set]; exact h.1
  · intro e hmem
    rcases List.mem_or_eq_of_mem_set hmem with hmem | rfl
    · exact h.2.1 e hmem
    · exact ⟨hl, allCell_mem hy.2.1⟩
  · intro k e f x hk hfx
    show ∃ v, (us.zipIdx.foldl (fun (cs : Array Value) (p : Value × Nat) => cs.setIfInBounds (i * es + p.2) p.1) vs)[k * es + f]? = some v ∧ Rep w O x v
    rw [he, hf.2]
    simp only [Nat.add_zero, Array.length_toList, hus]
    rw [List.getElem?_set] at hk
    by_cases hik : i = k
    · subst hik
      rw [if_pos rfl, if_pos hi] at hk
      cases hk
      have hfl : f < y.length := (List.getElem?_eq_some_iff.1 hfx).1
      rw [if_pos (by omega)]
      have : i * es + f - i * es = f := by omega
      rw [this, Array.getElem?_toList]
      have hv : us[f]? = some (us[f]'(by omega)) := Array.getElem?_eq_getElem (by omega)
      exact ⟨_, hv, hy.2.2 _ _ _ hfx hv⟩
    · rw [if_neg hik] at hk
      have hfl : f < e.length := (List.getElem?_eq_some_iff.1 hfx).1
      have hel := (h.2.1 e (List.mem_of_getElem? hk)).1
      have hne : ¬ (i * es ≤ k * es + f ∧ k * es + f < i * es + es) := by
        rintro ⟨ha, hb⟩
        rcases Nat.lt_or_gt_of_ne hik with hlt | hgt
        · have : (i + 1) * es ≤ k * es := Nat.mul_le_mul_right _ hlt
          rw [Nat.add_mul, Nat.one_mul] at this
          omega
        · have : (k + 1) * es ≤ i * es := Nat.mul_le_mul_right _ hgt
          rw [Nat.add_mul, Nat.one_mul] at this
          omega
      rw [if_neg hne]
      exact h.2.2 k e f x hk hfx

theorem fillS_ok (es : Nat) (hm : Mod w0 O0 D0 n s H a w O) : ∀ (ps : List (Nat × Operand)) (xs : List (List AV)) (vs : Array Value) (r : List (List AV)), afillS es s ps xs = some r → RowsRep w O es xs vs →
    ∃ out, Instr.fill (fun i => some (i * es, es)) vs (ps.map fun p => (p.1, a.eval p.2)) = some out ∧ RowsRep w O es r out
  | [], cs, vs, r, h, hc => by simp only [afillS, Option.some.injEq] at h; subst h; exact ⟨vs, rfl, hc⟩
  | (i, x) :: ps, cs, vs, r, h, hc => by
    simp only [afillS] at h
    split at h
    · rename_i hcond
      obtain ⟨h1, h2, h3⟩ := hcond
      have hx := cells_of (hm.ev x) h3
      obtain ⟨out, ho, hr⟩ := fillS_ok es hm ps _ _ r h (hc.set hx h1 h2)
      refine ⟨out, ?_, hr⟩
      have e1 : (a.eval x).cells.size = es := by rw [← hx.1]; exact h1
      have e2 : i * es + es ≤ vs.size := by
        have : (i + 1) * es ≤ cs.length * es := Nat.mul_le_mul_right _ h2
        rw [Nat.add_mul, Nat.one_mul] at this
        exact Nat.le_trans this hc.1
      simp only [List.map_cons, Instr.fill]
      rw [if_neg (by simp [e1]; omega)]
      exact ho
    · cases h

/-- A row that nobody owns may be read. -/
theorem RowsRep.imm {es : Nat} {xs : List (List AV)} {vs : Array Value} (h : RowsRep w O es xs vs) {b : Nat} {u : TypeId} {fr : Nat × Nat} (hb : w.heap[b]? = some (.cells vs u fr)) (hO : ¬ O b) (c : Nat) (hc : xs.length ≤ c) :
    Rep w O (.imm es xs) (.slice (some ⟨b, 0, none⟩) xs.length c) := by
  refine .imm es xs b 0 c vs u fr (fun i f => (vs[i * es + f]?).getD undef) hb hO hc h.2.1 ?_ ?_
  · intro i e f x hi hf
    obtain ⟨y, hy, _⟩ := h.2.2 i e f x hi hf
    rw [Nat.zero_add, hy]
    rfl
  · intro i e f x hi hf
    obtain ⟨y, hy, hr⟩ := h.2.2 i e f x hi hf
    simp only [hy, Option.getD_some]
    exact hr

theorem RowsRep.ext {w' : World} {O' D : Nat → Prop} {es : Nat} {xs : List (List AV)} {vs : Array Value} (h : RowsRep w O es xs vs) (k : Ext w O D w' O') (hD : ∀ b, D b → O b) : RowsRep w' O' es xs vs :=
  ⟨h.1, h.2.1, fun i e f x hi hf => by
    obtain ⟨y, h1, h2⟩ := h.2.2 i e f x hi hf
    exact ⟨y, h1, h2.ext k hD⟩⟩

theorem buildS_ok {len : Nat} {ps : Array (Nat × Operand)} {K : AV → Prop} (h : abuildS P t len ps s K) (hm : Mod w0 O0 D0 n s H a w O) :
    Makes P w0 O0 D0 w O (fun x H' => K x ∧ H' = H) (Instr.buildSlice t len (ps.map fun (i, x) => (i, a.eval x))) := by
  unfold abuildS at h
  split at h
  · rename_i el hu
    split at h
    · rename_i zz hzz
      obtain ⟨i, z, hi, hz, rfl⟩ := zeros_ok hzz
      obtain ⟨hzl, hzc, hza, hlim, h⟩ := h
      split at h
      · rename_i xs hxs
        have hsz : z.cells.size = P.cellsOf el := by simpa using hzc
        have hz0 : 0 < z.cells.size := by simpa using hzl
        have hlm : ¬ len * P.cellsOf el > 2 ^ 24 := by rw [← hsz]; simpa using hlim
        simp only [List.length_map, Array.length_toList] at hxs hza h
        have hstart : RowsRep w O z.cells.size (List.replicate len (z.cells.toList.map AV.v)) ((Array.range (len * z.cells.size)).map fun j => z.cells[j % z.cells.size]!) := by
          refine ⟨by simp, ?_, ?_⟩
          · intro e he
            have := List.eq_of_mem_replicate he
            subst this
            exact ⟨by simp, allCell_mem hza⟩
          · intro j e f x hj hf
            obtain ⟨h1, h2, h3⟩ := rep_rows (w := w) (O := O) z.cells len hz0 j f e x hj hf
            exact ⟨_, h1.trans h2, h3⟩
        obtain ⟨out, ho, hr⟩ := fillS_ok z.cells.size hm ps.toList _ _ xs hxs hstart
        have hxl : xs.length = len := by
          have gen : ∀ (ps : List (Nat × Operand)) (xs r : List (List AV)), afillS z.cells.size s ps xs = some r → r.length = xs.length := by
            intro ps
            induction ps with
            | nil => intro xs r h; simp only [afillS, Option.some.injEq] at h; rw [h]
            | cons p ps ih =>
              intro xs r h
              obtain ⟨j, o⟩ := p
              simp only [afillS] at h
              split at h
              · rw [ih _ _ h, List.length_set]
              · cases h
          rw [gen _ _ _ hxs, List.length_replicate]
        have hx : ∃ x, K x ∧ Rep (w.alloc (.cells out el)) O x (.slice (some ⟨w.heap.size, 0, none⟩) len len) := by
          by_cases h0 : len = 0
          · subst h0
            rw [if_pos rfl] at h
            exact ⟨_, h, .ovn _ _⟩
          · rw [if_neg h0] at h
            refine ⟨_, h, ?_⟩
            rw [← hxl]
            exact (hr.ext (Ext.allocF w O _) fun b hb => hb.elim).imm (alloc_new w _) (fun hO => absurd (hm.heap.bound _ hO) (Nat.lt_irrefl _)) _ (Nat.le_refl _)
        obtain ⟨x, hkx, hrx⟩ := hx
        refine ⟨x, H, O, .slice (some ⟨w.heap.size, 0, none⟩) len len, w.alloc (.cells out el), ⟨hkx, rfl⟩, ?_, hm.heap.allocF _, (Ext.allocF w O _).all fun b hb => hb.elim, hrx⟩
        · have ho' : Instr.fill (fun i => some (i * P.cellsOf el, P.cellsOf el)) ((Array.range (len * P.cellsOf el)).map fun j => z.cells[j % z.cells.size]!) ((ps.map fun (p : Nat × Operand) => (p.1, a.eval p.2)).toList) = some out := by
            rw [hsz] at ho; simpa [hsz] using ho
          simp only [Instr.buildSlice, Sem.run_bind, run_underlying hu, Result.andThen_ok, run_cells (w := w) (.inl (show P.cellsOf el ≠ 0 by omega))]
          rw [if_neg hlm]
          by_cases h0 : len * P.cellsOf el = 0
          · rw [if_pos h0]
            have hsame : ((Array.range (len * P.cellsOf el)).map fun j => z.cells[j % z.cells.size]!) = ((Array.range (len * P.cellsOf el)).map fun j => (#[] : Array Value)[j % (#[] : Array Value).size]!) := by
              simp [h0]
            rw [hsame] at ho'
            simp only [Sem.run_bind, Sem.run_pure, Result.andThen_ok]
            erw [ho']
            rfl
          · rw [if_neg h0]
            simp only [Sem.run_bind, Sem.run_pure, Result.andThen_ok, zeroValue, typeInfo, run_program, hi, hz]
            erw [ho']
            rfl
      · exact h.elim
    · exact h.elim
  · exact h.elim

end Go.Fw
