/- append: what is given up and what is appended become one vector. -/
import Derived.Test.YtcmakpkdliiigaaFg
namespace Go.Fw
set_option maxHeartbeats 8000000
set_option linter.all false
open Go

variable {P : Program} {w w0 : World} {O O0 D0 : Nat → Prop} {H : AH} {s : St} {a : Act} {n : Nat} {t : TypeId}

/-- The cells of some rows, one behind another. -/
structure Cells (w : World) (O : Nat → Prop) (es : Nat) (xs : List (List AV)) (vs : List Value) : Prop where
  len : vs.length = xs.length * es
  rows : ∀ e ∈ xs, e.length = es ∧ ∀ x ∈ e, x.cell = true
  rep : ∀ (i : Nat) e (f : Nat) x, xs[i]? = some e → e[f]? = some x → ∃ y, vs[i * es + f]? = some y ∧ Rep w O x y

theorem Cells.nil (w : World) (O : Nat → Prop) (es : Nat) : Cells w O es [] [] := ⟨by simp, fun e he => by simp at he, fun i e f x hi => by simp at hi⟩

theorem Cells.one {es : Nat} {xs : List (List AV)} {vs : List Value} (h : Cells w O es xs vs) : ∀ v ∈ vs, v.oneCell' = true := by
  intro v hv
  obtain ⟨k, hk⟩ := List.getElem?_of_mem hv
  have hkl := (List.getElem?_eq_some_iff.1 hk).1
  rw [h.len] at hkl
  have hes : 0 < es := by
    rcases Nat.eq_zero_or_pos es with h0 | h0
    · subst h0; simp at hkl
    · exact h0
  have hi : k / es < xs.length := by
    rw [Nat.div_lt_iff_lt_mul hes]; exact hkl
  have hxi : xs[k / es]? = some xs[k / es] := List.getElem?_eq_getElem hi
  have hel := (h.rows _ (List.getElem_mem hi)).1
  have hf : k % es < (xs[k / es]).length := by rw [hel]; exact Nat.mod_lt _ hes
  obtain ⟨y, hy, hr⟩ := h.rep _ _ _ _ hxi (List.getElem?_eq_getElem hf)
  have hkk : k / es * es + k % es = k := by rw [Nat.mul_comm]; exact Nat.div_add_mod k es
  rw [hkk, hk] at hy
  cases hy
  exact hr.oneCell ((h.rows _ (List.getElem_mem hi)).2 _ (List.getElem_mem hf))

theorem Cells.append {es : Nat} {xs ys : List (List AV)} {vs us : List Value} (h : Cells w O es xs vs) (k : Cells w O es ys us) : Cells w O es (xs ++ ys) (vs ++ us) where
  len := by simp [h.len, k.len, Nat.add_mul]
  rows := fun e he => (List.mem_append.1 he).elim (h.rows e) (k.rows e)
  rep := fun i e f x hi hf => by
    rw [List.getElem?_append] at hi
    split at hi
    · rename_i hlt
      obtain ⟨y, hy, hr⟩ := h.rep i e f x hi hf
      exact ⟨y, by rw [List.getElem?_append_left (List.getElem?_eq_some_iff.1 hy).1]; exact hy, hr⟩
    · rename_i hge
      obtain ⟨y, hy, hr⟩ := k.rep _ e f x hi hf
      refine ⟨y, ?_, hr⟩
      have : (i - xs.length) * es + xs.length * es = i * es := by rw [← Nat.add_mul]; congr 1; omega
      rw [List.getElem?_append_right (by rw [h.len]; have := Nat.mul_le_mul_right es (Nat.not_lt.1 hge); omega), h.len, ← hy]
      congr 1
      omega

theorem Cells.ext {w' : World} {O' D : Nat → Prop} {es : Nat} {xs : List (List AV)} {vs : List Value} (h : Cells w O es xs vs) (k : Ext w O D w' O') (hD : ∀ b, D b → O b) : Cells w' O' es xs vs :=
  ⟨h.len, h.rows, fun i e f x hi hf => by
    obtain ⟨y, h1, h2⟩ := h.rep i e f x hi hf
    exact ⟨y, h1, h2.ext k hD⟩⟩

/-- A run of rows out of an array of cells. -/
theorem Cells.of_array {es o : Nat} {xs : List (List AV)} {cells : Array Value} (hl : o + xs.length * es ≤ cells.size) (hrows : ∀ e ∈ xs, e.length = es ∧ ∀ x ∈ e, x.cell = true)
    (h : ∀ (i : Nat) e (f : Nat) x, xs[i]? = some e → e[f]? = some x → ∃ y, cells[o + i * es + f]? = some y ∧ Rep w O x y) : Cells w O es xs ((cells.toList.drop o).take (xs.length * es)) where
  len := by simp; omega
  rows := hrows
  rep := fun i e f x hi hf => by
    obtain ⟨y, hy, hr⟩ := h i e f x hi hf
    refine ⟨y, ?_, hr⟩
    have hil := (List.getElem?_eq_some_iff.1 hi).1
    have hfl := (List.getElem?_eq_some_iff.1 hf).1
    have hel := (hrows e (List.mem_of_getElem? hi)).1
    have : (i + 1) * es ≤ xs.length * es := Nat.mul_le_mul_right _ hil
    rw [Nat.add_mul, Nat.one_mul] at this
    rw [List.getElem?_take, if_pos (by omega), List.getElem?_drop, Array.getElem?_toList, ← Nat.add_assoc]
    exact hy

/-- What is appended: its cells, wherever the world stands that has the same heap. -/
def Src (P : Program) (w : World) (es : Nat) (vx : Value) (m : Nat) (vs : List Value) : Prop :=
  (∀ w', (Builtin.lenOf vx).run P w' = .ok m w') ∧ ∀ w' : World, w'.heap = w.heap → (Builtin.firstCells es m vx).run P w' = .ok vs.toArray w'

theorem cell_heap {w w' : World} (h : w'.heap = w.heap) (p : Addr) : w'.cell? p = w.cell? p := by simp [World.cell?, h]

/-- The cells of a slice that lies in a block. -/
theorem src_block {es b o m c : Nat} {cells : Array Value} {u : TypeId} {fr : Nat × Nat} (hw : w.heap[b]? = some (.cells cells u fr)) (hl : o + m * es ≤ cells.size) :
    Src P w es (.slice (some ⟨b, o, none⟩) m c) m ((cells.toList.drop o).take (m * es)) := by
  refine ⟨fun w' => rfl, fun w' hw' => run_firstCells_some (P := P) w' es m ⟨b, o, none⟩ m c _ (by simp; omega) fun j v hj => ?_⟩
  rw [List.getElem?_take] at hj
  split at hj
  · rw [List.getElem?_drop, Array.getElem?_toList] at hj
    rw [cell_heap hw', add_zero_spot]
    simp [World.cell?, hw, hj]
  · cases hj

theorem src_nil {es : Nat} (ad : Option Addr) (c : Nat) : Src P w es (.slice ad 0 c) 0 [] := by
  refine ⟨fun w' => rfl, fun w' _ => ?_⟩
  cases ad with
  | none => rfl
  | some p => simp [Builtin.firstCells, loadCells, loadCellsFrom]

theorem imm_cells {es : Nat} {xs : List (List AV)} {vx : Value} (hes0 : 0 < es) (h : Rep w O (.imm es xs) vx) : ∃ vs ad c, vx = .slice ad xs.length c ∧ Cells w O es xs vs ∧ Src P w es vx xs.length vs := by
  cases h with
  | imn es ad c => exact ⟨[], ad, c, rfl, Cells.nil w O _, src_nil ad c⟩
  | imm es xs b o c cells t fr vals hw hO hc hes h1 h2 =>
    cases xs with
    | nil => exact ⟨[], _, c, rfl, Cells.nil w O _, src_nil _ c⟩
    | cons x0 r =>
      have hi : (x0 :: r)[r.length]? = some (x0 :: r)[r.length] := List.getElem?_eq_getElem (by simp)
      have hel := (hes _ (List.getElem_mem (show r.length < (x0 :: r).length by simp))).1
      have hf : ((x0 :: r)[r.length])[es - 1]? = some (((x0 :: r)[r.length])[es - 1]'(by omega)) := List.getElem?_eq_getElem (by omega)
      have hlt := (Array.getElem?_eq_some_iff.1 (h1 _ _ _ _ hi hf)).1
      have hle : o + (x0 :: r).length * es ≤ cells.size := by
        have : (x0 :: r).length * es = r.length * es + es := by simp [Nat.add_mul]
        omega
      exact ⟨_, _, c, rfl, Cells.of_array hle hes (fun i e f x hi hf => ⟨_, h1 i e f x hi hf, h2 i e f x hi hf⟩), src_block hw hle⟩

theorem bytes_len (c : ByteArray) : c.toList.length = c.size := by rw [ByteArray.toList_eq, Array.length_toList]; rfl

theorem src_ok {x : AV} {vx : Value} {es : Nat} {K : List (List AV) → Prop} (hes0 : 0 < es) (h : asrc x H es K) (hx : Rep w O x vx) (hH : Holds w O H) :
    ∃ xs vs, K xs ∧ Cells w O es xs vs ∧ Src P w es vx xs.length vs := by
  unfold asrc at h
  split at h
  · obtain ⟨rfl, h⟩ := h
    obtain ⟨vs, ad, c, rfl, h1, h2⟩ := imm_cells (P := P) hes0 hx
    exact ⟨_, vs, h, h1, h2⟩
  · cases hx
    exact ⟨[], [], h, Cells.nil w O _, src_nil _ _⟩
  · obtain ⟨rfl, h⟩ := h
    cases hx
    rename_i c
    refine ⟨_, c.toList.map fun q => .int .u8 q.toNat, h, ⟨by simp, ?_, ?_⟩, fun w' => by rw [List.length_map, bytes_len]; rfl, fun w' _ => ?_⟩
    · intro e he
      obtain ⟨q, _, rfl⟩ := List.mem_map.1 he
      exact ⟨rfl, fun x hx => by simp at hx; subst hx; rfl⟩
    · intro i e f x hi hf
      rw [List.getElem?_map] at hi
      cases hq : c.toList[i]? with
      | none => rw [hq] at hi; cases hi
      | some q =>
        rw [hq] at hi
        simp only [Option.map_some, Option.some.injEq] at hi
        subst hi
        match f, hf with
        | 0, hf =>
          simp at hf
          subst hf
          exact ⟨_, by simp [hq], .v _⟩
        | f + 1, hf => simp at hf
    · have : (List.map (fun c => [AV.v (Value.int IntKind.u8 (UInt8.toNat c))]) c.toList).length = c.size := by rw [List.length_map, bytes_len]
      rw [this]
      have h1 : c.extract 0 c.size = c := by simp
      simp only [Builtin.firstCells, h1, Sem.run_pure, ByteArray.toList_eq]
      congr 1
      apply Array.ext'
      simp
  · cases hx
    exact ⟨[], [], h, Cells.nil w O _, src_nil _ _⟩
  · split at h
    · rename_i b off es' m _ _ o ho
      obtain ⟨h1, rfl, h2, h⟩ := h
      cases hx with
      | ov b off es m c c' cells t fr hw hc hn hcc =>
        obtain ⟨_, cells', t', g1, g2, g3, g4⟩ := hH b o ho
        rw [hw] at g1
        cases g1
        rw [h1] at g2 g3 g4
        have hlen : ((o.xs.drop off).take m).length = m := by simp; omega
        have hle : off * es' + m * es' ≤ cells.size := by
          rw [← Nat.add_mul]
          exact Nat.le_trans (Nat.mul_le_mul_right _ h2) g2
        refine ⟨_, (cells.toList.drop (off * es')).take (((o.xs.drop off).take m).length * es'), h, Cells.of_array (by rw [hlen]; exact hle) ?_ ?_, ?_⟩
        · exact fun e he => g3 e (List.mem_of_mem_drop (List.mem_of_mem_take he))
        · intro i e f x hi hf
          rw [List.getElem?_take] at hi
          split at hi
          · rw [List.getElem?_drop] at hi
            rw [← Nat.add_mul]
            exact g4 _ e f x hi hf
          · cases hi
        · rw [hlen]
          exact src_block hw hle
    · exact h.elim
  · exact h.elim

theorem set_del (H : AH) (b : Nat) (o : AObj) : (H.del b).set b o = H.set b o := by
  funext x
  simp only [AH.set, AH.del]
  split <;> rfl

/-- Where it is appended: nothing yet; or a block's head, which holds the old rows. -/
inductive Dst (w : World) (O : Nat → Prop) (H : AH) (es : Nat) : Value → List (List AV) → Option Nat → AH → Prop
  | nil (ad : Option Addr) : Dst w O H es (.slice ad 0 0) [] none H
  | block (b m c : Nat) (o : AObj) (cells : Array Value) (t : TypeId) (ho : H b = some o) (hes : o.es = es) (hm : m ≤ o.xs.length) (hw : w.heap[b]? = some (.cells cells t (0, 0))) (hc : c * es ≤ cells.size) (hmc : m ≤ c) :
      Dst w O H es (.slice (some ⟨b, 0, none⟩) m c) (o.xs.take m) (some b) (H.del b)

theorem dst_ok {x : AV} {vx : Value} {es : Nat} {K : List (List AV) → Option Nat → AH → Prop} (h : adst x H es K) (hx : Rep w O x vx) (hH : Holds w O H) :
    ∃ xs ob H', K xs ob H' ∧ Dst w O H es vx xs ob H' := by
  unfold adst at h
  split at h
  · cases hx; exact ⟨_, _, _, h, .nil _⟩
  · cases hx; exact ⟨_, _, _, h, .nil _⟩
  · split at h
    · rename_i b es' m _ _ o ho
      obtain ⟨h1, rfl, h2, h⟩ := h
      cases hx with
      | ov b off es m c c' cells t fr hw hc hn hcc =>
        obtain ⟨_, cells', t', g1, g2, g3, g4⟩ := hH b o ho
        rw [hw] at g1
        cases g1
        refine ⟨_, _, _, h, ?_⟩
        rw [Nat.zero_mul]
        exact .block b m c o cells t ho h1 h2 hw (by simpa using hc) hn
    · exact h.elim
  · exact h.elim

theorem run_fits {ts : Array TypeId} {r : Array Value} {ty u el : TypeId} {du : TypeDesc} {i : TypeInfo} {vx : Value} {k m c g : Nat} {vs : List Value} {w' : World} (ht0 : ts[0]? = some t) (ht1 : ts[1]? = some u)
    (hr0 : r[0]? = some (.slice (some ⟨g, 0, none⟩) m c)) (hr1 : r[1]? = some vx) (hu : P.underlying t = some (.slice el)) (hu2 : P.underlying u = some du) (hnint : ∀ k, du = .int k → False) (hi : P.info? el = some i)
    (hm : (Builtin.lenOf vx).run P w = .ok k w) (hf : (Builtin.firstCells i.size k vx).run P w = .ok vs.toArray w) (hroom : m + k ≤ c) (hst : (storeCells ⟨g, m * i.size, none⟩ vs).run P w = .ok () w') :
    (Builtin.append_ ts ty r).run P w = .ok (.slice (some ⟨g, 0, none⟩) (m + k) c) w' := by
  cases du <;> first
    | exact (hnint _ rfl).elim
    | simp [Builtin.append_, ht0, ht1, hr0, hr1, run_underlying hu, run_underlying hu2, sizeOf, typeInfo, hi, hm, hroom, hf, Addr.add_lit, hst]

theorem run_fits' {ts : Array TypeId} {r : Array Value} {ty u el : TypeId} {du : TypeDesc} {i : TypeInfo} {vx : Value} {k m c : Nat} {p : Addr} {vs : List Value} {w' : World} (ht0 : ts[0]? = some t) (ht1 : ts[1]? = some u)
    (hr0 : r[0]? = some (.slice (some p) m c)) (hr1 : r[1]? = some vx) (hu : P.underlying t = some (.slice el)) (hu2 : P.underlying u = some du) (hnint : ∀ k, du = .int k → False) (hi : P.info? el = some i)
    (hm : (Builtin.lenOf vx).run P w = .ok k w) (hf : (Builtin.firstCells i.size k vx).run P w = .ok vs.toArray w) (hroom : m + k ≤ c) (hst : (storeCells (p.add (m * i.size)) vs).run P w = .ok () w') :
    (Builtin.append_ ts ty r).run P w = .ok (.slice (some p) (m + k) c) w' := by
  cases du <;> first
    | exact (hnint _ rfl).elim
    | simp [Builtin.append_, ht0, ht1, hr0, hr1, run_underlying hu, run_underlying hu2, sizeOf, typeInfo, hi, hm, hroom, hf, hst]

theorem run_nothing0 {ts : Array TypeId} {r : Array Value} {ty u el : TypeId} {du : TypeDesc} {i : TypeInfo} {vx : Value} {vs : List Value} (ht0 : ts[0]? = some t) (ht1 : ts[1]? = some u)
    (hr0 : r[0]? = some (.slice none 0 0)) (hr1 : r[1]? = some vx) (hu : P.underlying t = some (.slice el)) (hu2 : P.underlying u = some du) (hnint : ∀ k, du = .int k → False) (hi : P.info? el = some i)
    (hm : (Builtin.lenOf vx).run P w = .ok 0 w) (hf : (Builtin.firstCells i.size 0 vx).run P w = .ok vs.toArray w) :
    (Builtin.append_ ts ty r).run P w = .ok (.slice none 0 0) w := by
  cases du <;> first
    | exact (hnint _ rfl).elim
    | simp [Builtin.append_, ht0, ht1, hr0, hr1, run_underlying hu, run_underlying hu2, sizeOf, typeInfo, hi, hm, hf]

theorem run_nothing {ts : Array TypeId} {r : Array Value} {ty u el : TypeId} {du : TypeDesc} {i : TypeInfo} {vx : Value} {ad : Option Addr} (ht0 : ts[0]? = some t) (ht1 : ts[1]? = some u)
    (hr0 : r[0]? = some (.slice ad 0 0)) (hr1 : r[1]? = some vx) (hu : P.underlying t = some (.slice el)) (hu2 : P.underlying u = some du) (hnint : ∀ k, du = .int k → False) (hi : P.info? el = some i)
    (hm : (Builtin.lenOf vx).run P w = .ok 0 w) (hf : (Builtin.firstCells i.size 0 vx).run P w = .ok #[] w) :
    (Builtin.append_ ts ty r).run P w = .ok (.slice ad 0 0) w := by
  cases ad with
  | none => exact run_nothing0 (vs := []) ht0 ht1 hr0 hr1 hu hu2 hnint hi hm hf
  | some p => exact run_fits' (vs := []) ht0 ht1 hr0 hr1 hu hu2 hnint hi hm hf (Nat.le_refl 0) rfl

theorem run_moves {ts : Array TypeId} {r : Array Value} {ty u el : TypeId} {du : TypeDesc} {i : TypeInfo} {z vx : Value} {k m c : Nat} {base : Option Addr} {vs os : List Value} (ht0 : ts[0]? = some t) (ht1 : ts[1]? = some u)
    (hr0 : r[0]? = some (.slice base m c)) (hr1 : r[1]? = some vx) (hu : P.underlying t = some (.slice el)) (hu2 : P.underlying u = some du) (hnint : ∀ k, du = .int k → False) (hi : P.info? el = some i) (hz : i.zero = some z)
    (hm : (Builtin.lenOf vx).run P w = .ok k w) (hf : (Builtin.firstCells i.size k vx).run P w.drew = .ok vs.toArray w.drew) (ho : (Builtin.firstCells i.size m (.slice base m c)).run P w.drew = .ok os.toArray w.drew)
    (hroom : ¬ m + k ≤ c) (h63 : m + k ≤ 9223372036854775807) (hb : (m + k) * i.bytes ≤ 140737488355328) :
    (Builtin.append_ ts ty r).run P w = .ok (.slice (some ⟨w.heap.size, 0, none⟩) (m + k) (grownCap w (m + k) c el))
      (w.drew.alloc (.cells (os.toArray ++ vs.toArray ++ Builtin.zeroCells z.cells (grownCap w (m + k) c el - (m + k))) el)) := by
  have h63' : ¬ (9223372036854775807 < ((m : Int) + (k : Int))) := by omega
  have h48' : ¬ (281474976710656 < Builtin.nextslicecap (m + k) c * i.bytes) := by
    have := growslice_fits (need := m + k) (old := c) (bytes := i.bytes) (by omega) hb
    omega
  cases du <;> first
    | exact (hnint _ rfl).elim
    | (simp [Builtin.append_, ht0, ht1, hr0, hr1, run_underlying hu, run_underlying hu2, sizeOf, typeInfo, hi, hz, hm, hroom, hf, ho, IntKind.max, IntKind.signed, IntKind.bits, h63', h48', zeroValue, newRow, grownCap, Question.forced]
       congr 2
       apply Array.ext'
       simp [List.append_assoc])

/-- A vector in a new block, with room behind it. -/
theorem new_vec {es cap : Nat} {xs : List (List AV)} {vs : List Value} {tail : Array Value} (hH : Heap w0 O0 D0 w O H) (el : TypeId) (hc : Cells w O es xs vs) (hcap : xs.length ≤ cap) (htl : tail.size = (cap - xs.length) * es) :
    Heap w0 O0 D0 (w.drew.alloc (.cells (vs.toArray ++ tail) el)) (plus O w.heap.size) (H.set w.heap.size ⟨es, xs⟩) ∧ Ext w O O (w.drew.alloc (.cells (vs.toArray ++ tail) el)) (plus O w.heap.size) ∧
      Rep (w.drew.alloc (.cells (vs.toArray ++ tail) el)) (plus O w.heap.size) (.ov (some w.heap.size) 0 es xs.length none) (.slice (some ⟨w.heap.size, 0, none⟩) xs.length cap) := by
  have hsz : (vs.toArray ++ tail).size = cap * es := by
    simp only [Array.size_append, List.size_toArray, hc.len, htl, ← Nat.add_mul]
    congr 1; omega
  refine ⟨?_, ?_, ?_⟩
  · refine hH.drew.new el ?_ hc.rows ?_
    · rw [hsz]; exact Nat.mul_le_mul_right _ hcap
    · intro i e f x hi hf
      obtain ⟨y, hy, hr⟩ := hc.rep i e f x hi hf
      have hlt := (List.getElem?_eq_some_iff.1 hy).1
      refine ⟨y, ?_, hr.ext (Ext.drew w O) fun b hb => hb.elim⟩
      rw [Array.getElem?_append_left (by simpa using hlt), List.getElem?_toArray]
      exact hy
  · exact ((Ext.drew w O).trans (Ext.alloc w.drew O _) fun b _ hd => hd).all fun b hb => hb.elim
  · have := Rep.ov (w := w.drew.alloc (.cells (vs.toArray ++ tail) el)) (O := plus O w.heap.size) w.heap.size 0 es xs.length cap none _ el (0, 0) (alloc_new w.drew _) (by rw [hsz]; simp) hcap (by intro k hk; cases hk)
    simpa using this

theorem app_ok {ts : Array TypeId} {r : Array Value} {ty : TypeId} {d x : AV} {vd vx : Value} {K : AV → AH → Prop} (h : aapp P ts d x H K) (hd : Rep w O d vd) (hx : Rep w O x vx) (hH : Heap w0 O0 D0 w O H)
    (hr0 : r[0]? = some vd) (hr1 : r[1]? = some vx) : Makes P w0 O0 D0 w O K (Builtin.append_ ts ty r) := by
  unfold aapp at h
  split at h
  case h_2 => exact h.elim
  rename_i t ht0
  split at h
  case h_2 => exact h.elim
  rename_i el hu
  split at h
  case h_2 => exact h.elim
  rename_i zz u hzz hts1
  obtain ⟨i, z, hi, hz, rfl⟩ := zeros_ok hzz
  split at h
  case h_1 => exact h.elim
  case h_3 => exact h.elim
  rename_i du hnint hu2
  obtain ⟨hzl, hzc, hza, h⟩ := h
  have hes0 : 0 < (z.cells.toList.map AV.v).length := hzl
  obtain ⟨new, ns, h, hnew, hsrc⟩ := src_ok (P := P) hes0 h hx hH.holds
  obtain ⟨old, ob, H', h, hdst⟩ := dst_ok h hd hH.holds
  obtain ⟨hb47, h63, h⟩ := h
  have hsz : P.cellsOf el = z.cells.size := by simpa using hzc.symm
  have hes : (z.cells.toList.map AV.v).length = z.cells.size := by simp
  have his : i.size = z.cells.size := by rw [← hsz]; simp [Program.cellsOf, hi]
  have hbo : P.bytesOf el = i.bytes := by simp [Program.bytesOf, hi]
  rw [hes] at hnew hsrc hdst h hes0
  rw [hbo] at hb47
  have hnint' : ∀ k, du = .int k → False := fun k e => hnint k e
  have hz0 : ∀ k, (Builtin.zeroCells z.cells k).size = k * z.cells.size := fun k => size_zeroCells z.cells k
  cases hdst with
  | nil ad =>
    simp only [List.length_nil, Nat.zero_add, List.nil_append] at h h63 hb47
    by_cases hn : new = []
    · subst hn
      have hns : ns = [] := List.eq_nil_of_length_eq_zero (by simpa using hnew.len)
      subst hns
      have hk := h none (fun b hb => by cases hb) (fun _ => rfl)
      refine ⟨_, _, O, .slice ad 0 0, w, hk, ?_, hH, Ext.refl w O O, .ovn _ _⟩
      exact run_nothing ht0 hts1 hr0 hr1 hu hu2 hnint' hi (hsrc.1 w) (by rw [his]; exact hsrc.2 w rfl)
    · have hlen : 0 < new.length := List.length_pos_iff.2 hn
      have hk := h (some w.heap.size) (fun b hb => by cases hb; exact hH.fresh) (fun e => by cases e)
      have hge := grownCap_ge w (0 + new.length) 0 el
      have hrun := run_moves (P := P) (w := w) (ty := ty) (os := []) ht0 hts1 hr0 hr1 hu hu2 hnint' hi hz (hsrc.1 w) (by rw [his]; exact hsrc.2 w.drew rfl) (by cases ad <;> simp [Builtin.firstCells, loadCells, loadCellsFrom]) (by omega) (by omega) (by rw [Nat.zero_add]; exact hb47)
      have hv := new_vec (cap := grownCap w (0 + new.length) 0 el) (tail := Builtin.zeroCells z.cells (grownCap w (0 + new.length) 0 el - (0 + new.length))) hH el hnew (by omega) (by rw [hz0, Nat.zero_add])
      simp only [Nat.zero_add, List.append_toArray, List.nil_append] at hv hrun
      exact ⟨_, _, plus O w.heap.size, _, _, hk, hrun, hv⟩
  | block b m c o cells t' ho hes' hm hw hc hmc =>
    obtain ⟨hOb, cells', t1, g1, g2, g3, g4⟩ := hH.holds b o ho
    rw [hw] at g1
    cases g1
    rw [hes'] at g2 g3 g4
    have hlen : (o.xs.take m).length = m := by simp; omega
    rw [hlen] at h hb47 h63
    have hmc' : m * z.cells.size ≤ cells.size := Nat.le_trans (Nat.mul_le_mul_right _ hm) g2
    have hold : Cells w O z.cells.size (o.xs.take m) ((cells.toList.drop 0).take (m * z.cells.size)) := by
      have := Cells.of_array (w := w) (O := O) (es := z.cells.size) (o := 0) (xs := o.xs.take m) (cells := cells) (by rw [hlen]; omega)
        (fun e he => g3 e (List.mem_of_mem_take he)) (fun i e f x hi hf => by
          rw [List.getElem?_take] at hi
          split at hi
          · rw [Nat.zero_add]; exact g4 i e f x hi hf
          · cases hi)
      rw [hlen] at this
      exact this
    have hall := hold.append hnew
    by_cases hroom : m + new.length ≤ c
    · have hk := h (some b) (fun q hq => by cases hq; exact AH.del_same H b) (fun e => by cases e)
      have hcc : m * z.cells.size + new.length * z.cells.size ≤ cells.size := by
        rw [← Nat.add_mul]
        exact Nat.le_trans (Nat.mul_le_mul_right _ hroom) hc
      have hst := run_storeCells_at P b (m * z.cells.size) t' ns 0 cells w hw (by rw [hnew.len]; omega) hnew.one
      have hrun := run_fits (P := P) (w := w) (ty := ty) (vs := ns) ht0 hts1 hr0 hr1 hu hu2 hnint' hi (hsrc.1 w) (by rw [his]; exact hsrc.2 w rfl) hroom (by rw [his]; exact hst)
      have hwr := hH.write (es := z.cells.size) (xs := o.xs.take m ++ new) (c' := (cells.toList.take (m * z.cells.size + 0) ++ ns ++ cells.toList.drop (m * z.cells.size + 0 + ns.length)).toArray) ho hw
        (by simp [hnew.len]; omega) (by simp [hnew.len, hlen, Nat.add_mul]; omega) hall.rows (fun i e f x hi hf => by
          obtain ⟨y, hy, hr⟩ := hall.rep i e f x hi hf
          refine ⟨y, ?_, hr⟩
          rw [List.getElem?_toArray, Nat.add_zero, List.getElem?_append_left]
          · simpa using hy
          · have := (List.getElem?_eq_some_iff.1 hy).1
            simpa using this)
      have hext := (Ext.setRow w O hw (c' := (cells.toList.take (m * z.cells.size + 0) ++ ns ++ cells.toList.drop (m * z.cells.size + 0 + ns.length)).toArray) (by simp [hnew.len]; omega)).all (O := O) fun q hq => by
        have : q = b := hq
        subst this
        exact hOb
      refine ⟨_, _, O, _, _, hk, hrun, ?_, hext, ?_⟩
      · show Heap w0 O0 D0 _ O ((H.del b).set b ⟨z.cells.size, o.xs.take m ++ new⟩)
        rw [set_del]
        exact hwr
      · have := Rep.ov (w := w.setRow b (cells.toList.take (m * z.cells.size + 0) ++ ns ++ cells.toList.drop (m * z.cells.size + 0 + ns.length)).toArray) (O := O) b 0 z.cells.size (m + new.length) c none _ t' (0, 0)
          (setRow_heap w b cells _ t' (0, 0) hw) (by simp [hnew.len]; omega) hroom (by intro k hk; cases hk)
        simpa using this
    · have hk := h (some w.heap.size) (fun q hq => by
        cases hq
        show (H.del b) w.heap.size = none
        have hne : w.heap.size ≠ b := fun e => by
          have := hH.bound b hOb
          omega
        rw [AH.del_ne _ hne]
        exact hH.fresh) (fun e => by cases e)
      have hge := grownCap_ge w (m + new.length) c el
      have hso := src_block (P := P) (w := w) (es := z.cells.size) (b := b) (o := 0) (m := m) (c := c) hw (by omega)
      have hrun := run_moves (P := P) (w := w) (ty := ty) (os := (cells.toList.drop 0).take (m * z.cells.size)) ht0 hts1 hr0 hr1 hu hu2 hnint' hi hz (hsrc.1 w) (by rw [his]; exact hsrc.2 w.drew rfl) (by rw [his]; exact hso.2 w.drew rfl) hroom h63 hb47
      have hv := new_vec (cap := grownCap w (m + new.length) c el) (tail := Builtin.zeroCells z.cells (grownCap w (m + new.length) c el - (m + new.length))) (hH.del b) el hall (by rw [List.length_append, hlen]; omega) (by rw [hz0, List.length_append, hlen])
      simp only [List.length_append, hlen, List.append_toArray] at hv hrun
      exact ⟨_, _, plus O w.heap.size, _, _, hk, hrun, hv⟩

end Go.Fw
