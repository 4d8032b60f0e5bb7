/- What came in, read as abstract values: numbers, texts, structs, slices of whatever elements. -/
import Derived.Test.YtcmakpkdliiigaaFu
import Derived.Test.YtcmakpkdliiigaaFv
import Derived.Deep.Slices
import Derived.ChangeMaps5
namespace Go.Fw
set_option maxHeartbeats 8000000
set_option linter.all false
open Go Go.ChangeShapes Go.WideShapes
variable {H : Type} {enc : TypeId × Value → H} {P : Program} {w : World}

/-- Cells that stand so. -/
structure RepL (w : World) (xs : List AV) (cs : List Value) : Prop where
  len : xs.length = cs.length
  cell : ∀ x ∈ xs, x.cell = true
  rep : ∀ (i : Nat) x y, xs[i]? = some x → cs[i]? = some y → Rep w (fun _ => False) x y

abbrev tr (enc : TypeId × Value → H) (P : Program) (w : World) (n : Nat) (t : TypeId) (cs : List Value) := DataW.trod enc P w 0 (fun _ => true) true n t cs

theorem RepL.nil : RepL w [] [] := ⟨rfl, fun _ h => by simp at h, fun i x y h => by simp at h⟩
theorem RepL.one {x : AV} {y : Value} (h : Rep w (fun _ => False) x y) (hc : x.cell = true) : RepL w [x] [y] := by
  refine ⟨rfl, fun z hz => ?_, fun i a b ha hb => ?_⟩
  · simp at hz; subst hz; exact hc
  · match i with
    | 0 => simp at ha hb; subst ha; subst hb; exact h
    | i + 1 => simp at ha
theorem RepL.append {xs ys : List AV} {cs ds : List Value} (h : RepL w xs cs) (k : RepL w ys ds) : RepL w (xs ++ ys) (cs ++ ds) := by
  refine ⟨by simp [h.len, k.len], fun x hx => ?_, fun i x y hx hy => ?_⟩
  · rcases List.mem_append.1 hx with hx | hx
    · exact h.cell x hx
    · exact k.cell x hx
  · by_cases hi : i < xs.length
    · rw [List.getElem?_append_left hi] at hx
      rw [List.getElem?_append_left (by rw [← h.len]; exact hi)] at hy
      exact h.rep i x y hx hy
    · rw [List.getElem?_append_right (by omega)] at hx
      rw [List.getElem?_append_right (by rw [← h.len]; omega), ← h.len] at hy
      exact k.rep _ x y hx hy
theorem RepL.single {x : AV} {v : Value} (h : RepL w [x] [v]) : Rep w (fun _ => False) x v := h.rep 0 x v rfl rfl
/-- A struct's value. -/
theorem RepL.agg {xs : List AV} {cs : Array Value} (h : RepL w xs cs.toList) : Rep w (fun _ => False) (.agg xs) (.agg cs) := .agg xs cs.toList h.len h.rep

theorem repL_int {t : TypeId} {k : IntKind} {n : Nat} {cs : List Value} {d : DataW H} {ps : List MemPlace} (ht : P.underlying t = some (.int k)) (h : tr enc P w n t cs = some (d, ps)) : ∃ z : Int, d = .lit (.int k z) ∧ RepL w [.v (.int k z)] cs ∧ (Lit.int k z).wf = true := by
  cases n with
  | zero => simp [DataW.trod] at h
  | succ n =>
    unfold tr DataW.trod at h
    rw [ht] at h
    split at h <;> try (simp_all; done)
    rename_i k0 k' z h1
    cases h1
    split at h
    · rename_i h2
      simp at h
      obtain ⟨rfl, rfl⟩ := h
      obtain ⟨rfl, h3⟩ := h2
      exact ⟨z, rfl, .one (.v _) rfl, h3⟩
    · cases h
theorem repL_string {t : TypeId} {n : Nat} {cs : List Value} {d : DataW H} {ps : List MemPlace} (ht : P.underlying t = some .string) (h : tr enc P w n t cs = some (d, ps)) : ∃ s : ByteArray, d = .lit (.string s.data.toList) ∧ RepL w [.v (.string s)] cs ∧ s.size ≤ maxLen := by
  cases n with
  | zero => simp [DataW.trod] at h
  | succ n =>
    unfold tr DataW.trod at h
    rw [ht] at h
    split at h <;> try (simp_all; done)
    rename_i s h1
    split at h
    · rename_i h2
      simp at h
      obtain ⟨rfl, rfl⟩ := h
      exact ⟨s, rfl, .one (.v _) rfl, h2⟩
    · cases h
/-- A struct: its fields. -/
theorem tr_struct {t : TypeId} {fs : Array Field} {n : Nat} {cs : List Value} {d : DataW H} {ps : List MemPlace} (ht : P.underlying t = some (.struct fs)) (h : tr enc P w n t cs = some (d, ps)) :
    ∃ m ds, n = m + 1 ∧ d = .agg ds ∧ cs.length = P.cellsOf t ∧ ds.length = fs.size ∧ ∀ (i : Nat) f, fs[i]? = some f → ∃ d' p', ds[i]? = some d' ∧ tr enc P w m f.type ((cs.drop f.offset).take (P.cellsOf f.type)) = some (d', p') := by
  obtain ⟨xs, m, hm, hx, hl, hlen, hf⟩ := DataW.trod_struct ht h
  simp only [Prod.mk.injEq] at hx
  refine ⟨m, xs.map (·.1), hm, hx.1, hl, by simpa using hlen, fun i f hi => ?_⟩
  have := hf i f hi
  cases hxi : xs[i]? with
  | none =>
    have h1 := (Array.getElem?_eq_some_iff.1 hi).1
    have h2 := List.getElem?_eq_none_iff.1 hxi
    rw [hlen] at h2
    omega
  | some x => exact ⟨x.1, x.2, by simp [hxi], by rw [hxi] at this; exact this⟩

theorem cells_at {a : Addr} {n : Nat} {cs : List Value} (h : w.cells? 0 a n = some cs) : cs.length = n ∧ ∀ i, i < n → ∃ v, cs[i]? = some v ∧ w.cell? (a.add i) = some v := by
  unfold World.cells? at h
  rw [if_pos (Nat.zero_le _)] at h
  have key : ∀ (l : List Nat) (cs : List Value), l.mapM (fun i => w.cell? (a.add i)) = some cs → cs.length = l.length ∧ ∀ j, j < l.length → ∃ v, cs[j]? = some v ∧ w.cell? (a.add (l.getD j 0)) = some v := by
    intro l
    induction l with
    | nil => intro cs h; simp at h; subst h; exact ⟨rfl, fun j hj => by simp at hj⟩
    | cons x l ih =>
      intro cs h
      rw [List.mapM_cons] at h
      obtain ⟨v, h1, h2⟩ := Option.bind_eq_some_iff.1 h
      obtain ⟨r, h3, h4⟩ := Option.bind_eq_some_iff.1 h2
      simp only [Option.pure_def, Option.some.injEq] at h4
      subst h4
      obtain ⟨g1, g2⟩ := ih r h3
      refine ⟨by simp [g1], fun j hj => ?_⟩
      match j with
      | 0 => exact ⟨v, rfl, h1⟩
      | j + 1 => obtain ⟨v', q1, q2⟩ := g2 j (by simpa using hj); exact ⟨v', by simpa using q1, by simpa using q2⟩
  obtain ⟨h1, h2⟩ := key _ _ h
  simp only [List.length_range] at h1 h2
  refine ⟨h1, fun i hi => ?_⟩
  obtain ⟨v, q1, q2⟩ := h2 i hi
  exact ⟨v, q1, by simpa [List.getD, hi] using q2⟩

/-- A slice of whatever elements. -/
theorem repL_slice {t e : TypeId} {n : Nat} {cs : List Value} {d : DataW H} {ps : List MemPlace} {Q : DataW H → List AV → Prop} (ht : P.underlying t = some (.slice e)) (hz : P.cellsOf e ≠ 0) (h : tr enc P w n t cs = some (d, ps))
    (hel : ∀ m cs' d' p', m < n → cs'.length = P.cellsOf e → tr enc P w m e cs' = some (d', p') → ∃ r, Q d' r ∧ RepL w r cs') :
    ∃ rows, RepL w [.imm (P.cellsOf e) rows] cs ∧ (∀ r ∈ rows, r.length = P.cellsOf e) ∧ ((d = .nil ∧ rows = []) ∨ ∃ el sp, d = .slice el sp ∧ el.length = rows.length ∧ ∀ (i : Nat) d' r, el[i]? = some d' → rows[i]? = some r → Q d' r) := by
  rcases DataW.trod_slice ht h with ⟨rfl, hx⟩ | ⟨a, len, cap, elems, rest, m, rfl, rfl, hx, hb, hl, hm, hlen, hel', _, _⟩
  · simp only [Prod.mk.injEq] at hx
    exact ⟨[], .one (.imn _ none 0) rfl, fun r hr => by simp at hr, .inl ⟨hx.1, rfl⟩⟩
  · simp only [Prod.mk.injEq] at hx
    have ex : ∀ i, i < len → ∃ r : List AV × List Value, (∃ x, elems[i]? = some x ∧ Q x.1 r.1) ∧ RepL w r.1 r.2 ∧ r.2.length = P.cellsOf e ∧ ∀ j, j < P.cellsOf e → ∃ v, r.2[j]? = some v ∧ w.cell? ((a.add (i * P.cellsOf e)).add j) = some v := by
      intro i hi
      have h1 := hel' i hi
      rw [List.getElem?_eq_getElem (by omega)] at h1
      obtain ⟨cs', h2, h3⟩ := Option.bind_eq_some_iff.1 h1
      obtain ⟨g1, g2⟩ := cells_at h2
      obtain ⟨r, q1, q2⟩ := hel m cs' _ _ (by omega) g1 h3
      exact ⟨(r, cs'), ⟨_, List.getElem?_eq_getElem (by omega), q1⟩, q2, g1, g2⟩
    obtain ⟨f, hf⟩ := Deep.choose_lt (α := List AV × List Value) ex
    refine ⟨(List.range len).map fun i => (f i).1, ?_, ?_, .inr ⟨_, _, hx.1, by simp [hlen], ?_⟩⟩
    · refine .one ?_ rfl
      by_cases h0 : len = 0
      · subst h0; exact .imn _ _ _
      · have hrow : ∀ (i : Nat) r, ((List.range len).map fun i => (f i).1)[i]? = some r → i < len ∧ r = (f i).1 := by
          intro i r hr
          obtain ⟨hi, e2⟩ := List.getElem?_eq_some_iff.1 hr
          simp at hi e2
          exact ⟨hi, e2.symm⟩
        obtain ⟨_, _, _, h0'⟩ := hf 0 (by omega)
        obtain ⟨v0, _, hv0⟩ := h0' 0 (by omega)
        obtain ⟨hs, c, ty, fr, hh, _⟩ := cell_of hv0
        have hsp : a.spot = none := by simpa [Addr.add] using hs
        have hadd := add_plain a hsp
        obtain ⟨ab, ao, asp⟩ := a
        simp only at hsp
        subst hsp
        have hh' : w.heap[ab]? = some (.cells c ty fr) := by simpa [hadd, Addr.add] using hh
        have hcell : ∀ i j, i < len → j < P.cellsOf e → ∃ v, (f i).2[j]? = some v ∧ c[ao + i * P.cellsOf e + j]? = some v := by
          intro i j hi hj
          obtain ⟨_, _, _, h4⟩ := hf i hi
          obtain ⟨v, q1, q2⟩ := h4 j hj
          refine ⟨v, q1, ?_⟩
          rw [Deep.add_add, hadd] at q2
          obtain ⟨_, c', ty', fr', hh2, h5⟩ := cell_of q2
          rw [show w.heap[ab]? = some (.cells c' ty' fr') from hh2] at hh'
          simp only [Option.some.injEq, Obj.cells.injEq] at hh'
          rw [← hh'.1]
          simpa [Nat.add_assoc] using h5
        have hm : ((List.range len).map fun i => (f i).1).length = len := by simp
        have := Rep.imm (w := w) (O := fun _ => False) (P.cellsOf e) ((List.range len).map fun i => (f i).1) ab ao cap c ty fr (fun i j => ((f i).2[j]?).getD undef) hh' (fun h => h) (by rw [hm]; exact hl) ?_ ?_ ?_
        · rw [hm] at this; exact this
        · intro r hr
          obtain ⟨i, hi, rfl⟩ := List.mem_map.1 hr
          obtain ⟨_, h2, h3, _⟩ := hf i (by simpa using hi)
          exact ⟨by rw [h2.len, h3], h2.cell⟩
        · intro i r j x h1 h2
          obtain ⟨hi, rfl⟩ := hrow i r h1
          obtain ⟨_, g2, g3, _⟩ := hf i hi
          have hj : j < P.cellsOf e := by rw [← g3, ← g2.len]; exact (List.getElem?_eq_some_iff.1 h2).1
          obtain ⟨v, q1, q2⟩ := hcell i j hi hj
          rw [q1]
          exact q2
        · intro i r j x h1 h2
          obtain ⟨hi, rfl⟩ := hrow i r h1
          obtain ⟨_, g2, g3, _⟩ := hf i hi
          have hj : j < P.cellsOf e := by rw [← g3, ← g2.len]; exact (List.getElem?_eq_some_iff.1 h2).1
          obtain ⟨v, q1, _⟩ := hcell i j hi hj
          rw [q1]
          exact g2.rep j x v h2 q1
    · intro r hr
      obtain ⟨i, hi, rfl⟩ := List.mem_map.1 hr
      obtain ⟨_, h2, h3, _⟩ := hf i (by simpa using hi)
      rw [h2.len, h3]
    · intro i d' r h1 h2
      obtain ⟨hi, e2⟩ := List.getElem?_eq_some_iff.1 h2
      simp at hi
      obtain ⟨⟨x, g1, g2⟩, _⟩ := hf i hi
      simp only [List.getElem_map, List.getElem_range] at e2
      subst e2
      rw [List.getElem?_map, g1] at h1
      simp at h1
      subst h1
      exact g2
end Go.Fw
