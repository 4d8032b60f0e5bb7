/- The operations that read memory or cut it: each abstract one is what the model's one does. -/
import Derived.Test.YtcmakpkdliiigaaFc
namespace Go.Fw
set_option maxHeartbeats 8000000
set_option linter.all false
open Go

variable {P : Program} {w w0 : World} {O O0 D0 : Nat → Prop} {H : AH} {s : St} {a : Act} {n : Nat} {t : TypeId}

/-- All that H says holds of w. -/
def Holds (w : World) (O : Nat → Prop) (H : AH) : Prop := ∀ b o, H b = some o → O b ∧ ObjRep w O b o

theorem Heap.holds (h : Heap w0 O0 D0 w O H) : Holds w O H := fun b o hb => ⟨(h.dom b o hb).1, h.rep b o hb⟩

/-- A row of cells that may be read. -/
structure RowAt (w : World) (O : Nat → Prop) (e : List AV) (b off : Nat) where
  cells : Array Value
  t : TypeId
  fr : Nat × Nat
  vals : Nat → Value
  heap : w.heap[b]? = some (.cells cells t fr)
  one : ∀ x ∈ e, x.cell = true
  at_ : ∀ (j : Nat) x, e[j]? = some x → cells[off + j]? = some (vals j)
  rep : ∀ (j : Nat) x, e[j]? = some x → Rep w O x (vals j)

theorem choose_vals {e : List AV} {cells : Array Value} {off : Nat} (h : ∀ (j : Nat) x, e[j]? = some x → ∃ y, cells[off + j]? = some y ∧ Rep w O x y) :
    ∃ vals : Nat → Value, ∀ (j : Nat) x, e[j]? = some x → cells[off + j]? = some (vals j) ∧ Rep w O x (vals j) := by
  refine ⟨fun j => (cells[off + j]?).getD undef, fun j x hj => ?_⟩
  obtain ⟨y, h1, h2⟩ := h j x hj
  show cells[off + j]? = some ((cells[off + j]?).getD undef) ∧ Rep w O x ((cells[off + j]?).getD undef)
  rw [h1]
  exact ⟨rfl, h2⟩

theorem row_ok {x : AV} {vx : Value} {K : List AV → Nat → Prop} (h : arow x H K) (hx : Rep w O x vx) (hH : Holds w O H) :
    ∃ e f b off, K e f ∧ vx = .pointer (some ⟨b, off + f, none⟩) ∧ Nonempty (RowAt w O e b off) := by
  unfold arow at h
  split at h
  · split at h
    · rename_i b es i f _ o ho
      obtain ⟨he, e, hi, hk⟩ := h
      cases hx
      obtain ⟨_, cells, t, h1, h2, h3, h4⟩ := hH b o ho
      obtain ⟨vals, hv⟩ := choose_vals (w := w) (O := O) (e := e) (cells := cells) (off := i * o.es) fun j x hj => h4 i e j x hi hj
      exact ⟨e, f, b, i * es, hk, rfl, ⟨cells, t, (0, 0), vals, h1, (h3 e (List.mem_of_getElem? hi)).2, fun j x hj => he ▸ (hv j x hj).1, fun j x hj => (hv j x hj).2⟩⟩
    · exact h.elim
  · cases hx with
    | ip e f b o cells t fr vals hw hO hes h1 h2 => exact ⟨_, _, b, o, h, rfl, ⟨cells, t, fr, vals, hw, hes, h1, h2⟩⟩
  · exact h.elim

theorem run_isAgg {d : TypeDesc} (hd : P.underlying t = some d) : (isAgg t).run P w = .ok (isAggD d) w := by
  cases d <;> simp [isAgg, run_underlying hd, isAggD]

theorem info_of_underlying {d : TypeDesc} (hd : P.underlying t = some d) : ∃ i, P.info? t = some i := by
  cases h : P.info? t with
  | some i => exact ⟨i, rfl⟩
  | none => simp [Program.underlying, h] at hd

theorem run_size {d : TypeDesc} (hd : P.underlying t = some d) : (sizeOf t).run P w = .ok (P.cellsOf t) w := by
  obtain ⟨i, hi⟩ := info_of_underlying hd
  exact run_sizeOf w hi

theorem add_zero_spot (b o j : Nat) : (⟨b, o, none⟩ : Addr).add j = ⟨b, o + j, none⟩ := by
  unfold Addr.add; split <;> simp_all

theorem RowAt.cell {e : List AV} {b off : Nat} (r : RowAt w O e b off) {j : Nat} {x : AV} (h : e[j]? = some x) : w.cell? ⟨b, off + j, none⟩ = some (r.vals j) := by
  simp [World.cell?, r.heap, r.at_ j x h]

/-- A part of a row is read. -/
theorem cut_load {e : List AV} {b off f : Nat} {K : AV → Prop} (h : acut P t e f K) (r : RowAt w O e b off) :
    Gives P w O K (loadVar t ⟨b, off + f, none⟩) := by
  unfold acut at h
  split at h
  · rename_i d hd
    split at h
    · rename_i hag
      obtain ⟨hl, hk⟩ := h
      have hx : ∀ j, j < P.cellsOf t → ∃ x, e[f + j]? = some x := fun j hj => ⟨e[f + j]'(by omega), List.getElem?_eq_getElem (by omega)⟩
      have hrun : (loadCells ⟨b, off + f, none⟩ (P.cellsOf t)).run P w = .ok ((List.range (P.cellsOf t)).map fun j => r.vals (f + j)).toArray w := by
        have := run_loadCells_list (P := P) w ⟨b, off + f, none⟩ ((List.range (P.cellsOf t)).map fun j => r.vals (f + j)) fun j v hj => by
          have hj' : j < P.cellsOf t := by simpa using (List.getElem?_eq_some_iff.1 hj).1
          obtain ⟨x, hx'⟩ := hx j hj'
          have hc := r.cell hx'
          rw [List.getElem?_map, List.getElem?_range hj'] at hj
          simp only [Option.map_some, Option.some.injEq] at hj
          rw [add_zero_spot, Nat.add_assoc, hc, hj]
        simpa using this
      refine ⟨_, _, hk, .agg _ ((List.range (P.cellsOf t)).map fun j => r.vals (f + j)) ?_ ?_, ?_⟩
      · simp; omega
      · intro i x y hi hy
        rw [List.getElem?_take] at hi
        split at hi
        · rename_i hlt
          rw [List.getElem?_map, List.getElem?_range hlt] at hy
          simp only [Option.map_some, Option.some.injEq] at hy
          rw [List.getElem?_drop] at hi
          rw [← hy]
          exact r.rep _ _ hi
        · simp at hi
      · simp [loadVar, run_isAgg hd, hag, run_size hd, hrun]
    · rename_i hag
      obtain ⟨c, hc, hk⟩ := h
      refine ⟨_, _, hk, r.rep _ _ hc, ?_⟩
      simp [loadVar, run_isAgg hd, hag, r.cell hc]
  · exact h.elim

theorem load_ok {x : AV} {vx : Value} {K : AV → Prop} (h : aload P t x H K) (hx : Rep w O x vx) (hH : Holds w O H) : Gives P w O K (Instr.loadAt t vx) := by
  obtain ⟨e, f, b, off, hk, rfl, ⟨r⟩⟩ := row_ok h hx hH
  obtain ⟨x, y, h1, h2, h3⟩ := cut_load hk r
  exact ⟨x, y, h1, h2, by simp [Instr.loadAt, Instr.sureAddr, h3]⟩

theorem nil_ok {x : AV} {vx : Value} {K : AV → Prop} (h : anil x K) (hx : Rep w O x vx) : K x ∧ ((∃ p, vx = .pointer (some p)) ∨ (∃ f cs, vx = .func (.func f) #[] cs)) := by
  unfold anil at h
  split at h
  · cases hx; exact ⟨h, .inl ⟨_, rfl⟩⟩
  · cases hx; exact ⟨h, .inl ⟨_, rfl⟩⟩
  · cases hx; exact ⟨h, .inr ⟨_, _, rfl⟩⟩
  · cases hx; exact ⟨h, .inl ⟨_, rfl⟩⟩
  · exact h.elim

theorem fld_ok {x : AV} {vx : Value} {f : Nat} {K : AV → Prop} (h : afld P t x f K) (hx : Rep w O x vx) : Gives P w O K (Instr.fieldAt t vx f) := by
  unfold afld at h
  split at h
  · rename_i fs hfs
    split at h
    · rename_i fd hfd
      obtain ⟨hz, h⟩ := h
      have hi : ∃ i, P.info? fd.type = some i := by
        cases hq : P.info? fd.type with
        | some i => exact ⟨i, rfl⟩
        | none => simp [Program.cellsOf, hq] at hz
      obtain ⟨i, hi⟩ := hi
      split at h
      · cases hx with
        | ptr b es j g hb =>
          refine ⟨_, _, h, .ptr _ _ _ _ hb, ?_⟩
          simp [Instr.fieldAt, run_underlying hfs, hfd, Instr.sureAddr, fieldPlace, run_sizeOf w hi, hz, add_zero_spot, Nat.add_assoc]
      · cases hx with
        | ip e g b o cells t fr vals hw hO hes h1 h2 =>
          refine ⟨_, _, h, .ip _ _ b o cells t fr vals hw hO hes h1 h2, ?_⟩
          simp [Instr.fieldAt, run_underlying hfs, hfd, Instr.sureAddr, fieldPlace, run_sizeOf w hi, hz, add_zero_spot, Nat.add_assoc]
      · exact h.elim
    · exact h.elim
  · exact h.elim

theorem field_ok {x : AV} {vx : Value} {f : Nat} {K : AV → Prop} (h : afield P t x f K) (hx : Rep w O x vx) : Gives P w O K (Instr.field t vx f) := by
  unfold afield at h
  split at h
  · rename_i fs hfs
    split at h
    · rename_i fd hfd
      have main : ∀ (cs : List AV) (vs : List Value), cs.length = vs.length → (∀ (i : Nat) x y, cs[i]? = some x → vs[i]? = some y → Rep w O x y) → acut P fd.type cs fd.offset K → Gives P w O K (part fd.type vs.toArray fd.offset) := by
        intro cs vs hl hr hc
        unfold acut at hc
        split at hc
        · rename_i d hd
          split at hc
          · rename_i hag
            obtain ⟨hle, hk⟩ := hc
            refine ⟨_, .agg ((vs.drop fd.offset).take (P.cellsOf fd.type)).toArray, hk, .agg _ _ ?_ ?_, ?_⟩
            · simp [hl]
            · intro i x y hi hy
              rw [List.getElem?_take] at hi hy
              split at hi
              · rename_i hlt
                rw [if_pos hlt] at hy
                rw [List.getElem?_drop] at hi hy
                exact hr _ _ _ hi hy
              · simp at hi
            · simp only [part, Sem.run_bind, run_isAgg hd, hag, Result.andThen_ok, if_true, run_size hd]
              simp only [Sem.run_pure, Result.andThen_ok]
              congr 2
              simp [List.extract_eq_take_drop]
          · rename_i hag
            obtain ⟨c, hcc, hk⟩ := hc
            have hlt : fd.offset < vs.length := by rw [← hl]; exact (List.getElem?_eq_some_iff.1 hcc).1
            have hv : vs[fd.offset]? = some vs[fd.offset] := List.getElem?_eq_getElem hlt
            refine ⟨_, vs[fd.offset], hk, hr _ _ _ hcc hv, ?_⟩
            simp only [part, Sem.run_bind, run_isAgg hd, hag, Result.andThen_ok, Bool.false_eq_true, if_false]
            simp [hlt]
        · exact hc.elim
      split at h
      · cases hx with
        | agg cs' vs hl hr =>
          obtain ⟨x, y, h1, h2, h3⟩ := main _ vs hl hr h
          exact ⟨x, y, h1, h2, by simpa [Instr.field, run_underlying hfs, hfd, asAgg] using h3⟩
      · cases hx with
        | v x =>
          rename_i arr
          obtain ⟨x, y, h1, h2, h3⟩ := main (arr.toList.map AV.v) arr.toList (by simp) (fun i x y hi hy => by
            rw [List.getElem?_map, hy] at hi
            simp only [Option.map_some, Option.some.injEq] at hi
            rw [← hi]; exact .v y) h
          exact ⟨x, y, h1, h2, by simpa [Instr.field, run_underlying hfs, hfd, asAgg] using h3⟩
      · exact h.elim
    · exact h.elim
  · exact h.elim

theorem ext_ok {x : AV} {vx : Value} {i : Nat} {K : AV → Prop} (h : aext x i K) (hx : Rep w O x vx) : Gives P w O K (Instr.extract vx i) := by
  unfold aext at h
  split at h
  · obtain ⟨c, hc, hk⟩ := h
    cases hx with
    | tup cs vs hl hr =>
      have hlt : i < vs.length := by rw [← hl]; exact (List.getElem?_eq_some_iff.1 hc).1
      exact ⟨_, vs[i], hk, hr _ _ _ hc (List.getElem?_eq_getElem hlt), by simp [Instr.extract, hlt]⟩
  · obtain ⟨c, hc, hk⟩ := h
    cases hx with
    | v x => exact ⟨_, _, hk, .v _, by simp [Instr.extract, hc]⟩
  · exact h.elim

theorem len_ok {x : AV} {vx : Value} {ty : TypeId} {r : Array Value} {ts : Array TypeId} {K : AV → Prop} (h : alen P t x K) (hx : Rep w O x vx) (hts : ts[0]? = some t) (hr : r[0]? = some vx) : Gives P w O K (Builtin.len_ ts ty r) := by
  unfold alen at h
  split at h
  · rename_i hu; cases hx; exact ⟨_, _, h, .v _, by simp [Builtin.len_, hts, hr, run_underlying hu, goInt]⟩
  · rename_i hu; cases hx <;> exact ⟨_, _, h, .v _, by simp [Builtin.len_, hts, hr, run_underlying hu, goInt]⟩
  · rename_i hu; cases hx <;> exact ⟨_, _, h, .v _, by simp [Builtin.len_, hts, hr, run_underlying hu, goInt]⟩
  · rename_i hu; cases hx; exact ⟨_, _, h, .v _, by simp [Builtin.len_, hts, hr, run_underlying hu, goInt]⟩
  · rename_i hu; exact ⟨_, _, h, .v _, by simp [Builtin.len_, hts, hr, run_underlying hu, goInt]⟩
  · exact h.elim

end Go.Fw
