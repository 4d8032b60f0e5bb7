/- What came in, read: a script of calls. -/
import Derived.Test.YtcmakpkdliiigaaSp
import Derived.Test.YtcmakpkdliiigaaFw
import Derived.Test.YtcmakpkdliiigaaRows
namespace Go.Proofs.Ytcmakpkdliiigaa
set_option maxHeartbeats 8000000
set_option linter.all false
open Go Go.Fw Go.ChangeShapes Go.WideShapes Go.ChangeAt Go.RowKit

theorem one_le {H : Type} (d : DataW H) : 1 ≤ Rows.uptoBulk d := by
  cases d with
  | lit l => cases l <;> simp [Rows.uptoBulk]
  | nil => simp [Rows.uptoBulk]
  | ptr d => simp [Rows.uptoBulk]
  | slice elems spare => simp [Rows.uptoBulk]
  | agg parts => simp [Rows.uptoBulk]
  | iface t d => simp [Rows.uptoBulk]
  | map entries => simp [Rows.uptoBulk]
  | held h => simp [Rows.uptoBulk]
theorem all_le {H : Type} (l : List (DataW H)) : l.length ≤ Rows.uptoBulkAll l := by
  induction l with
  | nil => simp
  | cons x r ih => have := one_le x; simp only [Rows.uptoBulkAll, List.length_cons]; omega

theorem own : ownKnob Try.prog.godebug = none := by kernel_rfl
theorem laid : laidOutB Try.prog = true := by kernel_rfl

theorem repL_op {H : Type} {enc : TypeId × Value → H} {w : World} {n : Nat} {cs : List Value} {d : DataW H} {ps : List MemPlace} (h : tr enc Try.prog w n 36 cs = some (d, ps)) :
    ∃ r, (∃ o : Int × Int × Int, r = [.v (.int .i64 o.1), .v (.int .i64 o.2.1), .v (.int .i64 o.2.2)]) ∧ RepL w r cs := by
  obtain ⟨m, ds, rfl, rfl, hc, hl, hf⟩ := tr_struct Try.underlying36 h
  rw [cl36] at hc
  obtain ⟨c0, c1, c2, rfl⟩ : ∃ c0 c1 c2, cs = [c0, c1, c2] := by
    match cs, hc with
    | [c0, c1, c2], _ => exact ⟨c0, c1, c2, rfl⟩
  obtain ⟨_, _, _, h0⟩ := hf 0 _ rfl
  obtain ⟨_, _, _, h1⟩ := hf 1 _ rfl
  obtain ⟨_, _, _, h2⟩ := hf 2 _ rfl
  simp only [List.getElem_toArray, List.getElem_cons_zero, List.getElem_cons_succ, cl3, List.drop_zero, List.drop_succ_cons, List.take_succ_cons, List.take_zero] at h0 h1 h2
  obtain ⟨z0, _, r0, _⟩ := repL_int Try.underlying3 h0
  obtain ⟨z1, _, r1, _⟩ := repL_int Try.underlying3 h1
  obtain ⟨z2, _, r2, _⟩ := repL_int Try.underlying3 h2
  exact ⟨_, ⟨(z0, z1, z2), rfl⟩, (r0.append r1).append r2⟩

theorem list_of {α β : Type} {f : β → α} : ∀ l : List α, (∀ x ∈ l, ∃ y, x = f y) → ∃ m : List β, l = m.map f
  | [], _ => ⟨[], rfl⟩
  | x :: r, h => by
    obtain ⟨y, rfl⟩ := h x (by simp)
    obtain ⟨m, rfl⟩ := list_of r (fun z hz => h z (by simp [hz]))
    exact ⟨y :: m, rfl⟩

/-- A script that came in. -/
theorem rep_ops {H : Type} {enc : TypeId × Value → H} {w : World} {v : Value} {d : DataW H} {ps : List MemPlace} (hv : ∃ a l c, v = .slice a l c) (h : DataW.Trod enc Try.prog w 0 (fun _ => true) true 32 v d ps) :
    ∃ sc, Rep w (fun _ => False) (.imm 3 (ops sc)) v ∧ (sc = [] ∨ ∃ el sp, d = .slice el sp ∧ sc.length = el.length) := by
  obtain ⟨a0, l0, c0, rfl⟩ := hv
  obtain ⟨n, h⟩ := h
  obtain ⟨rows, h1, _, h2⟩ := repL_slice (Q := fun _ r => ∃ o : Int × Int × Int, r = [.v (.int .i64 o.1), .v (.int .i64 o.2.1), .v (.int .i64 o.2.2)]) Try.underlying32 (by rw [cl36]; decide) h (fun m cs' d' p' _ _ h => repL_op h)
  rw [cl36] at h1
  rcases h2 with ⟨_, rfl⟩ | ⟨el, sp, rfl, hl, hq⟩
  · exact ⟨[], h1.single, .inl rfl⟩
  · obtain ⟨sc, rfl⟩ := list_of (f := fun o : Int × Int × Int => [AV.v (.int .i64 o.1), .v (.int .i64 o.2.1), .v (.int .i64 o.2.2)]) rows (by
      intro r hr
      obtain ⟨i, hi, rfl⟩ := List.getElem_of_mem hr
      exact hq i _ _ (List.getElem?_eq_getElem (by omega)) (List.getElem?_eq_getElem hi))
    exact ⟨sc, h1.single, .inr ⟨el, sp, rfl, by simpa using hl.symm⟩⟩

theorem le_all {H : Type} {l : List (DataW H)} {i : Nat} {d : DataW H} (h : l[i]? = some d) : Rows.uptoBulk d ≤ Rows.uptoBulkAll l := by
  induction l generalizing i with
  | nil => simp at h
  | cons x r ih =>
    cases i with
    | zero => simp at h; subst h; simp only [Rows.uptoBulkAll]; omega
    | succ i => have := ih (i := i) (by simpa using h); simp only [Rows.uptoBulkAll]; omega
theorem small_of {α H : Type} {d : DataW H} {l : List (DataW H)} {sc : List α} {i : Nat} (hs : sc = [] ∨ ∃ el sp, d = .slice el sp ∧ sc.length = el.length) (hi : l[i]? = some d) (hk : Rows.uptoSmall H l = true) : sc.length ≤ 1000000000 := by
  rcases hs with rfl | ⟨el, sp, rfl, e⟩
  · simp
  · have h := of_decide_eq_true hk
    have h2 := all_le el
    have h3 := le_all hi
    simp only [Rows.uptoBulk] at h3
    omega
end Go.Proofs.Ytcmakpkdliiigaa
