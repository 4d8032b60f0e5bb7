/- Each abstract operation is what the model's operation does: the operations that only compute or read. -/
import Derived.Test.YtcmakpkdliiigaaFb
namespace Go.Fw
set_option maxHeartbeats 8000000
set_option linter.all false
open Go

variable {P : Program} {w w0 : World} {O O0 D0 : Nat → Prop} {H : AH} {s : St} {a : Act} {n : Nat} {t : TypeId}

theorem St.get_put (s : St) (d t : Nat) (x : AV) : (s.put (some d) x).get t = if d = t then x else s.get t := rfl

theorem St.get_keep (s : St) (l : List Nat) (t : Nat) : (s.keep l).get t = s.get t ∨ (s.keep l).get t = .junk := by
  induction l with
  | nil => exact .inr rfl
  | cons u l ih =>
    show (if u = t then s.get u else (s.keep l).get t) = s.get t ∨ (if u = t then s.get u else (s.keep l).get t) = .junk
    split
    · rename_i h; exact .inl (by rw [h])
    · exact ih

/-- The frame's slots and the heap are as the abstract state says. -/
structure Mod (w0 : World) (O0 D0 : Nat → Prop) (n : Nat) (s : St) (H : AH) (a : Act) (w : World) (O : Nat → Prop) : Prop where
  heap : Heap w0 O0 D0 w O H
  defers : a.defers = []
  size : a.tmps.size = n
  tmps : ∀ t, Rep w O (s.get t) (a.tmps.getD t undef)

theorem Mod.ev (h : Mod w0 O0 D0 n s H a w O) (x : Operand) : Rep w O (ev s x) (a.eval x) := by
  cases x with
  | tmp t => exact h.tmps t
  | const c => exact .v c
  | global g => exact .v _
  | func f => exact .clo f [] [] rfl (fun i x y h => by simp at h)

/-- A pure operation: its value, of which K holds. -/
def Gives (P : Program) (w : World) (O : Nat → Prop) (K : AV → Prop) (m : Sem Value) : Prop := ∃ x y, K x ∧ Rep w O x y ∧ m.run P w = .ok y w

theorem Gives.pure {K : AV → Prop} {x : AV} {y : Value} (hk : K x) (hr : Rep w O x y) : Gives P w O K (Pure.pure y) := ⟨x, y, hk, hr, rfl⟩

theorem Rep.inv_int {k : IntKind} {m : Int} {y : Value} (h : Rep w O (.v (.int k m)) y) : y = .int k m := by cases h; rfl
theorem Rep.inv_v {x y : Value} (h : Rep w O (.v x) y) : y = x := by cases h; rfl

theorem pick_ok {c x y : AV} {vc vx vy : Value} {K : AV → Prop} (h : apick c x y K) (hc : Rep w O c vc) (hx : Rep w O x vx) (hy : Rep w O y vy) :
    Gives P w O K (do pure (if ← asBool vc then vx else vy)) := by
  unfold apick at h
  split at h
  · rename_i t
    cases hc
    cases t with
    | true => exact ⟨x, vx, h.1 rfl, hx, by simp [asBool]⟩
    | false => exact ⟨y, vy, h.2 rfl, hy, by simp [asBool]⟩
  · exact h.elim

theorem int_ok {op : BinOp} {k : IntKind} {x y : Int} {K : AV → Prop} (h : aint op k x y K) : Gives P w O K (binOp op t (.int k x) (.int k y)) := by
  cases op <;> simp only [aint] at h
  case quo => exact ⟨_, _, h.2, .v _, by simp [binOp, Op.intDiv, h.1]⟩
  case rem => exact ⟨_, _, h.2, .v _, by simp [binOp, Op.intDiv, h.1]⟩
  all_goals refine ⟨_, _, h, .v _, ?_⟩
  all_goals simp only [binOp, ne_eq, not_true_eq_false, if_false, Op.intArith, Op.intBits, Op.intCmp]
  all_goals rfl

theorem str_ok {op : BinOp} {x y : ByteArray} {K : AV → Prop} (h : astr op x y K) : Gives P w O K (binOp op t (.string x) (.string y)) := by
  cases op <;> simp only [astr] at h
  case add =>
    refine ⟨_, _, h.2, .v _, ?_⟩
    have h1 : ¬ ((x.size + y.size : Nat) : Int) > IntKind.i64.max := by
      have := h.1
      have e : IntKind.i64.max = 9223372036854775807 := by decide
      rw [e]; omega
    simp only [binOp, Op.stringOp]
    rw [if_neg h1]; rfl
  all_goals first
    | exact h.elim
    | exact ⟨_, _, h, .v _, rfl⟩

theorem isPtr_some {x : AV} {y : Value} (h : Rep w O x y) (hx : x.isPtr = true) : ∃ p, y = .pointer (some p) := by
  cases h <;> simp [AV.isPtr] at hx
  · exact ⟨_, rfl⟩
  · exact ⟨_, rfl⟩

theorem equalIn_ptr_l {e : TypeId} (hu : P.underlying t = some (.pointer e)) (p : Addr) (d : Nat) : (Op.equalIn (d + 1) t (.pointer (some p)) (.pointer none)).run P w = .ok false w := by
  simp [Op.equalIn, run_underlying hu]
theorem equalIn_ptr_r {e : TypeId} (hu : P.underlying t = some (.pointer e)) (p : Addr) (d : Nat) : (Op.equalIn (d + 1) t (.pointer none) (.pointer (some p))).run P w = .ok false w := by
  simp [Op.equalIn, run_underlying hu]
theorem equalIn_nil {e : TypeId} (hu : P.underlying t = some (.pointer e)) (d : Nat) : (Op.equalIn (d + 1) t (.pointer none) (.pointer none)).run P w = .ok true w := by
  simp [Op.equalIn, run_underlying hu]
theorem equalIn_bool (hu : P.underlying t = some .bool) (x y : Bool) (d : Nat) : (Op.equalIn (d + 1) t (.bool x) (.bool y)).run P w = .ok (x == y) w := by
  simp [Op.equalIn, run_underlying hu]
theorem eql_ptr_l {e : TypeId} (hu : P.underlying t = some (.pointer e)) (p : Addr) : (Op.equal t (.pointer (some p)) (.pointer none)).run P w = .ok false w := equalIn_ptr_l hu p 9999
theorem eql_ptr_r {e : TypeId} (hu : P.underlying t = some (.pointer e)) (p : Addr) : (Op.equal t (.pointer none) (.pointer (some p))).run P w = .ok false w := equalIn_ptr_r hu p 9999
theorem eql_nil {e : TypeId} (hu : P.underlying t = some (.pointer e)) : (Op.equal t (.pointer none) (.pointer none)).run P w = .ok true w := equalIn_nil hu 9999
theorem eql_bool (hu : P.underlying t = some .bool) (x y : Bool) : (Op.equal t (.bool x) (.bool y)).run P w = .ok (x == y) w := equalIn_bool hu x y 9999

theorem equalIn_sl {e : TypeId} (hu : P.underlying t = some (.slice e)) (p : Addr) (m c d : Nat) : (Op.equalIn (d + 1) t (.slice (some p) m c) (.slice none 0 0)).run P w = .ok false w := by
  simp [Op.equalIn, run_underlying hu]
theorem equalIn_slnil {e : TypeId} (hu : P.underlying t = some (.slice e)) (m c d : Nat) : (Op.equalIn (d + 1) t (.slice none m c) (.slice none 0 0)).run P w = .ok true w := by
  simp [Op.equalIn, run_underlying hu]
theorem eql_sl {e : TypeId} (hu : P.underlying t = some (.slice e)) {p : Addr} {m c : Nat} : (Op.equal t (.slice (some p) m c) (.slice none 0 0)).run P w = .ok false w := equalIn_sl hu p m c 9999
theorem eql_slnil {e : TypeId} (hu : P.underlying t = some (.slice e)) : (Op.equal t (.slice none 0 0) (.slice none 0 0)).run P w = .ok true w := equalIn_slnil hu 0 0 9999
theorem eql_slnil' {e : TypeId} (hu : P.underlying t = some (.slice e)) {m c : Nat} : (Op.equal t (.slice none m c) (.slice none 0 0)).run P w = .ok true w := equalIn_slnil hu m c 9999

/-- '==' and '!=' between values that are no numbers and no texts. -/
theorem eq_ok {neg : Bool} {x y : AV} {vx vy : Value} {K : AV → Prop} (h : aeq P t neg x y K) (hx : Rep w O x vx) (hy : Rep w O y vy) :
    Gives P w O K (do pure (.bool ((← Op.equal t vx vy) != neg))) ∧ (∀ k m, vx ≠ .int k m) ∧ (∀ k m, vx ≠ .float k m) ∧ (∀ k m l, vx ≠ .complex k m l) ∧ (∀ c, vx ≠ .string c) ∧ vx ≠ .nilIface ∧ (∀ l, vx ≠ .agg l) := by
  unfold aeq at h
  split at h
  · rename_i hu
    cases hx; cases hy
    exact ⟨⟨_, _, h, .v _, by simp [eql_bool hu]⟩, by simp, by simp, by simp, by simp, by simp, by simp⟩
  · rename_i hu
    cases hx; cases hy
    exact ⟨⟨_, _, h, .v _, by simp [eql_nil hu]⟩, by simp, by simp, by simp, by simp, by simp, by simp⟩
  · obtain ⟨e, hu⟩ : ∃ e, P.underlying t = some (.pointer e) := ⟨_, by assumption⟩
    obtain ⟨p, rfl⟩ := isPtr_some hx h.1
    cases hy
    exact ⟨⟨_, _, h.2, .v _, by simp [eql_ptr_l hu]⟩, by simp, by simp, by simp, by simp, by simp, by simp⟩
  · obtain ⟨e, hu⟩ : ∃ e, P.underlying t = some (.pointer e) := ⟨_, by assumption⟩
    obtain ⟨p, rfl⟩ := isPtr_some hy h.1
    cases hx
    exact ⟨⟨_, _, h.2, .v _, by simp [eql_ptr_r hu]⟩, by simp, by simp, by simp, by simp, by simp, by simp⟩
  · rename_i hu
    cases hx; cases hy
    exact ⟨⟨_, _, h, .v _, by simp [eql_slnil hu]⟩, by simp, by simp, by simp, by simp, by simp, by simp⟩
  · rename_i hu
    cases hy
    cases hx
    exact ⟨⟨_, _, h, .v _, by simp [eql_sl hu]⟩, by simp, by simp, by simp, by simp, by simp, by simp⟩
  · rename_i hu
    cases hy
    cases hx with
    | ovn es ad =>
      cases ad with
      | none => exact ⟨⟨_, _, (by cases neg; exact h.1; exact h.2 : K (.v (.bool (!neg)))), .v _, by simp [eql_slnil hu]⟩, by simp, by simp, by simp, by simp, by simp, by simp⟩
      | some ad => exact ⟨⟨_, _, (by cases neg; exact h.2; exact h.1 : K (.v (.bool neg))), .v _, by simp [eql_sl hu]⟩, by simp, by simp, by simp, by simp, by simp, by simp⟩
  · rename_i hu
    cases hy
    cases hx with
    | imn es ad c =>
      cases ad with
      | none => exact ⟨⟨_, _, h.2 rfl, .v _, by simp [eql_slnil' hu]⟩, by simp, by simp, by simp, by simp, by simp, by simp⟩
      | some ad => exact ⟨⟨_, _, h.1, .v _, by simp [eql_sl hu]⟩, by simp, by simp, by simp, by simp, by simp, by simp⟩
    | imm es xs b o c cells t fr vals hw hO hc hes h1 h2 => exact ⟨⟨_, _, h.1, .v _, by simp [eql_sl hu]⟩, by simp, by simp, by simp, by simp, by simp, by simp⟩
  · exact h.elim

theorem bin_ok {op : BinOp} {x y : AV} {vx vy : Value} {ox oy : Operand} {K : AV → Prop} (h : abin P op t x y K) (hx : Rep w O x vx) (hy : Rep w O y vy) :
    Gives P w O K (do eqGuard op t ox oy vx vy; binOp op t vx vy) := by
  unfold abin at h
  split at h
  · cases hx; cases hy
    refine ⟨_, _, h.2, .v _, ?_⟩
    have h1 : ¬ (_ : Int) < 0 := Int.not_lt.2 h.1
    simp only [eqGuard, binOp, Op.shift, if_neg h1]
    rfl
  · cases hx; cases hy
    refine ⟨_, _, h.2, .v _, ?_⟩
    have h1 : ¬ (_ : Int) < 0 := Int.not_lt.2 h.1
    simp only [eqGuard, binOp, Op.shift, if_neg h1]
    rfl
  · cases hx; cases hy
    obtain ⟨rfl, h⟩ := h
    obtain ⟨x, y, h1, h2, h3⟩ := int_ok (P := P) (w := w) (O := O) (t := t) h
    refine ⟨x, y, h1, h2, ?_⟩
    cases op <;> simpa [eqGuard] using h3
  · cases hx; cases hy
    obtain ⟨x, y, h1, h2, h3⟩ := str_ok (P := P) (w := w) (O := O) (t := t) h
    refine ⟨x, y, h1, h2, ?_⟩
    cases op <;> simpa [eqGuard] using h3
  · obtain ⟨⟨x, y, h1, h2, h3⟩, n1, n2, n3, n4, n5, n6⟩ := eq_ok h hx hy
    refine ⟨x, y, h1, h2, ?_⟩
    rw [← h3]
    cases vx <;> first
      | exact absurd rfl (n1 _ _)
      | exact absurd rfl (n2 _ _)
      | exact absurd rfl (n3 _ _ _)
      | exact absurd rfl (n4 _)
      | exact absurd rfl n5
      | exact absurd rfl (n6 _)
      | simp [eqGuard, binOp]
  · obtain ⟨⟨x, y, h1, h2, h3⟩, n1, n2, n3, n4, n5, n6⟩ := eq_ok h hx hy
    refine ⟨x, y, h1, h2, ?_⟩
    rw [← h3]
    cases vx <;> first
      | exact absurd rfl (n1 _ _)
      | exact absurd rfl (n2 _ _)
      | exact absurd rfl (n3 _ _ _)
      | exact absurd rfl (n4 _)
      | exact absurd rfl n5
      | exact absurd rfl (n6 _)
      | simp [eqGuard, binOp]
  · exact h.elim

theorem un_ok {op : UnOp} {x : AV} {vx : Value} {K : AV → Prop} (h : aun op x K) (hx : Rep w O x vx) : Gives P w O K (Op.unary op vx) := by
  unfold aun at h
  split at h
  · cases hx; exact ⟨_, _, h, .v _, rfl⟩
  · cases hx; exact ⟨_, _, h, .v _, rfl⟩
  · cases hx
    have h' : K _ := h
    exact ⟨_, _, h', .v _, rfl⟩
  · exact h.elim

theorem conv_ok {u : TypeId} {x : AV} {vx : Value} {K : AV → Prop} (h : aconv P t u x K) (hx : Rep w O x vx) : Gives P w O K (convert t u vx) := by
  unfold aconv at h
  split at h
  · rename_i h1 h2
    cases hx
    exact ⟨_, _, h, .v _, by simp [convert, run_underlying h1, run_underlying h2, Conv.intToInt]⟩
  · rename_i h1 h2
    cases hx
    refine ⟨_, _, h, .v _, ?_⟩
    rename_i d _ _
    cases d <;> simp [convert, run_underlying h1, run_underlying h2]
  · exact h.elim

end Go.Fw
