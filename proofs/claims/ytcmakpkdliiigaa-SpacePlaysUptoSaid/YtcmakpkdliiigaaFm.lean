/- A region whose order Go leaves open: one order is walked; what may come up elsewhere is asked there, too. Definitions; what an operation looks at. -/
import Derived.Test.YtcmakpkdliiigaaFl
import Derived.Orders
namespace Go.Fw
set_option maxHeartbeats 8000000
set_option linter.all false
open Go

variable {P : Program} {w w0 : World} {O O0 D0 : Nat → Prop} {H : AH} {s : St} {a : Act} {n : Nat} {t : TypeId}

/-- An operation that computes or reads, and what it yields is fixed. -/
def asyncOp (P : Program) : Op → Bool
  | .move _ => true
  | .pick _ _ _ => true
  | .nilCheck _ => true
  | .binOp op t _ _ _ => (match op with
    | .eql => (match P.underlying t with | some (.slice _) => false | _ => true)
    | .neq => (match P.underlying t with | some (.slice _) => false | _ => true)
    | _ => true)
  | .unOp _ _ _ => true
  | .convert _ _ _ => true
  | .load _ _ => true
  | .fieldAddr _ _ _ => true
  | .field _ _ _ => true
  | .indexAddr _ _ _ => true
  | .index _ _ _ => true
  | .slice _ _ _ _ _ => true
  | .build _ _ => true
  | .buildSlice _ _ _ => true
  | .extract _ _ => true
  | .makeFunc _ _ _ => true
  | .call { callee := .builtin .len, .. } => true
  | _ => false

/-- K of one value alone, under what else is asked. -/
def Det (J : (AV → Prop) → Prop) : Prop := ∀ K, J K → ∃ x, K x ∧ ∀ K' : AV → Prop, K' x → J K'

theorem Det.here (x : AV) : Det fun K => K x := fun K h => ⟨x, h, fun _ h => h⟩
theorem Det.and {p : Prop} {J : (AV → Prop) → Prop} (h : Det J) : Det fun K => p ∧ J K := fun K hk => by
  obtain ⟨x, h1, h2⟩ := h K hk.2
  exact ⟨x, h1, fun K' h' => ⟨hk.1, h2 K' h'⟩⟩
theorem Det.two {p q : Prop} {J : (AV → Prop) → Prop} (h : Det J) : Det fun K => p ∧ q ∧ J K := Det.and (Det.and h)
theorem Det.no : Det fun _ => False := fun _ h => h.elim

theorem det_pick (c x y : AV) : Det fun K => apick c x y K := by
  intro K h
  unfold apick at h ⊢
  split at h
  · rename_i t
    cases t with
    | true => exact ⟨x, h.1 rfl, fun K' h' => ⟨fun _ => h', fun e => by cases e⟩⟩
    | false => exact ⟨y, h.2 rfl, fun K' h' => ⟨(fun e => by cases e), fun _ => h'⟩⟩
  · exact h.elim

theorem det_nil (x : AV) : Det fun K => anil x K := by
  intro K h
  unfold anil at h ⊢
  split at h <;> first | exact ⟨_, h, fun _ h => h⟩ | exact h.elim

theorem det_int (op : BinOp) (k : IntKind) (x y : Int) : Det fun K => aint op k x y K := by
  intro K h
  unfold aint at h ⊢
  cases op <;> first | exact ⟨_, h, fun _ h => h⟩ | exact ⟨_, h.2, fun _ h' => ⟨h.1, h'⟩⟩ | exact h.elim

theorem det_str (op : BinOp) (x y : ByteArray) : Det fun K => astr op x y K := by
  intro K h
  unfold astr at h ⊢
  cases op <;> first | exact ⟨_, h, fun _ h => h⟩ | exact ⟨_, h.2, fun _ h' => ⟨h.1, h'⟩⟩ | exact h.elim

theorem det_eq (neg : Bool) (x y : AV) (hns : ∀ e, P.underlying t ≠ some (.slice e)) : Det fun K => aeq P t neg x y K := by
  intro K h
  unfold aeq at h ⊢
  split at h <;> first
    | exact h.elim
    | exact absurd (by assumption) (hns _)
    | exact ⟨_, h, fun _ h => h⟩
    | exact ⟨_, h.2, fun _ h' => ⟨h.1, h'⟩⟩

theorem det_bin (op : BinOp) (x y : AV) (hns : (op = .eql ∨ op = .neq) → ∀ e, P.underlying t ≠ some (.slice e)) : Det fun K => abin P op t x y K := by
  intro K h
  unfold abin at h ⊢
  split at h
  · exact ⟨_, h.2, fun _ h' => ⟨h.1, h'⟩⟩
  · exact ⟨_, h.2, fun _ h' => ⟨h.1, h'⟩⟩
  · obtain ⟨z, h1, h2⟩ := det_int _ _ _ _ K h.2
    exact ⟨z, h1, fun K' h' => ⟨h.1, h2 K' h'⟩⟩
  · exact det_str _ _ _ K h
  · exact det_eq false _ _ (hns (.inl rfl)) K h
  · exact det_eq true _ _ (hns (.inr rfl)) K h
  · exact h.elim

theorem det_un (op : UnOp) (x : AV) : Det fun K => aun op x K := by
  intro K h
  unfold aun at h ⊢
  split at h <;> first | exact ⟨_, h, fun _ h => h⟩ | exact det_int _ _ _ _ K h | exact h.elim

theorem det_conv (u : TypeId) (x : AV) : Det fun K => aconv P t u x K := by
  intro K h
  unfold aconv at h ⊢
  split at h <;> first | exact ⟨_, h, fun _ h => h⟩ | exact h.elim

theorem det_cut (e : List AV) (f : Nat) : Det fun K => acut P t e f K := by
  intro K h
  unfold acut at h ⊢
  split at h
  · split at h
    · rename_i hag
      exact ⟨_, h.2, fun _ h' => by simp only [hag, if_true]; exact ⟨h.1, h'⟩⟩
    · rename_i hag
      obtain ⟨c, hc, hk⟩ := h
      exact ⟨c, hk, fun _ h' => by simp only [hag]; exact ⟨c, hc, h'⟩⟩
  · exact h.elim

theorem det_load (x : AV) (H : AH) : Det fun K => aload P t x H K := by
  intro K h
  unfold aload arow at h ⊢
  split at h
  · split at h
    · obtain ⟨h1, e, h2, h3⟩ := h
      obtain ⟨z, h4, h5⟩ := det_cut _ _ K h3
      exact ⟨z, h4, fun K' h' => ⟨h1, e, h2, h5 K' h'⟩⟩
    · exact h.elim
  · exact det_cut _ _ K h
  · exact h.elim

theorem det_fld (x : AV) (f : Nat) : Det fun K => afld P t x f K := by
  intro K h
  unfold afld at h ⊢
  split at h
  · split at h
    · obtain ⟨h1, h⟩ := h
      split at h <;> first | exact ⟨_, h, fun _ h' => ⟨h1, h'⟩⟩ | exact h.elim
    · exact h.elim
  · exact h.elim

theorem det_field (x : AV) (f : Nat) : Det fun K => afield P t x f K := by
  intro K h
  unfold afield at h ⊢
  split at h
  · split at h
    · split at h <;> first | exact det_cut _ _ K h | exact h.elim
    · exact h.elim
  · exact h.elim

theorem det_idx (x i : AV) : Det fun K => aidx P t x i K := by
  intro K h
  unfold aidx at h ⊢
  split at h
  · split at h
    · obtain ⟨h1, h2, h3, h4, h5⟩ := h
      exact ⟨_, h5, fun _ h' => ⟨h1, h2, h3, h4, h'⟩⟩
    · obtain ⟨h1, h2, h3, e, h4, h5⟩ := h
      exact ⟨_, h5, fun _ h' => ⟨h1, h2, h3, e, h4, h'⟩⟩
    · exact h.elim
  · split at h
    · obtain ⟨h1, h2, h3, h5⟩ := h
      exact ⟨_, h5, fun _ h' => ⟨h1, h2, h3, h'⟩⟩
    · exact h.elim
  · exact h.elim

theorem det_index (x i : AV) : Det fun K => aindex P t x i K := by
  intro K h
  unfold aindex at h ⊢
  split at h
  · obtain ⟨h1, c, h2, h3⟩ := h
    exact ⟨_, h3, fun _ h' => ⟨h1, c, h2, h'⟩⟩
  · exact h.elim

theorem det_ext (x : AV) (i : Nat) : Det fun K => aext x i K := by
  intro K h
  unfold aext at h ⊢
  split at h
  · obtain ⟨c, h2, h3⟩ := h
    exact ⟨_, h3, fun _ h' => ⟨c, h2, h'⟩⟩
  · obtain ⟨c, h2, h3⟩ := h
    exact ⟨_, h3, fun _ h' => ⟨c, h2, h'⟩⟩
  · exact h.elim

theorem det_len (x : AV) : Det fun K => alen P t x K := by
  intro K h
  unfold alen at h ⊢
  split at h <;> first | exact ⟨_, h, fun _ h => h⟩ | exact h.elim

theorem det_bnd (x : Option Operand) (dflt hi : Nat) {J : Nat → (AV → Prop) → Prop} (hJ : ∀ k, Det (J k)) : Det fun K => abnd s x dflt hi fun k => J k K := by
  intro K h
  unfold abnd at h ⊢
  split at h
  · exact hJ _ K h
  · split at h
    · obtain ⟨h1, h2, h3⟩ := h
      obtain ⟨z, h4, h5⟩ := hJ _ K h3
      exact ⟨z, h4, fun K' h' => ⟨h1, h2, h5 K' h'⟩⟩
    · exact h.elim

theorem Det.cond (c : Prop) [Decidable c] (x y : AV) : Det fun K => if c then K x else K y := by
  intro K h
  by_cases hc : c
  · simp only [if_pos hc] at h ⊢
    exact ⟨x, h, fun _ h => h⟩
  · simp only [if_neg hc] at h ⊢
    exact ⟨y, h, fun _ h => h⟩

theorem det_slice (x : AV) (lo hi mx : Option Operand) (s : St) : Det fun K => aslice P t x lo hi mx s K := by
  intro K h
  unfold aslice at h ⊢
  split at h
  · split at h
    · exact det_bnd _ _ _ (fun _ => det_bnd _ _ _ fun _ => Det.here _) K h
    · exact h.elim
  · split at h
    · exact Det.two (det_bnd _ _ _ fun _ => det_bnd _ _ _ fun _ => Det.and (Det.here _)) K h
    · exact Det.two (det_bnd _ _ _ fun _ => det_bnd _ _ _ fun _ => Det.here _) K h
    · exact Det.and (det_bnd _ _ _ fun _ => det_bnd _ _ _ fun _ => Det.here _) K h
    · exact Det.and (det_bnd _ _ _ fun _ => det_bnd _ _ _ fun _ => Det.here _) K h
    · exact h.elim
  · obtain ⟨h1, h2, h⟩ := h
    split at h
    · obtain ⟨h3, h⟩ := h
      obtain ⟨z, h4, h5⟩ := det_bnd _ _ _ (fun m => det_bnd _ _ _ fun h => det_bnd _ _ _ fun l => Det.cond (l < m) _ _) K h
      exact ⟨z, h4, fun K' h' => ⟨h1, h2, h3, h5 K' h'⟩⟩
    · obtain ⟨z, h4, h5⟩ := det_bnd _ _ _ (fun _ => det_bnd _ _ _ fun _ => det_bnd _ _ _ fun _ => Det.here _) K h
      exact ⟨z, h4, fun K' h' => ⟨h1, h2, h5 K' h'⟩⟩
    · obtain ⟨z, h4, h5⟩ := Det.and (det_bnd _ _ _ fun _ => det_bnd _ _ _ fun _ => det_bnd _ _ _ fun _ => Det.here _) K h
      exact ⟨z, h4, fun K' h' => ⟨h1, h2, h5 K' h'⟩⟩
    · obtain ⟨z, h4, h5⟩ := det_bnd _ _ _ (fun _ => det_bnd _ _ _ fun _ => det_bnd _ _ _ fun _ => Det.here _) K h
      exact ⟨z, h4, fun K' h' => ⟨h1, h2, h5 K' h'⟩⟩
    · exact h.elim
  · exact h.elim

end Go.Fw
