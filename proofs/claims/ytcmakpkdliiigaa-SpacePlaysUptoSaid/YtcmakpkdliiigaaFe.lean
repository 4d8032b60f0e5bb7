/- Indexes and cuts: each abstract one is what the model's one does. -/
import Derived.Test.YtcmakpkdliiigaaFd
namespace Go.Fw
set_option maxHeartbeats 8000000
set_option linter.all false
open Go

variable {P : Program} {w w0 : World} {O O0 D0 : Nat → Prop} {H : AH} {s : St} {a : Act} {n : Nat} {t : TypeId}

theorem run_cells {u : TypeId} (h : P.cellsOf u ≠ 0 ∨ ∃ i, P.info? u = some i) : (sizeOf u).run P w = .ok (P.cellsOf u) w := by
  have hi : ∃ i, P.info? u = some i := by
    rcases h with h | h
    · cases hq : P.info? u with
      | some i => exact ⟨i, rfl⟩
      | none => simp [Program.cellsOf, hq] at h
    · exact h
  obtain ⟨i, hi⟩ := hi
  exact run_sizeOf w hi

theorem idx_ok {x i : AV} {vx vi : Value} {K : AV → Prop} (h : aidx P t x i K) (hx : Rep w O x vx) (hi : Rep w O i vi) :
    Gives P w O K (Instr.indexAt t vx vi) := by
  unfold aidx at h
  split at h
  · rename_i el hu
    split at h
    · obtain ⟨he, hnz, h0, hl, hk⟩ := h
      have hs := run_cells (w := w) (.inl hnz)
      cases hi
      cases hx with
      | ov b off es n c c' cells t' fr hw hc hn hcc =>
        rename_i k
        refine ⟨_, _, hk, .ptr _ _ _ _ (lt_of_heap hw), ?_⟩
        simp [Instr.indexAt, asIntOf, run_underlying hu, h0, hl, hs, add_zero_spot, he, Nat.add_mul]
    · obtain ⟨he, hnz, h0, e, hk', hk⟩ := h
      have hs := run_cells (w := w) (.inl hnz)
      cases hi
      rename_i es xs _ k
      have hlt := (List.getElem?_eq_some_iff.1 hk').1
      cases hx with
      | imn => simp at hk'
      | imm es xs b o c cells t' fr vals hw hO hc hes h1 h2 =>
        have hl : k < (xs.length : Int) := by omega
        refine ⟨_, .pointer (some ⟨b, (o + k.toNat * es) + 0, none⟩), hk, .ip e 0 b (o + k.toNat * es) cells t' fr (fun f => vals k.toNat f) hw hO (hes e (List.mem_of_getElem? hk')).2 (fun j x hj => h1 _ _ _ _ hk' hj) (fun j x hj => h2 _ _ _ _ hk' hj), ?_⟩
        simp [Instr.indexAt, asIntOf, run_underlying hu, h0, hl, hs, add_zero_spot, he]
    · exact h.elim
  · rename_i m el hu
    split at h
    · obtain ⟨hnz, h0, hl, hk⟩ := h
      have hs := run_cells (w := w) (.inl hnz)
      cases hi
      cases hx with
      | ptr b es j f hb =>
        refine ⟨_, _, hk, .ptr _ _ _ _ hb, ?_⟩
        simp [Instr.indexAt, asIntOf, run_underlying hu, h0, hl, hs, add_zero_spot, Instr.sureAddr, Nat.add_assoc]
    · exact h.elim
  · exact h.elim

theorem index_ok {x i : AV} {vx vi : Value} {K : AV → Prop} (h : aindex P t x i K) (hx : Rep w O x vx) (hi : Rep w O i vi) : Gives P w O K (Instr.index t vx vi) := by
  unfold aindex at h
  split at h
  · rename_i hu
    obtain ⟨h0, c, hc, hk⟩ := h
    cases hi; cases hx
    exact ⟨_, _, hk, .v _, by simp [Instr.index, asIntOf, run_underlying hu, h0, hc]⟩
  · exact h.elim


/-- A bound of a cut, as the model looks at it. -/
theorem bnd_ok {x : Option Operand} {dflt hi : Nat} {K : Nat → Prop} (h : abnd s x dflt hi K) (hm : Mod w0 O0 D0 n s H a w O) :
    ∃ k, K k ∧ ((x = none ∧ k = dflt) ∨ ∃ o v, x = some o ∧ a.eval o = v ∧ k ≤ hi ∧ ∀ (c : BoundsCode) (y : Nat), k ≤ y → (Instr.sliceBound v y c).run P w = .ok k w) := by
  unfold abnd at h
  split at h
  · exact ⟨dflt, h, .inl ⟨rfl, rfl⟩⟩
  · rename_i o
    split at h
    · rename_i kd k he
      obtain ⟨h0, h1, hk⟩ := h
      have hev := hm.ev o
      rw [he] at hev
      have hv := hev.inv_v
      refine ⟨k.toNat, hk, .inr ⟨o, _, rfl, hv, by omega, fun c y hy => ?_⟩⟩
      have h2 : k ≤ (y : Int) := by omega
      simp [Instr.sliceBound, asIntOf, h0, h2]
    · exact h.elim

/-- 'l' and 'h' of a cut without a third index. -/
theorem bounds_ok {lo hi : Option Operand} {isSlice : Bool} {len cap l h : Nat} (hlh : l ≤ h) (hhc : h ≤ cap)
    (hh : (hi = none ∧ h = len) ∨ ∃ o v, hi = some o ∧ a.eval o = v ∧ ∀ (c : BoundsCode) (y : Nat), h ≤ y → (Instr.sliceBound v y c).run P w = .ok h w)
    (hl : (lo = none ∧ l = 0) ∨ ∃ o v, lo = some o ∧ a.eval o = v ∧ ∀ (c : BoundsCode) (y : Nat), l ≤ y → (Instr.sliceBound v y c).run P w = .ok l w) :
    (Instr.sliceBounds isSlice len cap (lo.map a.eval) (hi.map a.eval) none).run P w = .ok (l, h, cap) w := by
  rcases hh with ⟨rfl, rfl⟩ | ⟨o, v, rfl, rfl, hv⟩ <;> rcases hl with ⟨rfl, rfl⟩ | ⟨o', v', rfl, rfl, hv'⟩
  · simp [Instr.sliceBounds]
  · simp [Instr.sliceBounds, hv' _ _ hlh]
  · simp [Instr.sliceBounds, hv _ _ hhc]
  · simp [Instr.sliceBounds, hv _ _ hhc, hv' _ _ hlh]

/-- The bounds of a cut with a third index. -/
theorem bounds3_ok {lo hi : Option Operand} {mx : Operand} {isSlice : Bool} {len cap l h m : Nat} (hlh : l ≤ h) (hhm : h ≤ m) (hmc : m ≤ cap)
    (hm : ∃ o v, some mx = some o ∧ a.eval o = v ∧ ∀ (c : BoundsCode) (y : Nat), m ≤ y → (Instr.sliceBound v y c).run P w = .ok m w)
    (hh : ∃ o v, hi = some o ∧ a.eval o = v ∧ ∀ (c : BoundsCode) (y : Nat), h ≤ y → (Instr.sliceBound v y c).run P w = .ok h w)
    (hl : (lo = none ∧ l = 0) ∨ ∃ o v, lo = some o ∧ a.eval o = v ∧ ∀ (c : BoundsCode) (y : Nat), l ≤ y → (Instr.sliceBound v y c).run P w = .ok l w) :
    (Instr.sliceBounds isSlice len cap (lo.map a.eval) (hi.map a.eval) (some (a.eval mx))).run P w = .ok (l, h, m) w := by
  obtain ⟨om, vm, e1, rfl, hvm⟩ := hm
  cases e1
  obtain ⟨o, v, rfl, rfl, hv⟩ := hh
  rcases hl with ⟨rfl, rfl⟩ | ⟨o', v', rfl, rfl, hv'⟩
  · simp [Instr.sliceBounds, hvm _ _ hmc, hv _ _ hhm]
  · simp [Instr.sliceBounds, hvm _ _ hmc, hv _ _ hhm, hv' _ _ hlh]

theorem slice_ok {x : AV} {vx : Value} {lo hi mx : Option Operand} {K : AV → Prop} (h : aslice P t x lo hi mx s K) (hm : Mod w0 O0 D0 n s H a w O) (hx : Rep w O x vx) :
    Gives P w O K (Instr.sliceAt t vx (lo.map a.eval) (hi.map a.eval) (mx.map a.eval)) := by
  unfold aslice at h
  split at h
  · rename_i hu
    split at h
    · rename_i c
      obtain ⟨hh, h, bh⟩ := bnd_ok (P := P) h hm
      obtain ⟨l, hk, bl⟩ := bnd_ok (P := P) h hm
      cases hx
      have hlh : l ≤ hh := by rcases bl with ⟨_, rfl⟩ | ⟨_, _, _, _, h1, _⟩ <;> omega
      have hhc : hh ≤ c.size := by rcases bh with ⟨_, rfl⟩ | ⟨_, _, _, _, h1, _⟩ <;> omega
      have hb := bounds_ok (P := P) (w := w) (a := a) (lo := lo) (hi := hi) (isSlice := false) (len := c.size) (cap := c.size) hlh hhc
        (bh.imp id fun ⟨o, v, h1, h2, _, h3⟩ => ⟨o, v, h1, h2, h3⟩) (bl.imp id fun ⟨o, v, h1, h2, _, h3⟩ => ⟨o, v, h1, h2, h3⟩)
      exact ⟨_, _, hk, .v _, by simp [Instr.sliceAt, Instr.slice, run_underlying hu, hb]⟩
    · exact h.elim
  · rename_i el hu
    split at h
    · rename_i b off es m c
      obtain ⟨he, hnz, h⟩ := h
      obtain ⟨hh, h, bh⟩ := bnd_ok (P := P) h hm
      obtain ⟨l, ⟨hlo, hk⟩, bl⟩ := bnd_ok (P := P) h hm
      cases hx with
      | ov b off es m c1 c' cells t' fr hw hc hn hcc =>
        have hlh : l ≤ hh := by rcases bl with ⟨_, rfl⟩ | ⟨_, _, _, _, h1, _⟩ <;> omega
        have hgd : c.getD m ≤ c1 := by
          cases c with
          | none => exact hn
          | some k => have := hcc k rfl; simp; omega
        have hhc : hh ≤ c1 := by
          rcases bh with ⟨_, h1⟩ | ⟨_, _, _, _, h1, _⟩
          · omega
          · omega
        have hb := bounds_ok (P := P) (w := w) (a := a) (lo := lo) (hi := hi) (isSlice := true) (len := m) (cap := c1) hlh hhc
          (bh.imp id fun ⟨o, v, h1, h2, _, h3⟩ => ⟨o, v, h1, h2, h3⟩) (bl.imp id fun ⟨o, v, h1, h2, _, h3⟩ => ⟨o, v, h1, h2, h3⟩)
        have hs := run_cells (w := w) (.inl hnz)
        have hadr : (if c1 = l then (some (⟨b, off * es, none⟩ : Addr)) else some ⟨b, off * es + l * P.cellsOf el, none⟩) = some ⟨b, (off + l) * es, none⟩ := by
          split
          · rename_i hcl
            have hl0 : l = 0 := by
              rcases hlo with rfl | hlo | ⟨k, rfl, hlo⟩
              · rcases bl with ⟨_, h1⟩ | ⟨_, _, h1, _⟩
                · exact h1
                · exact absurd h1 (by simp)
              · omega
              · have := hcc k rfl; omega
            rw [hl0, Nat.add_zero]
          · rw [he, Nat.add_mul]
        refine ⟨_, .slice (some ⟨b, (off + l) * es, none⟩) (hh - l) (c1 - l), hk, .ov b (off + l) es (hh - l) (c1 - l) _ cells t' fr hw ?_ (by omega) ?_, ?_⟩
        · have : off + l + (c1 - l) = off + c1 := by omega
          rw [this]; exact hc
        · intro k hk'
          cases c with
          | none => simp at hk'
          | some q => have := hcc q rfl; simp at hk'; omega
        · simp only [Instr.sliceAt, Instr.slice, Sem.run_bind, run_underlying hu, Result.andThen_ok, Option.map_none, hb, hs, Sem.run_pure, Option.map_some, add_zero_spot]
          rw [hadr]
    · rename_i es xs
      obtain ⟨he, hnz, h⟩ := h
      obtain ⟨hh, h, bh⟩ := bnd_ok (P := P) h hm
      obtain ⟨l, hk, bl⟩ := bnd_ok (P := P) h hm
      have hs := run_cells (w := w) (.inl hnz)
      have hlh : l ≤ hh := by rcases bl with ⟨_, rfl⟩ | ⟨_, _, _, _, h1, _⟩ <;> omega
      have hhl : hh ≤ xs.length := by
        rcases bh with ⟨_, h1⟩ | ⟨_, _, _, _, h1, _⟩
        · exact Nat.le_of_eq h1
        · exact h1
      cases hx with
      | imn es ad c =>
        simp only [List.length_nil] at hhl bh
        have hb := bounds_ok (P := P) (w := w) (a := a) (lo := lo) (hi := hi) (isSlice := true) (len := 0) (cap := c) hlh (by omega)
          (bh.imp id fun ⟨o, v, h1, h2, _, h3⟩ => ⟨o, v, h1, h2, h3⟩) (bl.imp id fun ⟨o, v, h1, h2, _, h3⟩ => ⟨o, v, h1, h2, h3⟩)
        have h00 : hh - l = 0 := by omega
        simp only [List.take_nil, List.drop_nil] at hk
        refine ⟨_, .slice (if c = l then ad else Option.map (fun x => x.add (l * P.cellsOf el)) ad) (hh - l) (c - l), hk, ?_, by simp only [Instr.sliceAt, Instr.slice, Sem.run_bind, run_underlying hu, Result.andThen_ok, Option.map_none, hb, hs, Sem.run_pure]⟩
        rw [h00]
        exact .imn _ _ _
      | imm es xs b o c cells t' fr vals hw hO hc hes h1 h2 =>
        have hb := bounds_ok (P := P) (w := w) (a := a) (lo := lo) (hi := hi) (isSlice := true) (len := xs.length) (cap := c) hlh (by omega)
          (bh.imp id fun ⟨o, v, h1, h2, _, h3⟩ => ⟨o, v, h1, h2, h3⟩) (bl.imp id fun ⟨o, v, h1, h2, _, h3⟩ => ⟨o, v, h1, h2, h3⟩)
        refine ⟨_, .slice (if c = l then some ⟨b, o, none⟩ else Option.map (fun x : Addr => x.add (l * P.cellsOf el)) (some (⟨b, o, none⟩ : Addr))) (hh - l) (c - l), hk, ?_, by simp only [Instr.sliceAt, Instr.slice, Sem.run_bind, run_underlying hu, Result.andThen_ok, Option.map_none, hb, hs, Sem.run_pure]⟩
        have hlen : ((xs.take hh).drop l).length = hh - l := by simp; omega
        rw [← hlen]
        by_cases hz : hh - l = 0
        · have : (xs.take hh).drop l = [] := List.eq_nil_of_length_eq_zero (by omega)
          rw [this]
          exact .imn _ _ _
        · rw [if_neg (by omega)]
          simp only [Option.map_some, add_zero_spot]
          have hel : ∀ (i : Nat) e, ((xs.take hh).drop l)[i]? = some e → xs[l + i]? = some e := by
            intro i e hi
            rw [List.getElem?_drop, List.getElem?_take] at hi
            split at hi
            · exact hi
            · simp at hi
          refine .imm es _ b (o + l * P.cellsOf el) (c - l) cells t' fr (fun i f => vals (l + i) f) hw hO (by omega) ?_ ?_ ?_
          · exact fun e hmem => hes e (List.mem_of_mem_take (List.mem_of_mem_drop hmem))
          · intro i e f x hi hf
            have := h1 _ _ _ _ (hel i e hi) hf
            rw [← this, ← he, Nat.add_mul]
            congr 1
            omega
          · intro i e f x hi hf
            exact h2 _ _ _ _ (hel i e hi) hf
    · obtain ⟨hnz, h⟩ := h
      obtain ⟨hh, h, bh⟩ := bnd_ok (P := P) h hm
      obtain ⟨l, hk, bl⟩ := bnd_ok (P := P) h hm
      have hs := run_cells (w := w) (.inl hnz)
      have hlh : l ≤ hh := by rcases bl with ⟨_, rfl⟩ | ⟨_, _, _, _, h1, _⟩ <;> omega
      have hhl : hh ≤ 0 := by
        rcases bh with ⟨_, h1⟩ | ⟨_, _, _, _, h1, _⟩
        · exact Nat.le_of_eq h1
        · exact h1
      have hh0 : hh = 0 := by omega
      have hl0 : l = 0 := by omega
      subst hh0 hl0
      cases hx
      have hb := bounds_ok (P := P) (w := w) (a := a) (lo := lo) (hi := hi) (isSlice := true) (len := 0) (cap := 0) hlh (by omega)
        (bh.imp id fun ⟨o, v, h1, h2, _, h3⟩ => ⟨o, v, h1, h2, h3⟩) (bl.imp id fun ⟨o, v, h1, h2, _, h3⟩ => ⟨o, v, h1, h2, h3⟩)
      rename_i ad
      refine ⟨_, .slice ad 0 0, hk, .ovn _ _, by cases ad <;> simp [Instr.sliceAt, Instr.slice, run_underlying hu, hb, hs]⟩
    · obtain ⟨hnz, h⟩ := h
      obtain ⟨hh, h, bh⟩ := bnd_ok (P := P) h hm
      obtain ⟨l, hk, bl⟩ := bnd_ok (P := P) h hm
      have hs := run_cells (w := w) (.inl hnz)
      have hlh : l ≤ hh := by rcases bl with ⟨_, rfl⟩ | ⟨_, _, _, _, h1, _⟩ <;> omega
      have hhl : hh ≤ 0 := by
        rcases bh with ⟨_, h1⟩ | ⟨_, _, _, _, h1, _⟩
        · exact Nat.le_of_eq h1
        · exact h1
      have hh0 : hh = 0 := by omega
      have hl0 : l = 0 := by omega
      subst hh0 hl0
      cases hx
      have hb := bounds_ok (P := P) (w := w) (a := a) (lo := lo) (hi := hi) (isSlice := true) (len := 0) (cap := 0) hlh (by omega)
        (bh.imp id fun ⟨o, v, h1, h2, _, h3⟩ => ⟨o, v, h1, h2, h3⟩) (bl.imp id fun ⟨o, v, h1, h2, _, h3⟩ => ⟨o, v, h1, h2, h3⟩)
      exact ⟨_, _, hk, .v _, by simp [Instr.sliceAt, Instr.slice, run_underlying hu, hb, hs]⟩
    · exact h.elim
  · rename_i el m hu
    obtain ⟨hnz, hhi, h⟩ := h
    have hs := run_cells (w := w) (.inl hnz)
    have some_of : ∀ {x : Option Operand} {p q k : Nat}, x ≠ none → ((x = none ∧ k = p) ∨ ∃ o v, x = some o ∧ a.eval o = v ∧ k ≤ q ∧ ∀ (c : BoundsCode) (y : Nat), k ≤ y → (Instr.sliceBound v y c).run P w = .ok k w) →
        k ≤ q ∧ ∃ o v, x = some o ∧ a.eval o = v ∧ ∀ (c : BoundsCode) (y : Nat), k ≤ y → (Instr.sliceBound v y c).run P w = .ok k w := by
      intro x p q k hx h
      rcases h with ⟨h, _⟩ | ⟨o, v, h1, h2, h3, h4⟩
      · exact absurd h hx
      · exact ⟨h3, o, v, h1, h2, h4⟩
    split at h
    · rename_i b off es n' c'
      obtain ⟨he, h⟩ := h
      obtain ⟨mm, h, bm⟩ := bnd_ok (P := P) h hm
      obtain ⟨hh, h, bh⟩ := bnd_ok (P := P) h hm
      obtain ⟨l, hk, bl⟩ := bnd_ok (P := P) h hm
      obtain ⟨hmn, bm'⟩ := some_of (by simp) bm
      obtain ⟨hhm, bh'⟩ := some_of hhi bh
      clear bm bh
      have hlh : l ≤ hh := by rcases bl with ⟨_, rfl⟩ | ⟨_, _, _, _, h1, _⟩ <;> omega
      cases hx with
      | ov _ _ _ _ c1 _ cells t' fr hw hc hn hcc =>
        have hb := bounds3_ok (P := P) (w := w) (a := a) (isSlice := true) (len := n') (cap := c1) hlh hhm (by omega) bm' bh' (bl.imp id fun ⟨o, v, h1, h2, _, h3⟩ => ⟨o, v, h1, h2, h3⟩)
        by_cases hlm : l = mm
        · subst hlm
          rw [if_neg (Nat.lt_irrefl _)] at hk
          have hz : hh - l = 0 := by omega
          refine ⟨_, .slice (some ⟨b, off * es, none⟩) 0 0, hk, .ovn _ _, ?_⟩
          simp only [Instr.sliceAt, Instr.slice, Sem.run_bind, run_underlying hu, Result.andThen_ok, Option.map_some, hb, hs, Sem.run_pure]
          simp [hz]
        · rw [if_pos (show l < mm by omega)] at hk
          refine ⟨_, .slice (some ⟨b, (off + l) * es, none⟩) (hh - l) (mm - l), hk, .ov b (off + l) es (hh - l) (mm - l) _ cells t' fr hw ?_ (by omega) (by intro k hk; cases hk; rfl), ?_⟩
          · have : off + l + (mm - l) = off + mm := by omega
            rw [this]
            have : (off + mm) * es ≤ (off + c1) * es := Nat.mul_le_mul_right _ (by omega)
            omega
          · simp only [Instr.sliceAt, Instr.slice, Sem.run_bind, run_underlying hu, Result.andThen_ok, Option.map_some, hb, hs, Sem.run_pure, add_zero_spot]
            rw [if_neg (by omega), he, Nat.add_mul]
    · obtain ⟨mm, h, bm⟩ := bnd_ok (P := P) h hm
      obtain ⟨hh, h, bh⟩ := bnd_ok (P := P) h hm
      obtain ⟨l, hk, bl⟩ := bnd_ok (P := P) h hm
      obtain ⟨hmn, bm'⟩ := some_of (by simp) bm
      obtain ⟨hhm, bh'⟩ := some_of hhi bh
      clear bm bh
      have hlh : l ≤ hh := by rcases bl with ⟨_, rfl⟩ | ⟨_, _, _, _, h1, _⟩ <;> omega
      have hmm : mm = 0 := by omega
      have hhh : hh = 0 := by omega
      have hll : l = 0 := by omega
      subst hmm hhh hll
      cases hx with
      | ovn es ad =>
        have hb := bounds3_ok (P := P) (w := w) (a := a) (isSlice := true) (len := 0) (cap := 0) hlh hhm (Nat.le_refl _) bm' bh' (bl.imp id fun ⟨o, v, h1, h2, _, h3⟩ => ⟨o, v, h1, h2, h3⟩)
        refine ⟨_, .slice ad 0 0, hk, .ovn _ _, ?_⟩
        simp only [Instr.sliceAt, Instr.slice, Sem.run_bind, run_underlying hu, Result.andThen_ok, Option.map_some, hb, hs, Sem.run_pure]
        simp
    · rename_i es xs
      obtain ⟨he, h⟩ := h
      obtain ⟨mm, h, bm⟩ := bnd_ok (P := P) h hm
      obtain ⟨hh, h, bh⟩ := bnd_ok (P := P) h hm
      obtain ⟨l, hk, bl⟩ := bnd_ok (P := P) h hm
      obtain ⟨hmn, bm'⟩ := some_of (by simp) bm
      obtain ⟨hhm, bh'⟩ := some_of hhi bh
      clear bm bh
      have hlh : l ≤ hh := by rcases bl with ⟨_, rfl⟩ | ⟨_, _, _, _, h1, _⟩ <;> omega
      have hlen : ((xs.take hh).drop l).length = hh - l := by simp; omega
      cases hx with
      | imn es ad c =>
        have hb := bounds3_ok (P := P) (w := w) (a := a) (isSlice := true) (len := 0) (cap := c) hlh hhm (by simp at hmn; omega) bm' bh' (bl.imp id fun ⟨o, v, h1, h2, _, h3⟩ => ⟨o, v, h1, h2, h3⟩)
        simp only [List.length_nil] at hmn
        have h00 : hh - l = 0 := by omega
        simp only [List.take_nil, List.drop_nil] at hk
        refine ⟨_, .slice (if mm = l then ad else Option.map (fun x : Addr => x.add (l * P.cellsOf el)) ad) (hh - l) (mm - l), hk, ?_, by simp only [Instr.sliceAt, Instr.slice, Sem.run_bind, run_underlying hu, Result.andThen_ok, Option.map_some, hb, hs, Sem.run_pure]⟩
        rw [h00]
        exact .imn _ _ _
      | imm es xs b o c cells t' fr vals hw hO hc hes h1 h2 =>
        have hb := bounds3_ok (P := P) (w := w) (a := a) (isSlice := true) (len := xs.length) (cap := c) hlh hhm (by omega) bm' bh' (bl.imp id fun ⟨o, v, h1, h2, _, h3⟩ => ⟨o, v, h1, h2, h3⟩)
        refine ⟨_, .slice (if mm = l then some ⟨b, o, none⟩ else Option.map (fun x : Addr => x.add (l * P.cellsOf el)) (some (⟨b, o, none⟩ : Addr))) (hh - l) (mm - l), hk, ?_, by simp only [Instr.sliceAt, Instr.slice, Sem.run_bind, run_underlying hu, Result.andThen_ok, Option.map_some, hb, hs, Sem.run_pure]⟩
        rw [← hlen]
        by_cases hz : hh - l = 0
        · have : (xs.take hh).drop l = [] := List.eq_nil_of_length_eq_zero (by omega)
          rw [this]
          exact .imn _ _ _
        · rw [if_neg (by omega)]
          simp only [Option.map_some, add_zero_spot]
          have hel : ∀ (i : Nat) e, ((xs.take hh).drop l)[i]? = some e → xs[l + i]? = some e := by
            intro i e hi
            rw [List.getElem?_drop, List.getElem?_take] at hi
            split at hi
            · exact hi
            · simp at hi
          refine .imm es _ b (o + l * P.cellsOf el) (mm - l) cells t' fr (fun i f => vals (l + i) f) hw hO (by omega) ?_ ?_ ?_
          · exact fun e hmem => hes e (List.mem_of_mem_take (List.mem_of_mem_drop hmem))
          · intro i e f x hi hf
            have := h1 _ _ _ _ (hel i e hi) hf
            rw [← this, ← he, Nat.add_mul]
            congr 1
            omega
          · intro i e f x hi hf
            exact h2 _ _ _ _ (hel i e hi) hf
    · obtain ⟨mm, h, bm⟩ := bnd_ok (P := P) h hm
      obtain ⟨hh, h, bh⟩ := bnd_ok (P := P) h hm
      obtain ⟨l, hk, bl⟩ := bnd_ok (P := P) h hm
      obtain ⟨hmn, bm'⟩ := some_of (by simp) bm
      obtain ⟨hhm, bh'⟩ := some_of hhi bh
      clear bm bh
      have hlh : l ≤ hh := by rcases bl with ⟨_, rfl⟩ | ⟨_, _, _, _, h1, _⟩ <;> omega
      have hmm : mm = 0 := by omega
      have hhh : hh = 0 := by omega
      have hll : l = 0 := by omega
      subst hmm hhh hll
      cases hx
      have hb := bounds3_ok (P := P) (w := w) (a := a) (isSlice := true) (len := 0) (cap := 0) hlh hhm (Nat.le_refl _) bm' bh' (bl.imp id fun ⟨o, v, h1, h2, _, h3⟩ => ⟨o, v, h1, h2, h3⟩)
      refine ⟨_, _, hk, .v _, ?_⟩
      simp only [Instr.sliceAt, Instr.slice, Sem.run_bind, run_underlying hu, Result.andThen_ok, Option.map_some, hb, hs, Sem.run_pure]
      simp
    · exact h.elim
  · exact h.elim

end Go.Fw
