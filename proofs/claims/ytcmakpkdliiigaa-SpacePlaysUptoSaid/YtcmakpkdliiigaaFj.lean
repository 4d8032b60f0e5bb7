/- A region in the text's order; code; functions: the rules by which a walk goes. -/
import Derived.Test.YtcmakpkdliiigaaFi
namespace Go.Fw
set_option maxHeartbeats 8000000
set_option linter.all false
open Go

variable {P : Program} {w w0 : World} {O O0 D0 : Nat → Prop} {H : AH} {s : St} {a : Act} {n : Nat} {t : TypeId}

theorem getD_put (a : Act) (d t : Nat) (v : Value) (hd : d < a.tmps.size) : (a.put (some d) v).tmps.getD t undef = if d = t then v else a.tmps.getD t undef := by
  show (a.tmps.setIfInBounds d v).getD t undef = _
  simp only [Array.getD_eq_getD_getElem?]
  by_cases h : d = t
  · subst h; simp [hd]
  · rw [if_neg h, Array.getElem?_setIfInBounds_ne h]

theorem Mod.put {w' : World} {O' : Nat → Prop} {H' : AH} {dst : Option Nat} {x : AV} {y : Value} (hm : Mod w0 O0 D0 n s H a w O) (hd : inN n dst) (hH : Heap w0 O0 D0 w' O' H') (hx : Ext w O O w' O') (hr : Rep w' O' x y) :
    Mod w0 O0 D0 n (s.put dst x) H' (a.put dst y) w' O' := by
  cases dst with
  | none => exact ⟨hH, hm.defers, hm.size, fun t => (hm.tmps t).ext hx fun _ h => h⟩
  | some d =>
    have hd' : d < a.tmps.size := by rw [hm.size]; exact hd
    refine ⟨hH, hm.defers, by show (a.tmps.setIfInBounds d y).size = n; simp [hm.size], fun t => ?_⟩
    rw [St.get_put, getD_put a d t y hd']
    split
    · exact hr
    · exact (hm.tmps t).ext hx fun _ h => h

theorem Mod.guard {d : Nat} {c : Bool} (hm : Mod w0 O0 D0 n s H a w O) (hg : s.get d = .v (.bool c)) : a.tmps.getD d undef = .bool c := by
  have h := hm.tmps d
  rw [hg] at h
  exact h.inv_v

theorem areg_sound {ops : Array Oper} {Q : Exit → Act → World → Prop} (r : List Oper) : ∀ (s : St) (H : AH) (a : Act) (w : World) (O : Nat → Prop) (K : St → AH → Prop), areg P n ops.toList r s H K → Mod w0 O0 D0 n s H a w O →
    (∀ s' H' a' w' O', K s' H' → Mod w0 O0 D0 n s' H' a' w' O' → Q .normal a' w') → wpList P ops Q r a w := by
  induction r with
  | nil => intro s H a w O K h hm hk; exact hk s H a w O h hm
  | cons o r ih =>
    intro s H a w O K h hm hk
    simp only [areg] at h
    obtain ⟨hd, h⟩ := h
    have go : ∀ s, Mod w0 O0 D0 n s H a w O → aop P o.op s H (fun x H' => Hide (areg P n ops.toList r (s.put o.dst x) H' K)) → Region.wanted o (yielded ops a.tmps) = true → wpList P ops Q (o :: r) a w := by
      intro s hm hop hwant
      unfold wpList
      rw [if_pos hwant]
      exact .inl (aop_sound hm hop fun x H' w' O' y hx hH hext hr => ih _ _ _ _ _ K hx.out (hm.put hd hH hext hr) hk)
    cases hg : o.guard with
    | none =>
      rw [hg] at h
      exact go s hm h (by simp [Region.wanted, hg])
    | some jw =>
      obtain ⟨j, want⟩ := jw
      rw [hg] at h
      simp only at h
      cases hgs : gslot ops.toList j with
      | none => rw [hgs] at h; exact h.elim
      | some d =>
        rw [hgs] at h
        simp only at h
        have hdst : (ops[j]?).bind (·.dst) = some d := by
          unfold gslot at hgs
          simpa using hgs
        split at h
        · rename_i c hc
          have hval := hm.guard hc
          have hget : a.tmps[d]? = some (.bool c) := by
            rw [Array.getD_eq_getD_getElem?] at hval
            cases hq : a.tmps[d]? with
            | none => rw [hq] at hval; cases hval
            | some v => rw [hq] at hval; simp at hval; rw [hval]
          have hy : yielded ops a.tmps j = some c := by
            unfold yielded
            rw [hdst]
            simp [hget]
          by_cases hcw : c = want
          · subst hcw
            exact go _ hm (h.1 rfl) (by simp [Region.wanted, hg, hy])
          · have hcw' : c = !want := by cases c <;> cases want <;> simp_all
            have h2 := (h.2 hcw').out
            unfold wpList
            rw [if_neg (by simp [Region.wanted, hg, hy, hcw])]
            exact ih _ _ _ _ _ K h2 (hm.put hd hm.heap (Ext.refl w O O) (.junk _)) hk
        · exact h.elim

/-- What a code comes to, told of abstract states. -/
def Lift (w0 : World) (O0 D0 : Nat → Prop) (n : Nat) (K : Exit → St → AH → Prop) (e : Exit) (a : Act) (w : World) : Prop :=
  ∃ s H O, K e s H ∧ Mod w0 O0 D0 n s H a w O

/-- From such a state the code comes to K. -/
structure W (P : Program) (n : Nat) (c : Code) (s : St) (H : AH) (K : Exit → St → AH → Prop) : Prop where
  run : ∀ (w0 : World) (O0 D0 : Nat → Prop) (a : Act) (w : World) (O : Nat → Prop), Mod w0 O0 D0 n s H a w O → c.wp P (Lift w0 O0 D0 n K) a w

theorem W.mono {c : Code} {K K' : Exit → St → AH → Prop} (h : W P n c s H K) (hk : ∀ e s H, K e s H → K' e s H) : W P n c s H K' :=
  ⟨fun w0 O0 D0 a w O hm => wp_mono (h.run w0 O0 D0 a w O hm) fun e a w ⟨s, H, O, h1, h2⟩ => ⟨s, H, O, hk _ _ _ h1, h2⟩⟩

theorem Mod.keep (hm : Mod w0 O0 D0 n s H a w O) (l : List Nat) : Mod w0 O0 D0 n (s.keep l) H a w O := by
  refine ⟨hm.heap, hm.defers, hm.size, fun t => ?_⟩
  rcases St.get_keep s l t with h | h
  · rw [h]; exact hm.tmps t
  · rw [h]; exact .junk _

/-- Slots that are read no more are forgotten. -/
theorem W_keep {c : Code} {K : Exit → St → AH → Prop} (l : List Nat) (h : W P n c (s.keep l) H K) : W P n c s H K :=
  ⟨fun w0 O0 D0 a w O hm => h.run w0 O0 D0 a w O (hm.keep l)⟩

/-- A region in the text's order, from here on. -/
def Reg (P : Program) (n : Nat) (all r : List Oper) (s : St) (H : AH) (K : St → AH → Prop) : Prop := Hide (areg P n all r s H K)

def seqK (P : Program) (n : Nat) (c : Code) (K : Exit → St → AH → Prop) : Exit → St → AH → Prop
  | .normal, s, H => W P n c s H K
  | e, s, H => K e s H

theorem W_seq {c d : Code} {K : Exit → St → AH → Prop} (h : W P n c s H (seqK P n d K)) : W P n (.seq c d) s H K := by
  refine ⟨fun w0 O0 D0 a w O hm => ?_⟩
  refine wp_seq (wp_mono (h.run w0 O0 D0 a w O hm) ?_)
  rintro e a w ⟨s, H, O, h1, h2⟩
  cases e <;> first
    | exact h1.run w0 O0 D0 a w O h2
    | exact ⟨s, H, O, h1, h2⟩

def blockK (id : Nat) (K : Exit → St → AH → Prop) : Exit → St → AH → Prop
  | .exit i, s, H => if i = id then K .normal s H else K (.exit i) s H
  | e, s, H => K e s H

theorem W_block {c : Code} {id : Nat} {K : Exit → St → AH → Prop} (h : W P n c s H (blockK id K)) : W P n (.block id c) s H K := by
  refine ⟨fun w0 O0 D0 a w O hm => ?_⟩
  refine wp_block (wp_mono (h.run w0 O0 D0 a w O hm) ?_)
  rintro e a w ⟨s, H, O, h1, h2⟩
  cases e with
  | exit i =>
    simp only [blockK] at h1
    simp only [Exit.inBlock]
    split
    · rename_i hi; rw [if_pos hi] at h1; exact ⟨s, H, O, h1, h2⟩
    · rename_i hi; rw [if_neg hi] at h1; exact ⟨s, H, O, h1, h2⟩
  | _ => exact ⟨s, H, O, h1, h2⟩

theorem W_skip {K : Exit → St → AH → Prop} (h : K .normal s H) : W P n .skip s H K := ⟨fun _ _ _ _ _ O hm => wp_skip ⟨s, H, O, h, hm⟩⟩
theorem W_ret {K : Exit → St → AH → Prop} (h : K .ret s H) : W P n .ret s H K := ⟨fun _ _ _ _ _ O hm => wp_ret ⟨s, H, O, h, hm⟩⟩
theorem W_exit {id : Nat} {K : Exit → St → AH → Prop} (h : K (.exit id) s H) : W P n (.exit id) s H K := ⟨fun _ _ _ _ _ O hm => wp_exit ⟨s, H, O, h, hm⟩⟩

theorem W_cond {t : Nat} {c : Bool} {x y : Code} {K : Exit → St → AH → Prop} (hc : s.get t = .v (.bool c)) (h1 : c = true → W P n x s H K) (h2 : c = false → W P n y s H K) : W P n (.cond (.tmp t) x y) s H K := by
  refine ⟨fun w0 O0 D0 a w O hm => ?_⟩
  have hv := hm.tmps t
  rw [hc] at hv
  have hv := hv.inv_v
  exact wp_cond_split hv (fun e => (h1 e).run w0 O0 D0 a w O hm) (fun e => (h2 e).run w0 O0 D0 a w O hm)

theorem W_cond_lit {c : Bool} {x y : Code} {K : Exit → St → AH → Prop} (h : W P n (if c then x else y) s H K) : W P n (.cond (.const (.bool c)) x y) s H K := by
  refine ⟨fun w0 O0 D0 a w O hm => ?_⟩
  exact wp_cond (t := c) rfl (h.run w0 O0 D0 a w O hm)

theorem W_region {id : Nat} {ops : Array Oper} {K : Exit → St → AH → Prop} (h : Reg P n ops.toList ops.toList s H (fun s' H' => K .normal s' H')) : W P n (.region id ops false) s H K := by
  refine ⟨fun w0 O0 D0 a w O hm => ?_⟩
  exact wp_region_list (areg_sound (Q := Lift w0 O0 D0 n K) ops.toList s H a w O _ h.out hm fun s' H' a' w' O' h1 h2 => ⟨s', H', O', h1, h2⟩)

def loopK (I : Nat → St → AH → Prop) (l : List Nat) (m : Nat) (K : Exit → St → AH → Prop) : Exit → St → AH → Prop
  | .normal, s, H => ∃ m', m' < m ∧ I m' (s.keep l) H
  | e, s, H => K e s H

/-- A loop: what holds at every round's head, of the slots l, with a number that every round lowers. -/
theorem W_loop {c : Code} {K : Exit → St → AH → Prop} (l : List Nat) (I : Nat → St → AH → Prop) (m0 : Nat) (h0 : I m0 (s.keep l) H) (round : ∀ m s H, I m s H → W P n c s H (loopK I l m K)) : W P n (.loop c) s H K := by
  refine ⟨fun w0 O0 D0 a w O hm => ?_⟩
  refine wp_loop_ghost (fun m a w => ∃ s H O, I m s H ∧ Mod w0 O0 D0 n s H a w O) m0 ⟨_, H, O, h0, hm.keep l⟩ ?_
  rintro m a w ⟨s, H, O, hI, hm⟩
  refine wp_mono ((round m s H hI).run w0 O0 D0 a w O hm) ?_
  rintro e a w ⟨s, H, O, h1, h2⟩
  cases e <;> first
    | (obtain ⟨m', hlt, h1⟩ := h1
       exact ⟨m', hlt, _, H, O, h1, h2.keep l⟩)
    | exact ⟨s, H, O, h1, h2⟩

/-- A fact on the heap may be had at any point: an owned block is another than a fresh one. -/
theorem W_scope {c : Code} {K : Exit → St → AH → Prop} (h : W P n c s H (fun e s H => (∀ l, e ≠ .goto l) ∧ K e s H)) : W P n (.scope c) s H K := by
  refine ⟨fun w0 O0 D0 a w O hm => ?_⟩
  refine wp_scope_straight (wp_mono (h.run w0 O0 D0 a w O hm) ?_)
  rintro e a w ⟨s, H, O, ⟨h0, h1⟩, h2⟩
  cases e <;> first
    | exact ⟨s, H, O, h1, h2⟩
    | exact absurd rfl (h0 _)

end Go.Fw
