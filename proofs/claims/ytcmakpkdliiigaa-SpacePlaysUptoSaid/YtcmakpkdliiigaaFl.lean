/- Stepping through a region, one operation at a time. -/
import Derived.Test.YtcmakpkdliiigaaFk
namespace Go.Fw
set_option maxHeartbeats 8000000
set_option linter.all false
open Go

variable {P : Program} {n : Nat} {all r : List Oper} {o : Oper} {s : St} {H : AH} {K : St → AH → Prop}

def inB (n : Nat) : Option Nat → Bool
  | none => true
  | some d => decide (d < n)

theorem inN_of {d : Option Nat} (h : inB n d = true) : inN n d := by
  cases d with
  | none => trivial
  | some d => exact of_decide_eq_true (p := d < n) h

theorem Reg.nil (h : K s H) : Reg P n all [] s H K := ⟨h⟩

theorem Reg.cons (hd : inB n o.dst = true) (hg : o.guard = none) (h : aop P o.op s H fun x H' => Reg P n all r (s.put o.dst x) H' K) : Reg P n all (o :: r) s H K := by
  refine ⟨?_⟩
  simp only [areg, hg]
  exact ⟨inN_of hd, h⟩

theorem Reg.guard {j d : Nat} {want c : Bool} (hd : inB n o.dst = true) (hg : o.guard = some (j, want)) (hs : gslot all j = some d) (hc : s.get d = .v (.bool c))
    (h1 : c = want → Reg P n all (⟨o.dst, o.op, o.type, o.pos, o.after, none⟩ :: r) s H K) (h2 : c = !want → Reg P n all r (s.put o.dst .junk) H K) : Reg P n all (o :: r) s H K := by
  refine ⟨?_⟩
  simp only [areg, hg, hs, hc]
  exact ⟨inN_of hd, fun e => (h1 e).out.2, h2⟩

theorem Reg.guard_run {j d : Nat} {want : Bool} (hd : inB n o.dst = true) (hg : o.guard = some (j, want)) (hs : gslot all j = some d) (hc : s.get d = .v (.bool want))
    (h : aop P o.op s H fun x H' => Reg P n all r (s.put o.dst x) H' K) : Reg P n all (o :: r) s H K := by
  refine ⟨?_⟩
  simp only [areg, hg, hs, hc]
  refine ⟨inN_of hd, fun _ => h, ?_⟩
  cases want <;> simp

theorem Reg.guard_skip {j d : Nat} {want : Bool} (hd : inB n o.dst = true) (hg : o.guard = some (j, want)) (hs : gslot all j = some d) (hc : s.get d = .v (.bool !want))
    (h : Reg P n all r (s.put o.dst .junk) H K) : Reg P n all (o :: r) s H K := by
  refine ⟨?_⟩
  simp only [areg, hg, hs, hc]
  refine ⟨inN_of hd, ?_, fun _ => h⟩
  cases want <;> simp

section
variable {c d : Code} {J : Exit → St → AH → Prop} {id i : Nat}
theorem seqK_normal (h : W P n c s H J) : seqK P n c J .normal s H := h
theorem seqK_ret (h : J .ret s H) : seqK P n c J .ret s H := h
theorem seqK_exit (h : J (.exit i) s H) : seqK P n c J (.exit i) s H := h
theorem blockK_normal (h : J .normal s H) : blockK id J .normal s H := h
theorem blockK_ret (h : J .ret s H) : blockK id J .ret s H := h
theorem blockK_same (h : J .normal s H) : blockK id J (.exit id) s H := by simp only [blockK, if_true]; exact h
theorem blockK_other (hne : (i == id) = false) (h : J (.exit i) s H) : blockK id J (.exit i) s H := by
  have : ¬ i = id := by simpa using hne
  simp only [blockK]
  rw [if_neg this]
  exact h
theorem loopK_ret {I : Nat → St → AH → Prop} {l : List Nat} {m : Nat} (h : J .ret s H) : loopK I l m J .ret s H := h
theorem loopK_exit {I : Nat → St → AH → Prop} {l : List Nat} {m : Nat} (h : J (.exit i) s H) : loopK I l m J (.exit i) s H := h
theorem W_cond_true {t : Nat} {x y : Code} (hc : s.get t = .v (.bool true)) (h : W P n x s H J) : W P n (.cond (.tmp t) x y) s H J := W_cond hc (fun _ => h) (fun e => by cases e)
theorem W_cond_false {t : Nat} {x y : Code} (hc : s.get t = .v (.bool false)) (h : W P n y s H J) : W P n (.cond (.tmp t) x y) s H J := W_cond hc (fun e => by cases e) (fun _ => h)
theorem AH.set_none {H : AH} {b c : Nat} {o : AObj} (h : fresh (H.set b o) c) : c ≠ b ∧ fresh H c := by
  unfold fresh at h ⊢
  simp only [AH.set] at h
  by_cases e : c = b
  · rw [if_pos e] at h; cases h
  · rw [if_neg e] at h; exact ⟨e, h⟩
theorem AH.fresh_ne {H : AH} {b c : Nat} {o : AObj} (h : fresh H c) (hb : H b = some o) : c ≠ b := by
  rintro rfl
  unfold fresh at h
  rw [h] at hb; cases hb
end

end Go.Fw
