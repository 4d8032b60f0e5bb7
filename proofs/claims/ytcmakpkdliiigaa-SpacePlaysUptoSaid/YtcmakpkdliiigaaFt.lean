/- Stepping through a region whose order Go leaves open. -/
import Derived.Test.YtcmakpkdliiigaaFs
namespace Go.Fw
set_option maxHeartbeats 8000000
set_option linter.all false
open Go

variable {P : Program} {n : Nat} {all : List Oper} {r : List Item} {o : Oper} {s : St} {H : AH} {K : St → AH → Prop} {i : Nat} {chk : List Nat}

def RegD (P : Program) (n : Nat) (all : List Oper) (r : List Item) (s : St) (H : AH) (K : St → AH → Prop) : Prop := Hide (aregD P n all r s H K)

theorem W_drawn {id : Nat} {ops : Array Oper} {K : Exit → St → AH → Prop} (M : List Nat) (plan : List Item) (hP : P.follows .mixedOrders = true) (hpl : planOk P n ops.toList M plan = true)
    (h : RegD P n ops.toList plan s H (fun s' H' => K .normal s' H')) : W P n (.region id ops true) s H K := W_draw M plan hP hpl h

theorem RegD.nil (h : K s H) : RegD P n all [] s H K := ⟨h⟩

theorem RegD.a (ho : all[i]? = some o) (hd : inB n o.dst = true) (hg : gon all o s = some true) (h : aop P o.op s H fun x _ => RegD P n all r (s.put o.dst x) H K) : RegD P n all (.a i :: r) s H K := by
  refine ⟨?_⟩
  simp only [aregD, ho]
  exact ⟨inN_of hd, true, hg, fun _ => h, fun e => by cases e⟩

theorem RegD.a_skip (ho : all[i]? = some o) (hd : inB n o.dst = true) (hg : gon all o s = some false) (h : RegD P n all r (s.put o.dst .junk) H K) : RegD P n all (.a i :: r) s H K := by
  refine ⟨?_⟩
  simp only [aregD, ho]
  exact ⟨inN_of hd, false, hg, (fun e => by cases e), fun _ => h⟩

theorem RegD.a_guard {j d : Nat} {want c : Bool} (ho : all[i]? = some o) (hd : inB n o.dst = true) (hg : o.guard = some (j, want)) (hs : gslot all j = some d) (hc : s.get d = .v (.bool c))
    (h1 : c = want → RegD P n all (.a i :: r) s H K) (h2 : c = !want → RegD P n all (.a i :: r) s H K) : RegD P n all (.a i :: r) s H K := by
  by_cases h : c = want
  · exact h1 h
  · exact h2 (by cases c <;> cases want <;> simp_all)

theorem RegD.e (ho : all[i]? = some o) (hd : inB n o.dst = true) (hg : gon all o s = some true) (h : aop P o.op s H fun x H' => fits P all (s.put o.dst x) H' chk ∧ RegD P n all r (s.put o.dst x) H' K) : RegD P n all (.e i chk :: r) s H K := by
  refine ⟨?_⟩
  simp only [aregD, ho]
  exact ⟨inN_of hd, true, hg, fun _ => h, fun e => by cases e⟩

theorem RegD.e_skip (ho : all[i]? = some o) (hd : inB n o.dst = true) (hg : gon all o s = some false) (h : RegD P n all r (s.put o.dst .junk) H K) : RegD P n all (.e i chk :: r) s H K := by
  refine ⟨?_⟩
  simp only [aregD, ho]
  exact ⟨inN_of hd, false, hg, (fun e => by cases e), fun _ => h⟩

theorem RegD.e_guard {j d : Nat} {want c : Bool} (ho : all[i]? = some o) (hd : inB n o.dst = true) (hg : o.guard = some (j, want)) (hs : gslot all j = some d) (hc : s.get d = .v (.bool c))
    (h1 : c = want → RegD P n all (.e i chk :: r) s H K) (h2 : c = !want → RegD P n all (.e i chk :: r) s H K) : RegD P n all (.e i chk :: r) s H K := by
  by_cases h : c = want
  · exact h1 h
  · exact h2 (by cases c <;> cases want <;> simp_all)

theorem aop_go {op : Op} {F : AV → AH → Prop} (h : aop P op s H F) : aop P op s H F := h
theorem fits_go {l : List Nat} (h : fits P all s H l) : fits P all s H l := h
theorem fits_nil {p : Prop} (h : p) : fits P all s H [] ∧ p := ⟨trivial, h⟩

section
variable {L : St → AH → Prop} {q : List Oper}
theorem Reg.cons' (hd : inB n o.dst = true) (hg : o.guard = none) (h : ∀ F : AV → AH → Prop, (∀ x H', Reg P n all q (s.put o.dst x) H' L → F x H') → aop P o.op s H F) : Reg P n all (o :: q) s H L :=
  Reg.cons hd hg (h _ fun _ _ h => h)
theorem Reg.guard_run' {j d : Nat} {want : Bool} (hd : inB n o.dst = true) (hg : o.guard = some (j, want)) (hs : gslot all j = some d) (hc : s.get d = .v (.bool want))
    (h : ∀ F : AV → AH → Prop, (∀ x H', Reg P n all q (s.put o.dst x) H' L → F x H') → aop P o.op s H F) : Reg P n all (o :: q) s H L :=
  Reg.guard_run hd hg hs hc (h _ fun _ _ h => h)
theorem RegD.a' (ho : all[i]? = some o) (hd : inB n o.dst = true) (hg : gon all o s = some true) (h : ∀ F : AV → AH → Prop, (∀ x H', RegD P n all r (s.put o.dst x) H K → F x H') → aop P o.op s H F) : RegD P n all (.a i :: r) s H K :=
  RegD.a ho hd hg (h _ fun _ _ h => h)
theorem RegD.e0' (ho : all[i]? = some o) (hd : inB n o.dst = true) (hg : gon all o s = some true) (h : ∀ F : AV → AH → Prop, (∀ x H', RegD P n all r (s.put o.dst x) H' K → F x H') → aop P o.op s H F) : RegD P n all (.e i [] :: r) s H K :=
  RegD.e ho hd hg (h _ fun _ _ h => ⟨trivial, h⟩)
theorem RegD.e' (ho : all[i]? = some o) (hd : inB n o.dst = true) (hg : gon all o s = some true) (h : ∀ F : AV → AH → Prop, (∀ x H', fits P all (s.put o.dst x) H' chk → RegD P n all r (s.put o.dst x) H' K → F x H') → aop P o.op s H F) : RegD P n all (.e i chk :: r) s H K :=
  RegD.e ho hd hg (h _ fun _ _ h1 h2 => ⟨h1, h2⟩)
end

theorem wrap_of {x : Int} (h1 : -9223372036854775808 ≤ x) (h2 : x ≤ 9223372036854775807) : IntKind.i64.wrap x = x := by
  rw [IntKind.wrap_i64]; omega

end Go.Fw
