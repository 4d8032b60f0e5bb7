/- The step's short words. -/
import Derived.Test.YtcmakpkdliiigaaFt
namespace Go.Fw
set_option maxHeartbeats 8000000
set_option linter.all false
open Go
attribute [go_sem] aop fits fit gon ev St.get St.put St.keep inN gslot apick anil aint astr aeq abin aun arow acut astore splice afld afield aindex abnd aslice abox aalloc amake abuild afill afillA sizedF abuildS afillS aext acall aconv isAggD AV.cells AV.cell AV.isPtr allCell List.length_cons List.length_nil List.map_cons List.map_nil List.cons_append List.nil_append List.append_nil Nat.zero_add Nat.add_zero Nat.mul_one Nat.one_mul Nat.zero_mul ne_eq not_true_eq_false not_false_eq_true true_and and_true and_self if_true if_false List.getElem?_cons_zero List.getElem?_cons_succ List.getElem?_nil List.size_toArray List.getElem?_toArray Option.some.injEq Option.bind_some exists_eq_left' List.take_succ_cons List.take_zero List.drop_succ_cons List.drop_zero List.set_cons_zero List.set_cons_succ AH.set_same Bool.and_true Bool.true_and Bool.and_self forall_const true_implies Bool.not_true Bool.not_false Bool.false_eq_true false_implies implies_true Option.getD_some Option.getD_none forall_eq' forall_eq beq_self_eq_true bne_self_eq_false Int.toNat_natCast Int.toNat_zero AH.set_ne AH.del_same AH.del_ne Option.map_none Option.map_some Nat.sub_zero true_or or_true AH.set_set
namespace Z
variable {P : Program} {n : Nat} {all r : List Oper} {o : Oper} {s : St} {H : AH} {K : St → AH → Prop} {L : List Item} {i : Nat} {chk : List Nat}
theorem x0 : (∀ (p : Prop) [Decidable p], (decide p = true) = p) ∧ (∀ (p : Prop) [Decidable p], (decide p = false) = ¬ p) ∧ (∀ a b : Int, ((a == b) = true) = (a = b)) ∧ (∀ a b : Int, ((a == b) = false) = ¬ (a = b)) ∧
    (∀ a b : Int, ((a != b) = true) = ¬ (a = b)) ∧ (∀ a b : Int, ((a != b) = false) = (a = b)) ∧ (∀ a b : Bool, ((a == b) = true) = (a = b)) ∧ (∀ a b : Bool, ((a == b) = false) = ¬ (a = b)) ∧ (∀ a b : Bool, ((a != b) = true) = ¬ (a = b)) ∧ (∀ a b : Bool, ((a != b) = false) = (a = b)) ∧
    (∀ a b : List UInt8, ((a == b) = true) = (a = b)) ∧ (∀ a b : List UInt8, ((a == b) = false) = ¬ (a = b)) ∧
    (∀ a b : Int, (a ≥ b) = (b ≤ a)) ∧ (∀ a b : Int, (a > b) = (b < a)) ∧ (∀ a b : Int, (¬ a ≤ b) = (b < a)) ∧ (∀ a b : Int, (¬ a < b) = (b ≤ a)) ∧ (∀ b : Bool, ((!b) = true) = (b = false)) ∧ (∀ b : Bool, ((!b) = false) = (b = true)) ∧ ((!true) = false) ∧ ((!false) = true) ∧
    (∀ p : Prop, (¬ ¬ p) = p) := by
  refine ⟨?_, ?_, ?_, ?_, ?_, ?_, ?_, ?_, ?_, ?_, ?_, ?_, ?_, ?_, ?_, ?_, ?_, ?_, rfl, rfl, ?_⟩ <;> intros <;> first | exact propext (by first | simp | omega) | rfl
theorem w0 : (∀ x : Int, -9223372036854775808 ≤ x → x ≤ 9223372036854775807 → IntKind.i64.wrap x = x) ∧ (∀ (H : AH) (b x : Nat) (o : AObj), x ≠ b → (H.set b o) x = H x) ∧ (∀ (H : AH) (b x : Nat), x ≠ b → (H.del b) x = H x) :=
  ⟨fun _ h1 h2 => wrap_of h1 h2, fun H _ _ o h => AH.set_ne H o h, fun H _ _ h => AH.del_ne H h⟩
section
variable {c d : Code} {J : Exit → St → AH → Prop} {id j : Nat} {I : Nat → St → AH → Prop} {l : List Nat} {m t : Nat}
theorem a0 (h : W P n c s H (seqK P n d J)) : W P n (.seq c d) s H J := W_seq h
theorem b0 {ops : Array Oper} (h : Reg P n ops.toList ops.toList s H (fun s' H' => J .normal s' H')) : W P n (.region id ops false) s H J := W_region h
theorem c0 (h : W P n c s H J) : seqK P n c J .normal s H := h
theorem d0 (h : J .ret s H) : seqK P n c J .ret s H := h
theorem e0 (h : J (.exit j) s H) : seqK P n c J (.exit j) s H := h
theorem f0 (h : J .normal s H) : blockK id J .normal s H := h
theorem g0 (h : J .ret s H) : blockK id J .ret s H := h
theorem h0 (h : J .normal s H) : blockK id J (.exit id) s H := blockK_same h
theorem i0 (hne : (j == id) = false) (h : J (.exit j) s H) : blockK id J (.exit j) s H := blockK_other hne h
theorem j0 (h : J .ret s H) : loopK I l m J .ret s H := h
theorem k0 {q : Nat} (h : J (.exit q) s H) : loopK I l m J (.exit q) s H := h
theorem l0 {c : Code} (h : W P n c s H (blockK id J)) : W P n (.block id c) s H J := W_block h
theorem m0 (h : J .normal s H) : W P n .skip s H J := W_skip h
theorem n0 {n : Nat} (h : J .ret s H) : W P n .ret s H J := W_ret h
theorem o0 {n : Nat} (h : J (.exit id) s H) : W P n (.exit id) s H J := W_exit h
theorem p0 {n : Nat} (h : K s H) : Reg P n all [] s H K := ⟨h⟩
theorem q0 {n : Nat} {o : Oper} (hd : inB n o.dst = true) (hg : o.guard = none) (h : ∀ F : AV → AH → Prop, (∀ x H', Reg P n all r (s.put o.dst x) H' K → F x H') → aop P o.op s H F) : Reg P n all (o :: r) s H K := Reg.cons' hd hg h
theorem r0 {n : Nat} {o : Oper} {r : List Oper} {j d : Nat} {want : Bool} (hd : inB n o.dst = true) (hg : o.guard = some (j, want)) (hs : gslot all j = some d) (hc : s.get d = .v (.bool want))
    (h : ∀ F : AV → AH → Prop, (∀ x H', Reg P n all r (s.put o.dst x) H' K → F x H') → aop P o.op s H F) : Reg P n all (o :: r) s H K := Reg.guard_run' hd hg hs hc h
theorem s0 {n : Nat} {o : Oper} {r : List Oper} {s : St} {j d : Nat} {want : Bool} (hd : inB n o.dst = true) (hg : o.guard = some (j, want)) (hs : gslot all j = some d) (hc : s.get d = .v (.bool !want))
    (h : Reg P n all r (s.put o.dst .junk) H K) : Reg P n all (o :: r) s H K := Reg.guard_skip hd hg hs hc h
theorem t0 {n : Nat} {o : Oper} {r : List Oper} {s : St} {j d : Nat} {want c : Bool} (hd : inB n o.dst = true) (hg : o.guard = some (j, want)) (hs : gslot all j = some d) (hc : s.get d = .v (.bool c))
    (h1 : c = want → Reg P n all (⟨o.dst, o.op, o.type, o.pos, o.after, none⟩ :: r) s H K) (h2 : c = !want → Reg P n all r (s.put o.dst .junk) H K) : Reg P n all (o :: r) s H K := Reg.guard hd hg hs hc h1 h2
theorem A0 {n : Nat} {o : Oper} {s : St} (ho : all[i]? = some o) (hd : inB n o.dst = true) (hg : gon all o s = some true) (h : ∀ F : AV → AH → Prop, (∀ x H', RegD P n all L (s.put o.dst x) H K → F x H') → aop P o.op s H F) : RegD P n all (.a i :: L) s H K := RegD.a' ho hd hg h
theorem B0 {n : Nat} {o : Oper} {s : St} (ho : all[i]? = some o) (hd : inB n o.dst = true) (hg : gon all o s = some true) (h : ∀ F : AV → AH → Prop, (∀ x H', RegD P n all L (s.put o.dst x) H' K → F x H') → aop P o.op s H F) : RegD P n all (.e i [] :: L) s H K := RegD.e0' ho hd hg h
theorem C0 {n : Nat} {o : Oper} {s : St} (ho : all[i]? = some o) (hd : inB n o.dst = true) (hg : gon all o s = some true) (h : ∀ F : AV → AH → Prop, (∀ x H', fits P all (s.put o.dst x) H' chk → RegD P n all L (s.put o.dst x) H' K → F x H') → aop P o.op s H F) : RegD P n all (.e i chk :: L) s H K := RegD.e' ho hd hg h
theorem D0 {n : Nat} {s : St} (h : K s H) : RegD P n all [] s H K := ⟨h⟩
theorem E0 {n : Nat} {o : Oper} {s : St} (ho : all[i]? = some o) (hd : inB n o.dst = true) (hg : gon all o s = some false) (h : RegD P n all L (s.put o.dst .junk) H K) : RegD P n all (.a i :: L) s H K := RegD.a_skip ho hd hg h
theorem F0 {n : Nat} {o : Oper} {s : St} (ho : all[i]? = some o) (hd : inB n o.dst = true) (hg : gon all o s = some false) (h : RegD P n all L (s.put o.dst .junk) H K) : RegD P n all (.e i chk :: L) s H K := RegD.e_skip ho hd hg h
theorem G0 {n : Nat} {o : Oper} {s : St} {j d : Nat} {want c : Bool} (ho : all[i]? = some o) (hd : inB n o.dst = true) (hg : o.guard = some (j, want)) (hs : gslot all j = some d) (hc : s.get d = .v (.bool c))
    (h1 : c = want → RegD P n all (.a i :: L) s H K) (h2 : c = !want → RegD P n all (.a i :: L) s H K) : RegD P n all (.a i :: L) s H K := RegD.a_guard ho hd hg hs hc h1 h2
theorem M0 {n : Nat} {o : Oper} {s : St} {j d : Nat} {want c : Bool} (ho : all[i]? = some o) (hd : inB n o.dst = true) (hg : o.guard = some (j, want)) (hs : gslot all j = some d) (hc : s.get d = .v (.bool c))
    (h1 : c = want → RegD P n all (.e i chk :: L) s H K) (h2 : c = !want → RegD P n all (.e i chk :: L) s H K) : RegD P n all (.e i chk :: L) s H K := RegD.e_guard ho hd hg hs hc h1 h2
theorem T0 {n : Nat} {s : St} {t : Nat} {x y : Code} (hc : s.get t = .v (.bool true)) (h : W P n x s H J) : W P n (.cond (.tmp t) x y) s H J := W_cond_true hc h
theorem U0 {n : Nat} {s : St} {t : Nat} {x y : Code} (hc : s.get t = .v (.bool false)) (h : W P n y s H J) : W P n (.cond (.tmp t) x y) s H J := W_cond_false hc h
theorem V0 {n : Nat} {s : St} {t : Nat} {c : Bool} {x y : Code} (hc : s.get t = .v (.bool c)) (h1 : c = true → W P n x s H J) (h2 : c = false → W P n y s H J) : W P n (.cond (.tmp t) x y) s H J := W_cond hc h1 h2
theorem W0 {op : Op} {s : St} {F : AV → AH → Prop} (h : aop P op s H F) : aop P op s H F := h
theorem X0 {s : St} {l : List Nat} (h : fits P all s H l) : fits P all s H l := h
end
end Z
end Go.Fw
