/- A space: how it lies, and the small walks over it. -/
import Derived.Test.YtcmakpkdliiigaaSd
namespace Go.Proofs.Ytcmakpkdliiigaa
set_option maxHeartbeats 8000000
set_option linter.all false
open Go Go.Fw
attribute [local irreducible] Reg RegD seqK blockK loopK retK
set_option maxRecDepth 10000

def bv (st : List Int) : List (List AV) := st.map fun x => [.v (.int .u8 x)]
theorem bv_len (st : List Int) : (bv st).length = st.length := by simp [bv]
theorem bv_row {st : List Int} {k : Nat} (h : k < st.length) : (bv st)[k]? = some [.v (.int .u8 (st.getD k 0))] := by simp [bv, h, List.getD]
theorem bv_set (st : List Int) (i : Nat) (v : Int) : (bv st).set i [.v (.int .u8 v)] = bv (st.set i v) := by simp [bv, List.map_set]

/-- A space lies at b: its states (at b1), its heap. -/
def Lay (H : AH) (b b1 : Nat) (c1 : Option Nat) (F : List Nat) (st fr : List Int) : Prop :=
  ∃ ob y, H b = some ⟨2, [[.ov (some b1) 0 1 st.length c1, y]]⟩ ∧ H b1 = some ⟨1, bv st⟩ ∧ VecA H y ob fr ∧ b ≠ b1 ∧ ob ≠ some b ∧ ob ≠ some b1 ∧ F = b :: b1 :: ob.toList

/-- All that is not the footprint's is as it was; the new footprint is of the old one's blocks and of new ones. -/
def Keeps (H : AH) (F : List Nat) (H' : AH) (F' : List Nat) : Prop := (∀ q, q ∉ F → (H q).isSome = true → H' q = H q) ∧ (∀ q ∈ F', q ∈ F ∨ H q = none)
theorem Keeps.refl (H : AH) (F : List Nat) : Keeps H F H F := ⟨fun _ _ _ => rfl, fun _ h => .inl h⟩
theorem Keeps.trans {H H1 H2 : AH} {F F1 F2 : List Nat} (h1 : Keeps H F H1 F1) (h2 : Keeps H1 F1 H2 F2) : Keeps H F H2 F2 := by
  refine ⟨fun q hq hs => ?_, fun q hq => ?_⟩
  · have e := h1.1 q hq hs
    rw [← e]
    refine h2.1 q (fun h => ?_) (by rw [e]; exact hs)
    rcases h1.2 q h with h | h
    · exact hq h
    · rw [h] at hs; cases hs
  · rcases h2.2 q hq with h | h
    · exact h1.2 q h
    · by_cases hF : q ∈ F
      · exact .inl hF
      · right
        cases hs : H q with
        | none => rfl
        | some o => rw [h1.1 q hF (by rw [hs]; rfl), hs] at h; cases h

theorem VecA.keep {H H' : AH} {y : AV} {ob : Option Nat} {fr : List Int} (h : VecA H y ob fr) (hk : ∀ q, ob = some q → H' q = H q) : VecA H' y ob fr := by
  rcases h with ⟨h1, h2⟩ | h
  · refine .inl ⟨h1, ?_⟩
    cases ob with
    | none => exact h2
    | some q => obtain ⟨tl, h2⟩ := h2; exact ⟨tl, by rw [hk q rfl]; exact h2⟩
  · exact .inr h

theorem VecA.keep' {H H' : AH} {y : AV} {ob : Option Nat} {fr : List Int} (h : VecA H y ob fr) (hk : ∀ q o, ob = some q → H q = some o → H' q = H q) : VecA H' y ob fr := by
  rcases h with ⟨h1, h2⟩ | h
  · refine .inl ⟨h1, ?_⟩
    cases ob with
    | none => exact h2
    | some q => obtain ⟨tl, h2⟩ := h2; exact ⟨tl, by rw [hk q _ rfl h2]; exact h2⟩
  · exact .inr h

theorem Lay.states {H : AH} {b b1 : Nat} {c1 : Option Nat} {F : List Nat} {st fr : List Int} (h : Lay H b b1 c1 F st fr) (st' : List Int) (hl : st'.length = st.length) :
    Lay (H.set b1 ⟨1, bv st'⟩) b b1 c1 F st' fr ∧ Keeps H F (H.set b1 ⟨1, bv st'⟩) F := by
  obtain ⟨ob, y, h1, h2, h3, h4, h5, h6, rfl⟩ := h
  refine ⟨⟨ob, y, ?_, AH.set_same .., h3.keep fun q hq => ?_, h4, h5, h6, rfl⟩, fun q hq _ => ?_, fun q hq => .inl hq⟩
  · rw [AH.set_ne _ _ h4, h1, hl]
  · rw [AH.set_ne]; intro e; exact h6 (by rw [hq, e])
  · rw [AH.set_ne]; intro e; exact hq (by simp [e])

def usesOf (st : List Int) (n : Int) : Bool := decide (0 ≤ n ∧ n < st.length ∧ st.getD n.toNat 0 = 1)

theorem uses_ok {H : AH} {b b1 : Nat} {c1 : Option Nat} {st : List Int} {n : Int} {y : AV} {K : AV → AH → Prop} (hb : H b = some ⟨2, [[.ov (some b1) 0 1 st.length c1, y]]⟩) (h1 : H b1 = some ⟨1, bv st⟩)
    (hk : K (.v (.bool (usesOf st n))) H) : CallOK Try.prog 23 [.ptr b 2 0 0, .v (.int .i64 n)] H K := by
  refine CallOK.of_body Try.func23 nm23 rfl ?_; simp only [Try.ntmps23, List.length_cons, List.length_nil, argSt, Nat.reduceAdd, Nat.reduceSub]
  by_cases h2 : n ≥ 0
  · have d2 : decide (n ≥ 0) = true := decide_eq_true h2
    by_cases h3 : n < (st.length : Int)
    · have d3 : decide (n < (st.length : Int)) = true := decide_eq_true h3
      have hr := bv_row (st := st) (k := n.toNat) (by omega)
      repeat' (first | ((first | refine Z.W0 ?_ | refine Z.X0 ?_); simp only [go_sem, seval, alen, aidx, aload, isAggD, hb, h1, d2, d3, hr]; try (simp (disch := omega) only [Z.w0]; try simp only [go_sem, seval, alen, aidx, aload, isAggD, hb, h1, d2, d3, hr])) | (refine hF _ _ ?_; clear hF F) | (refine Z.p0 ?_; simp only [St.put]) | refine Z.a0 ?_ | refine Z.b0 ?_ | refine Z.c0 ?_ | refine Z.d0 ?_ | refine Z.e0 ?_ | refine Z.f0 ?_ | refine Z.g0 ?_ | refine Z.h0 ?_ | refine Z.i0 rfl ?_ | refine Z.j0 ?_ | refine Z.k0 ?_ | refine Z.l0 ?_ | refine Z.m0 ?_ | refine Z.n0 ?_ | refine Z.o0 ?_ | refine Z.q0 rfl rfl fun F hF => ?_ | refine Z.r0 rfl rfl rfl rfl fun F hF => ?_ | refine Z.A0 rfl rfl rfl fun F hF => ?_ | refine Z.B0 rfl rfl rfl fun F hF => ?_ | refine Z.s0 rfl rfl rfl rfl ?_ | (refine Z.D0 ?_; simp only [St.put]) | refine Z.E0 rfl rfl rfl ?_ | refine Z.F0 rfl rfl rfl ?_ | (refine hF _ _ ?_ ?_ <;> clear hF F) | refine Z.T0 rfl ?_ | refine Z.U0 rfl ?_ | (refine Z.t0 rfl rfl rfl rfl ?_ ?_ <;> (intro hg; simp only [hg, Bool.not_true, Bool.not_false]; simp only [Z.x0] at hg)) | refine And.intro (by omega) ?_ | ((first | refine Z.G0 rfl rfl rfl rfl rfl ?_ ?_ | refine Z.M0 rfl rfl rfl rfl rfl ?_ ?_) <;> (intro hg; simp only [hg, Bool.not_true, Bool.not_false]; simp only [Z.x0] at hg)) | (refine Z.V0 rfl ?_ ?_ <;> (intro hc; try simp only [hc]; simp only [Z.x0] at hc)))
      simp only [retK, ares, pack, Try.results23, St.get, reduceIte, Nat.reduceEqDiff, aload, arow, List.toArray, Array.toList]
      have hu : usesOf st n = (st.getD n.toNat 0 == 1) := by
        simp only [usesOf]
        by_cases h : st.getD n.toNat 0 = 1
        · simp only [h, h3, beq_self_eq_true, and_true, decide_eq_true_eq]; exact h2
        · rw [beq_eq_false_iff_ne.2 h, decide_eq_false fun h' => h h'.2.2]
      rw [hu] at hk; exact hk
    · have d3 : decide (n < (st.length : Int)) = false := decide_eq_false h3
      have hu : usesOf st n = false := by simp [usesOf]; omega
      repeat' (first | ((first | refine Z.W0 ?_ | refine Z.X0 ?_); simp only [go_sem, seval, alen, aidx, aload, isAggD, hb, h1, d2, d3]; try (simp (disch := omega) only [Z.w0]; try simp only [go_sem, seval, alen, aidx, aload, isAggD, hb, h1, d2, d3])) | (refine hF _ _ ?_; clear hF F) | (refine Z.p0 ?_; simp only [St.put]) | refine Z.a0 ?_ | refine Z.b0 ?_ | refine Z.c0 ?_ | refine Z.d0 ?_ | refine Z.e0 ?_ | refine Z.f0 ?_ | refine Z.g0 ?_ | refine Z.h0 ?_ | refine Z.i0 rfl ?_ | refine Z.j0 ?_ | refine Z.k0 ?_ | refine Z.l0 ?_ | refine Z.m0 ?_ | refine Z.n0 ?_ | refine Z.o0 ?_ | refine Z.q0 rfl rfl fun F hF => ?_ | refine Z.r0 rfl rfl rfl rfl fun F hF => ?_ | refine Z.A0 rfl rfl rfl fun F hF => ?_ | refine Z.B0 rfl rfl rfl fun F hF => ?_ | refine Z.s0 rfl rfl rfl rfl ?_ | (refine Z.D0 ?_; simp only [St.put]) | refine Z.E0 rfl rfl rfl ?_ | refine Z.F0 rfl rfl rfl ?_ | (refine hF _ _ ?_ ?_ <;> clear hF F) | refine Z.T0 rfl ?_ | refine Z.U0 rfl ?_ | (refine Z.t0 rfl rfl rfl rfl ?_ ?_ <;> (intro hg; simp only [hg, Bool.not_true, Bool.not_false]; simp only [Z.x0] at hg)) | refine And.intro (by omega) ?_ | ((first | refine Z.G0 rfl rfl rfl rfl rfl ?_ ?_ | refine Z.M0 rfl rfl rfl rfl rfl ?_ ?_) <;> (intro hg; simp only [hg, Bool.not_true, Bool.not_false]; simp only [Z.x0] at hg)) | (refine Z.V0 rfl ?_ ?_ <;> (intro hc; try simp only [hc]; simp only [Z.x0] at hc)))
      simp only [retK, ares, pack, Try.results23, St.get, reduceIte, Nat.reduceEqDiff, aload, arow, List.toArray, Array.toList]
      rw [hu] at hk; exact hk
  · have d2 : decide (n ≥ 0) = false := decide_eq_false h2
    have hu : usesOf st n = false := by simp [usesOf]; omega
    repeat' (first | ((first | refine Z.W0 ?_ | refine Z.X0 ?_); simp only [go_sem, seval, alen, aidx, aload, isAggD, hb, h1, d2]; try (simp (disch := omega) only [Z.w0]; try simp only [go_sem, seval, alen, aidx, aload, isAggD, hb, h1, d2])) | (refine hF _ _ ?_; clear hF F) | (refine Z.p0 ?_; simp only [St.put]) | refine Z.a0 ?_ | refine Z.b0 ?_ | refine Z.c0 ?_ | refine Z.d0 ?_ | refine Z.e0 ?_ | refine Z.f0 ?_ | refine Z.g0 ?_ | refine Z.h0 ?_ | refine Z.i0 rfl ?_ | refine Z.j0 ?_ | refine Z.k0 ?_ | refine Z.l0 ?_ | refine Z.m0 ?_ | refine Z.n0 ?_ | refine Z.o0 ?_ | refine Z.q0 rfl rfl fun F hF => ?_ | refine Z.r0 rfl rfl rfl rfl fun F hF => ?_ | refine Z.A0 rfl rfl rfl fun F hF => ?_ | refine Z.B0 rfl rfl rfl fun F hF => ?_ | refine Z.s0 rfl rfl rfl rfl ?_ | (refine Z.D0 ?_; simp only [St.put]) | refine Z.E0 rfl rfl rfl ?_ | refine Z.F0 rfl rfl rfl ?_ | (refine hF _ _ ?_ ?_ <;> clear hF F) | refine Z.T0 rfl ?_ | refine Z.U0 rfl ?_ | (refine Z.t0 rfl rfl rfl rfl ?_ ?_ <;> (intro hg; simp only [hg, Bool.not_true, Bool.not_false]; simp only [Z.x0] at hg)) | refine And.intro (by omega) ?_ | ((first | refine Z.G0 rfl rfl rfl rfl rfl ?_ ?_ | refine Z.M0 rfl rfl rfl rfl rfl ?_ ?_) <;> (intro hg; simp only [hg, Bool.not_true, Bool.not_false]; simp only [Z.x0] at hg)) | (refine Z.V0 rfl ?_ ?_ <;> (intro hc; try simp only [hc]; simp only [Z.x0] at hc)))
    simp only [retK, ares, pack, Try.results23, St.get, reduceIte, Nat.reduceEqDiff, aload, arow, List.toArray, Array.toList]
    rw [hu] at hk; exact hk

theorem free_ok {H : AH} {b b1 : Nat} {c1 : Option Nat} {F : List Nat} {st fr : List Int} {K : AV → AH → Prop} (h : Lay H b b1 c1 F st fr) (hk : K (.v (.int .i64 fr.length)) H) : CallOK Try.prog 10 [.ptr b 2 0 0] H K := by
  obtain ⟨ob, y, h1, h2, h3, h4, h5, h6, rfl⟩ := h
  refine CallOK.of_body Try.func10 nm10 rfl ?_; simp only [Try.ntmps10, List.length_cons, List.length_nil, argSt, Nat.reduceAdd, Nat.reduceSub]
  rcases h3 with ⟨rfl, h3⟩ | ⟨rfl, rfl, rfl⟩
  · repeat' (first | ((first | refine Z.W0 ?_ | refine Z.X0 ?_); simp only [go_sem, seval, alen, aidx, aload, isAggD, h1]; try (simp (disch := omega) only [Z.w0]; try simp only [go_sem, seval, alen, aidx, aload, isAggD, h1])) | (refine hF _ _ ?_; clear hF F) | (refine Z.p0 ?_; simp only [St.put]) | refine Z.a0 ?_ | refine Z.b0 ?_ | refine Z.c0 ?_ | refine Z.d0 ?_ | refine Z.e0 ?_ | refine Z.f0 ?_ | refine Z.g0 ?_ | refine Z.h0 ?_ | refine Z.i0 rfl ?_ | refine Z.j0 ?_ | refine Z.k0 ?_ | refine Z.l0 ?_ | refine Z.m0 ?_ | refine Z.n0 ?_ | refine Z.o0 ?_ | refine Z.q0 rfl rfl fun F hF => ?_ | refine Z.r0 rfl rfl rfl rfl fun F hF => ?_ | refine Z.A0 rfl rfl rfl fun F hF => ?_ | refine Z.B0 rfl rfl rfl fun F hF => ?_ | refine Z.s0 rfl rfl rfl rfl ?_ | (refine Z.D0 ?_; simp only [St.put]) | refine Z.E0 rfl rfl rfl ?_ | refine Z.F0 rfl rfl rfl ?_ | (refine hF _ _ ?_ ?_ <;> clear hF F) | refine Z.T0 rfl ?_ | refine Z.U0 rfl ?_ | (refine Z.t0 rfl rfl rfl rfl ?_ ?_ <;> (intro hg; simp only [hg, Bool.not_true, Bool.not_false]; simp only [Z.x0] at hg)) | refine And.intro (by omega) ?_ | ((first | refine Z.G0 rfl rfl rfl rfl rfl ?_ ?_ | refine Z.M0 rfl rfl rfl rfl rfl ?_ ?_) <;> (intro hg; simp only [hg, Bool.not_true, Bool.not_false]; simp only [Z.x0] at hg)) | (refine Z.V0 rfl ?_ ?_ <;> (intro hc; try simp only [hc]; simp only [Z.x0] at hc)))
    simp only [retK, ares, pack, Try.results10, St.get, reduceIte, Nat.reduceEqDiff, aload, arow, List.toArray, Array.toList]
    exact hk
  · repeat' (first | ((first | refine Z.W0 ?_ | refine Z.X0 ?_); simp only [go_sem, seval, alen, aidx, aload, isAggD, h1]; try (simp (disch := omega) only [Z.w0]; try simp only [go_sem, seval, alen, aidx, aload, isAggD, h1])) | (refine hF _ _ ?_; clear hF F) | (refine Z.p0 ?_; simp only [St.put]) | refine Z.a0 ?_ | refine Z.b0 ?_ | refine Z.c0 ?_ | refine Z.d0 ?_ | refine Z.e0 ?_ | refine Z.f0 ?_ | refine Z.g0 ?_ | refine Z.h0 ?_ | refine Z.i0 rfl ?_ | refine Z.j0 ?_ | refine Z.k0 ?_ | refine Z.l0 ?_ | refine Z.m0 ?_ | refine Z.n0 ?_ | refine Z.o0 ?_ | refine Z.q0 rfl rfl fun F hF => ?_ | refine Z.r0 rfl rfl rfl rfl fun F hF => ?_ | refine Z.A0 rfl rfl rfl fun F hF => ?_ | refine Z.B0 rfl rfl rfl fun F hF => ?_ | refine Z.s0 rfl rfl rfl rfl ?_ | (refine Z.D0 ?_; simp only [St.put]) | refine Z.E0 rfl rfl rfl ?_ | refine Z.F0 rfl rfl rfl ?_ | (refine hF _ _ ?_ ?_ <;> clear hF F) | refine Z.T0 rfl ?_ | refine Z.U0 rfl ?_ | (refine Z.t0 rfl rfl rfl rfl ?_ ?_ <;> (intro hg; simp only [hg, Bool.not_true, Bool.not_false]; simp only [Z.x0] at hg)) | refine And.intro (by omega) ?_ | ((first | refine Z.G0 rfl rfl rfl rfl rfl ?_ ?_ | refine Z.M0 rfl rfl rfl rfl rfl ?_ ?_) <;> (intro hg; simp only [hg, Bool.not_true, Bool.not_false]; simp only [Z.x0] at hg)) | (refine Z.V0 rfl ?_ ?_ <;> (intro hc; try simp only [hc]; simp only [Z.x0] at hc)))
    simp only [retK, ares, pack, Try.results10, St.get, reduceIte, Nat.reduceEqDiff, aload, arow, List.toArray, Array.toList]
    exact hk

theorem drop_ok {H : AH} {b b1 : Nat} {c1 : Option Nat} {F : List Nat} {st fr : List Int} {n : Int} {K : AV → AH → Prop} (h : Lay H b b1 c1 F st fr)
    (h1 : usesOf st n = true → ∀ H', Lay H' b b1 c1 F (st.set n.toNat 2) fr → Keeps H F H' F → K (.v (.int .i64 0)) H') (h2 : usesOf st n = false → K (.v (.int .i64 1)) H) :
    CallOK Try.prog 13 [.ptr b 2 0 0, .v (.int .i64 n)] H K := by
  have hh := h
  obtain ⟨ob, y, hb, hb1, h3, h4, h5, h6, rfl⟩ := hh
  refine CallOK.of_body Try.func13 nm13 rfl ?_; simp only [Try.ntmps13, List.length_cons, List.length_nil, argSt, Nat.reduceAdd, Nat.reduceSub]
  repeat' (first | ((first | refine Z.W0 ?_ | refine Z.X0 ?_); simp only [go_sem, seval, alen, aidx, aload, isAggD, hb, hb1]; try (simp (disch := omega) only [Z.w0]; try simp only [go_sem, seval, alen, aidx, aload, isAggD, hb, hb1])) | (refine hF _ _ ?_; clear hF F) | (refine Z.p0 ?_; simp only [St.put]) | refine Z.a0 ?_ | refine Z.b0 ?_ | refine Z.c0 ?_ | refine Z.d0 ?_ | refine Z.e0 ?_ | refine Z.f0 ?_ | refine Z.g0 ?_ | refine Z.h0 ?_ | refine Z.i0 rfl ?_ | refine Z.j0 ?_ | refine Z.k0 ?_ | refine Z.l0 ?_ | refine Z.m0 ?_ | refine Z.n0 ?_ | refine Z.o0 ?_ | refine Z.q0 rfl rfl fun F hF => ?_ | refine Z.r0 rfl rfl rfl rfl fun F hF => ?_ | refine Z.A0 rfl rfl rfl fun F hF => ?_ | refine Z.B0 rfl rfl rfl fun F hF => ?_ | refine Z.s0 rfl rfl rfl rfl ?_ | (refine Z.D0 ?_; simp only [St.put]) | refine Z.E0 rfl rfl rfl ?_ | refine Z.F0 rfl rfl rfl ?_ | (refine hF _ _ ?_ ?_ <;> clear hF F) | refine Z.T0 rfl ?_ | refine Z.U0 rfl ?_ | (refine Z.t0 rfl rfl rfl rfl ?_ ?_ <;> (intro hg; simp only [hg, Bool.not_true, Bool.not_false]; simp only [Z.x0] at hg)) | refine And.intro (by omega) ?_ | ((first | refine Z.G0 rfl rfl rfl rfl rfl ?_ ?_ | refine Z.M0 rfl rfl rfl rfl rfl ?_ ?_) <;> (intro hg; simp only [hg, Bool.not_true, Bool.not_false]; simp only [Z.x0] at hg)) | (refine Z.V0 rfl ?_ ?_ <;> (intro hc; try simp only [hc]; simp only [Z.x0] at hc)))
  refine uses_ok hb hb1 ?_
  refine hF _ _ ?_
  clear hF F
  cases hu : usesOf st n
  · repeat' (first | ((first | refine Z.W0 ?_ | refine Z.X0 ?_); simp only [go_sem, seval, alen, aidx, aload, isAggD, hb, hb1]; try (simp (disch := omega) only [Z.w0]; try simp only [go_sem, seval, alen, aidx, aload, isAggD, hb, hb1])) | (refine hF _ _ ?_; clear hF F) | (refine Z.p0 ?_; simp only [St.put]) | refine Z.a0 ?_ | refine Z.b0 ?_ | refine Z.c0 ?_ | refine Z.d0 ?_ | refine Z.e0 ?_ | refine Z.f0 ?_ | refine Z.g0 ?_ | refine Z.h0 ?_ | refine Z.i0 rfl ?_ | refine Z.j0 ?_ | refine Z.k0 ?_ | refine Z.l0 ?_ | refine Z.m0 ?_ | refine Z.n0 ?_ | refine Z.o0 ?_ | refine Z.q0 rfl rfl fun F hF => ?_ | refine Z.r0 rfl rfl rfl rfl fun F hF => ?_ | refine Z.A0 rfl rfl rfl fun F hF => ?_ | refine Z.B0 rfl rfl rfl fun F hF => ?_ | refine Z.s0 rfl rfl rfl rfl ?_ | (refine Z.D0 ?_; simp only [St.put]) | refine Z.E0 rfl rfl rfl ?_ | refine Z.F0 rfl rfl rfl ?_ | (refine hF _ _ ?_ ?_ <;> clear hF F) | refine Z.T0 rfl ?_ | refine Z.U0 rfl ?_ | (refine Z.t0 rfl rfl rfl rfl ?_ ?_ <;> (intro hg; simp only [hg, Bool.not_true, Bool.not_false]; simp only [Z.x0] at hg)) | refine And.intro (by omega) ?_ | ((first | refine Z.G0 rfl rfl rfl rfl rfl ?_ ?_ | refine Z.M0 rfl rfl rfl rfl rfl ?_ ?_) <;> (intro hg; simp only [hg, Bool.not_true, Bool.not_false]; simp only [Z.x0] at hg)) | (refine Z.V0 rfl ?_ ?_ <;> (intro hc; try simp only [hc]; simp only [Z.x0] at hc)))
    simp only [retK, ares, pack, Try.results13, St.get, reduceIte, Nat.reduceEqDiff, aload, arow, List.toArray, Array.toList]
    exact h2 hu
  · have hn : 0 ≤ n ∧ n < st.length ∧ st.getD n.toNat 0 = 1 := of_decide_eq_true hu
    have hr := bv_row (st := st) (k := n.toNat) (by omega)
    have hn1 := hn.1
    have hn2 := hn.2.1
    repeat' (first | ((first | refine Z.W0 ?_ | refine Z.X0 ?_); simp only [go_sem, seval, alen, aidx, aload, isAggD, hb, hb1, hn1, hn2, hr, bv_set]; try (simp (disch := omega) only [Z.w0]; try simp only [go_sem, seval, alen, aidx, aload, isAggD, hb, hb1, hn1, hn2, hr, bv_set])) | (refine hF _ _ ?_; clear hF F) | (refine Z.p0 ?_; simp only [St.put]) | refine Z.a0 ?_ | refine Z.b0 ?_ | refine Z.c0 ?_ | refine Z.d0 ?_ | refine Z.e0 ?_ | refine Z.f0 ?_ | refine Z.g0 ?_ | refine Z.h0 ?_ | refine Z.i0 rfl ?_ | refine Z.j0 ?_ | refine Z.k0 ?_ | refine Z.l0 ?_ | refine Z.m0 ?_ | refine Z.n0 ?_ | refine Z.o0 ?_ | refine Z.q0 rfl rfl fun F hF => ?_ | refine Z.r0 rfl rfl rfl rfl fun F hF => ?_ | refine Z.A0 rfl rfl rfl fun F hF => ?_ | refine Z.B0 rfl rfl rfl fun F hF => ?_ | refine Z.s0 rfl rfl rfl rfl ?_ | (refine Z.D0 ?_; simp only [St.put]) | refine Z.E0 rfl rfl rfl ?_ | refine Z.F0 rfl rfl rfl ?_ | (refine hF _ _ ?_ ?_ <;> clear hF F) | refine Z.T0 rfl ?_ | refine Z.U0 rfl ?_ | (refine Z.t0 rfl rfl rfl rfl ?_ ?_ <;> (intro hg; simp only [hg, Bool.not_true, Bool.not_false]; simp only [Z.x0] at hg)) | refine And.intro (by omega) ?_ | ((first | refine Z.G0 rfl rfl rfl rfl rfl ?_ ?_ | refine Z.M0 rfl rfl rfl rfl rfl ?_ ?_) <;> (intro hg; simp only [hg, Bool.not_true, Bool.not_false]; simp only [Z.x0] at hg)) | (refine Z.V0 rfl ?_ ?_ <;> (intro hc; try simp only [hc]; simp only [Z.x0] at hc)))
    simp only [retK, ares, pack, Try.results13, St.get, reduceIte, Nat.reduceEqDiff, aload, arow, List.toArray, Array.toList]
    obtain ⟨k1, k2⟩ := h.states (st.set n.toNat 2) (by simp)
    exact h1 hu _ k1 k2

theorem swp_app {a t : List Int} {i j : Nat} (hi : i < a.length) (hj : j < a.length) : swp (a ++ t) i j = swp a i j ++ t := by
  unfold swp
  have e1 : (a ++ t).getD j 0 = a.getD j 0 := by simp [List.getD, List.getElem?_append_left hj]
  have e2 : (a ++ t).getD i 0 = a.getD i 0 := by simp [List.getD, List.getElem?_append_left hi]
  rw [e1, e2, List.set_append_left _ _ hi, List.set_append_left _ _ (by simp; exact hj)]
theorem kid_app {n i : Nat} {a t : List Int} (hn : n ≤ a.length) (h : 2 * i + 1 < n) : kid n i (a ++ t) = kid n i a ∧ kid n i a < n ∧ i < n := by
  have e1 : (a ++ t).getD (2 * i + 1) 0 = a.getD (2 * i + 1) 0 := by simp [List.getD, List.getElem?_append_left (show 2 * i + 1 < a.length by omega)]
  refine ⟨?_, ?_, by omega⟩
  · unfold kid
    by_cases h2 : 2 * i + 2 < n
    · have e2 : (a ++ t).getD (2 * i + 2) 0 = a.getD (2 * i + 2) 0 := by simp [List.getD, List.getElem?_append_left (show 2 * i + 2 < a.length by omega)]
      rw [e1, e2]
    · rw [if_neg (fun h => h2 h.1), if_neg (fun h => h2 h.1)]
  · unfold kid; split <;> omega
theorem down_app {n f i : Nat} {a t : List Int} (hn : n ≤ a.length) : down n f i (a ++ t) = down n f i a ++ t := by
  induction f generalizing i a with
  | zero => rfl
  | succ f ih =>
    by_cases h : 2 * i + 1 < n
    · obtain ⟨k1, k2, k3⟩ := kid_app (t := t) hn h
      have e1 : (a ++ t).getD i 0 = a.getD i 0 := by simp [List.getD, List.getElem?_append_left (show i < a.length by omega)]
      have e2 : (a ++ t).getD (kid n i a) 0 = a.getD (kid n i a) 0 := by simp [List.getD, List.getElem?_append_left (show kid n i a < a.length by omega)]
      by_cases h2 : a.getD i 0 ≤ a.getD (kid n i a) 0
      · rw [down_stop (by rw [k1, e1, e2]; exact h2), down_stop h2]
      · rw [down_go h (by rw [k1, e1, e2]; exact h2), down_go h h2, k1, swp_app (by omega) (by omega), ih (by rw [swp_len]; exact hn)]
    · rw [down_end h, down_end h]
theorem down_len {n f i : Nat} {a : List Int} : (down n f i a).length = a.length := by
  induction f generalizing i a with
  | zero => rfl
  | succ f ih =>
    simp only [down]
    split
    · split
      · rfl
      · rw [ih, swp_len]
    · rfl

/-- What is left of the heap behind a take. -/
def pop (fr : List Int) : List Int := (down (fr.length - 1) (fr.length - 1) 0 (fr.set 0 (fr.getD (fr.length - 1) 0))).take (fr.length - 1)
theorem pop_len (fr : List Int) : (pop fr).length = fr.length - 1 := by simp [pop, down_len]

theorem take_ok {H : AH} {b b1 : Nat} {c1 : Option Nat} {F : List Nat} {st fr : List Int} {K : AV → AH → Prop} (h : Lay H b b1 c1 F st fr) (hbig : fr.length ≤ 100000000)
    (hr : fr ≠ [] → 0 ≤ fr.getD 0 0 ∧ fr.getD 0 0 < st.length)
    (h1 : fr ≠ [] → ∀ H', Lay H' b b1 c1 F (st.set (fr.getD 0 0).toNat 1) (pop fr) → Keeps H F H' F → K (.tup [.v (.int .i64 (fr.getD 0 0)), .v (.int .i64 0)]) H')
    (h2 : fr = [] → K (.tup [.v (.int .i64 0), .v (.int .i64 4)]) H) :
    CallOK Try.prog 11 [.ptr b 2 0 0] H K := by
  have hh := h
  obtain ⟨ob, y, hb, hb1, h3, h4, h5, h6, rfl⟩ := hh
  refine CallOK.of_body Try.func11 nm11 rfl ?_; simp only [Try.ntmps11, List.length_cons, List.length_nil, argSt, Nat.reduceAdd, Nat.reduceSub]
  by_cases hz : fr = []
  · subst hz
    rcases h3 with ⟨rfl, h3⟩ | ⟨rfl, rfl, _⟩
    · repeat' (first | ((first | refine Z.W0 ?_ | refine Z.X0 ?_); simp only [go_sem, seval, alen, aidx, aload, isAggD, hb, hb1]; try (simp (disch := omega) only [Z.w0]; try simp only [go_sem, seval, alen, aidx, aload, isAggD, hb, hb1])) | (refine hF _ _ ?_; clear hF F) | (refine Z.p0 ?_; simp only [St.put]) | refine Z.a0 ?_ | refine Z.b0 ?_ | refine Z.c0 ?_ | refine Z.d0 ?_ | refine Z.e0 ?_ | refine Z.f0 ?_ | refine Z.g0 ?_ | refine Z.h0 ?_ | refine Z.i0 rfl ?_ | refine Z.j0 ?_ | refine Z.k0 ?_ | refine Z.l0 ?_ | refine Z.m0 ?_ | refine Z.n0 ?_ | refine Z.o0 ?_ | refine Z.q0 rfl rfl fun F hF => ?_ | refine Z.r0 rfl rfl rfl rfl fun F hF => ?_ | refine Z.A0 rfl rfl rfl fun F hF => ?_ | refine Z.B0 rfl rfl rfl fun F hF => ?_ | refine Z.s0 rfl rfl rfl rfl ?_ | (refine Z.D0 ?_; simp only [St.put]) | refine Z.E0 rfl rfl rfl ?_ | refine Z.F0 rfl rfl rfl ?_ | (refine hF _ _ ?_ ?_ <;> clear hF F) | refine Z.T0 rfl ?_ | refine Z.U0 rfl ?_ | (refine Z.t0 rfl rfl rfl rfl ?_ ?_ <;> (intro hg; simp only [hg, Bool.not_true, Bool.not_false]; simp only [Z.x0] at hg)) | refine And.intro (by omega) ?_ | ((first | refine Z.G0 rfl rfl rfl rfl rfl ?_ ?_ | refine Z.M0 rfl rfl rfl rfl rfl ?_ ?_) <;> (intro hg; simp only [hg, Bool.not_true, Bool.not_false]; simp only [Z.x0] at hg)) | (refine Z.V0 rfl ?_ ?_ <;> (intro hc; try simp only [hc]; simp only [Z.x0] at hc)))
      simp only [retK, ares, pack, Try.results11, St.get, reduceIte, Nat.reduceEqDiff, aload, arow, List.toArray, Array.toList]
      exact h2 rfl
    · repeat' (first | ((first | refine Z.W0 ?_ | refine Z.X0 ?_); simp only [go_sem, seval, alen, aidx, aload, isAggD, hb, hb1]; try (simp (disch := omega) only [Z.w0]; try simp only [go_sem, seval, alen, aidx, aload, isAggD, hb, hb1])) | (refine hF _ _ ?_; clear hF F) | (refine Z.p0 ?_; simp only [St.put]) | refine Z.a0 ?_ | refine Z.b0 ?_ | refine Z.c0 ?_ | refine Z.d0 ?_ | refine Z.e0 ?_ | refine Z.f0 ?_ | refine Z.g0 ?_ | refine Z.h0 ?_ | refine Z.i0 rfl ?_ | refine Z.j0 ?_ | refine Z.k0 ?_ | refine Z.l0 ?_ | refine Z.m0 ?_ | refine Z.n0 ?_ | refine Z.o0 ?_ | refine Z.q0 rfl rfl fun F hF => ?_ | refine Z.r0 rfl rfl rfl rfl fun F hF => ?_ | refine Z.A0 rfl rfl rfl fun F hF => ?_ | refine Z.B0 rfl rfl rfl fun F hF => ?_ | refine Z.s0 rfl rfl rfl rfl ?_ | (refine Z.D0 ?_; simp only [St.put]) | refine Z.E0 rfl rfl rfl ?_ | refine Z.F0 rfl rfl rfl ?_ | (refine hF _ _ ?_ ?_ <;> clear hF F) | refine Z.T0 rfl ?_ | refine Z.U0 rfl ?_ | (refine Z.t0 rfl rfl rfl rfl ?_ ?_ <;> (intro hg; simp only [hg, Bool.not_true, Bool.not_false]; simp only [Z.x0] at hg)) | refine And.intro (by omega) ?_ | ((first | refine Z.G0 rfl rfl rfl rfl rfl ?_ ?_ | refine Z.M0 rfl rfl rfl rfl rfl ?_ ?_) <;> (intro hg; simp only [hg, Bool.not_true, Bool.not_false]; simp only [Z.x0] at hg)) | (refine Z.V0 rfl ?_ ?_ <;> (intro hc; try simp only [hc]; simp only [Z.x0] at hc)))
      simp only [retK, ares, pack, Try.results11, St.get, reduceIte, Nat.reduceEqDiff, aload, arow, List.toArray, Array.toList]
      exact h2 rfl
  · rcases h3 with ⟨rfl, h3⟩ | ⟨_, _, h3⟩
    · have hp : fr.length ≠ 0 := fun e => hz (List.length_eq_zero_iff.1 e)
      have hpe : (((fr.length : Nat) : Int) == 0) = false := by simp; exact hz
      cases ob with
      | none => exact absurd h3 hz
      | some b2 =>
        obtain ⟨tl, h3⟩ := h3
        have hn : b ≠ b2 := fun e => h5 (by rw [e])
        have hn1 : b1 ≠ b2 := fun e => h6 (by rw [e])
        repeat' (first | ((first | refine Z.W0 ?_ | refine Z.X0 ?_); simp only [go_sem, seval, alen, aidx, aload, isAggD, hb, hb1, hpe]; try (simp (disch := omega) only [Z.w0]; try simp only [go_sem, seval, alen, aidx, aload, isAggD, hb, hb1, hpe])) | (refine hF _ _ ?_; clear hF F) | (refine Z.p0 ?_; simp only [St.put]) | refine Z.a0 ?_ | refine Z.b0 ?_ | refine Z.c0 ?_ | refine Z.d0 ?_ | refine Z.e0 ?_ | refine Z.f0 ?_ | refine Z.g0 ?_ | refine Z.h0 ?_ | refine Z.i0 rfl ?_ | refine Z.j0 ?_ | refine Z.k0 ?_ | refine Z.l0 ?_ | refine Z.m0 ?_ | refine Z.n0 ?_ | refine Z.o0 ?_ | refine Z.q0 rfl rfl fun F hF => ?_ | refine Z.r0 rfl rfl rfl rfl fun F hF => ?_ | refine Z.A0 rfl rfl rfl fun F hF => ?_ | refine Z.B0 rfl rfl rfl fun F hF => ?_ | refine Z.s0 rfl rfl rfl rfl ?_ | (refine Z.D0 ?_; simp only [St.put]) | refine Z.E0 rfl rfl rfl ?_ | refine Z.F0 rfl rfl rfl ?_ | (refine hF _ _ ?_ ?_ <;> clear hF F) | refine Z.T0 rfl ?_ | refine Z.U0 rfl ?_ | (refine Z.t0 rfl rfl rfl rfl ?_ ?_ <;> (intro hg; simp only [hg, Bool.not_true, Bool.not_false]; simp only [Z.x0] at hg)) | refine And.intro (by omega) ?_ | ((first | refine Z.G0 rfl rfl rfl rfl rfl ?_ ?_ | refine Z.M0 rfl rfl rfl rfl rfl ?_ ?_) <;> (intro hg; simp only [hg, Bool.not_true, Bool.not_false]; simp only [Z.x0] at hg)) | (refine Z.V0 rfl ?_ ?_ <;> (intro hc; try simp only [hc]; simp only [Z.x0] at hc)))
        refine least_ok (xs := fr ++ tl) hb h3 hn (by omega) (by simp) (by omega) ?_
        · refine hF _ _ ?_
          clear hF F
          have e0 : (fr ++ tl).getD 0 0 = fr.getD 0 0 := by simp [List.getD, List.getElem?_append_left (show 0 < fr.length by omega)]
          have e1 : (fr ++ tl).getD (fr.length - 1) 0 = fr.getD (fr.length - 1) 0 := by simp [List.getD, List.getElem?_append_left (show fr.length - 1 < fr.length by omega)]
          rw [e0, e1, List.set_append_left _ _ (by omega), down_app (by simp)]
          obtain ⟨k0, k1⟩ := hr hz
          have hrow := bv_row (st := st) (k := (fr.getD 0 0).toNat) (by omega)
          have hk1 := h1 hz
          clear h1 hr h2 e0 e1
          generalize hq : fr.getD 0 0 = q at *
          generalize hd : down (fr.length - 1) (fr.length - 1) 0 (fr.set 0 (fr.getD (fr.length - 1) 0)) = d at *
          repeat' (first | ((first | refine Z.W0 ?_ | refine Z.X0 ?_); simp only [go_sem, seval, alen, aidx, aload, isAggD, hb, hb1, hn, hn.symm, hn1, hn1.symm, h4, h4.symm, AH.set_ne, k0, k1, hrow, bv_set]; try (simp (disch := omega) only [Z.w0]; try simp only [go_sem, seval, alen, aidx, aload, isAggD, hb, hb1, hn, hn.symm, hn1, hn1.symm, h4, h4.symm, AH.set_ne, k0, k1, hrow, bv_set])) | (refine hF _ _ ?_; clear hF F) | (refine Z.p0 ?_; simp only [St.put]) | refine Z.a0 ?_ | refine Z.b0 ?_ | refine Z.c0 ?_ | refine Z.d0 ?_ | refine Z.e0 ?_ | refine Z.f0 ?_ | refine Z.g0 ?_ | refine Z.h0 ?_ | refine Z.i0 rfl ?_ | refine Z.j0 ?_ | refine Z.k0 ?_ | refine Z.l0 ?_ | refine Z.m0 ?_ | refine Z.n0 ?_ | refine Z.o0 ?_ | refine Z.q0 rfl rfl fun F hF => ?_ | refine Z.r0 rfl rfl rfl rfl fun F hF => ?_ | refine Z.A0 rfl rfl rfl fun F hF => ?_ | refine Z.B0 rfl rfl rfl fun F hF => ?_ | refine Z.s0 rfl rfl rfl rfl ?_ | (refine Z.D0 ?_; simp only [St.put]) | refine Z.E0 rfl rfl rfl ?_ | refine Z.F0 rfl rfl rfl ?_ | (refine hF _ _ ?_ ?_ <;> clear hF F) | refine Z.T0 rfl ?_ | refine Z.U0 rfl ?_ | (refine Z.t0 rfl rfl rfl rfl ?_ ?_ <;> (intro hg; simp only [hg, Bool.not_true, Bool.not_false]; simp only [Z.x0] at hg)) | refine And.intro (by omega) ?_ | ((first | refine Z.G0 rfl rfl rfl rfl rfl ?_ ?_ | refine Z.M0 rfl rfl rfl rfl rfl ?_ ?_) <;> (intro hg; simp only [hg, Bool.not_true, Bool.not_false]; simp only [Z.x0] at hg)) | (refine Z.V0 rfl ?_ ?_ <;> (intro hc; try simp only [hc]; simp only [Z.x0] at hc)))
          simp only [retK, ares, pack, Try.results11, St.get, reduceIte, Nat.reduceEqDiff, aload, arow, List.toArray, Array.toList]
          refine hk1 _ ⟨some b2, _, ?_, AH.set_same .., .inl ⟨rfl, d.drop (fr.length - 1) ++ tl, ?_⟩, h4, h5, h6, rfl⟩ ⟨fun x hx _ => ?_, fun x hx => .inl hx⟩
          · rw [AH.set_ne _ _ h4, AH.set_same]; simp only [List.length_set, pop_len]
          · rw [AH.set_ne _ _ hn1.symm, AH.set_ne _ _ hn.symm, AH.set_same]
            simp only [pop, hd]
            rw [← List.append_assoc, List.take_append_drop]
          · simp only [List.mem_cons, Option.toList, List.not_mem_nil, or_false, not_or] at hx
            rw [AH.set_ne _ _ hx.2.1, AH.set_ne _ _ hx.1, AH.set_ne _ _ hx.2.2]
    · exact absurd h3 hz

/-- The heap with one more. -/
def push (fr : List Int) (n : Int) : List Int := up fr.length fr.length (fr ++ [n])
theorem up_len {f i : Nat} {l : List Int} : (up f i l).length = l.length := by
  induction f generalizing i l with
  | zero => rfl
  | succ f ih =>
    simp only [up]
    split
    · rw [ih, swp_len]
    · rfl

theorem Lay.grown {H : AH} {b b1 : Nat} {c1 : Option Nat} {st fr fr' : List Int} {ob : Option Nat} {y : AV} {b' : Nat} (hb : H b = some ⟨2, [[.ov (some b1) 0 1 st.length c1, y]]⟩) (hb1 : H b1 = some ⟨1, bv st⟩)
    (h4 : b ≠ b1) (h5 : ob ≠ some b) (h6 : ob ≠ some b1) (hf : fresh (delO H ob) b') (hl : fr'.length = fr.length + 1) :
    Lay (((delO H ob).set b' ⟨1, iv (fr')⟩).set b ⟨2, [[.ov (some b1) 0 1 st.length c1, .ov (some b') 0 1 (fr.length + 1) none]]⟩) b b1 c1 (b :: b1 :: [b']) st (fr') ∧
    Keeps H (b :: b1 :: ob.toList) (((delO H ob).set b' ⟨1, iv (fr')⟩).set b ⟨2, [[.ov (some b1) 0 1 st.length c1, .ov (some b') 0 1 (fr.length + 1) none]]⟩) (b :: b1 :: [b']) := by
  have hd : ∀ q, ob ≠ some q → delO H ob q = H q := by
    intro q hq
    cases ob with
    | none => rfl
    | some q' => simp only [delO]; rw [AH.del_ne]; intro e; exact hq (by rw [e])
  have hn : b' ≠ b := by intro e; rw [e] at hf; have := hd b h5; rw [hf, hb] at this; cases this
  have hn1 : b' ≠ b1 := by intro e; rw [e] at hf; have := hd b1 h6; rw [hf, hb1] at this; cases this
  refine ⟨⟨some b', _, by rw [AH.set_same], ?_, .inl ⟨?_, [], ?_⟩, h4, ?_, ?_, rfl⟩, fun q hq hs => ?_, fun q hq => ?_⟩
  · rw [AH.set_ne _ _ h4.symm, AH.set_ne _ _ hn1.symm, hd b1 h6, hb1]
  · simp only [hl]
  · rw [AH.set_ne _ _ hn, AH.set_same, List.append_nil]
  · simp [hn]
  · simp [hn1]
  · simp only [List.mem_cons, not_or, Option.mem_toList] at hq
    rw [AH.set_ne _ _ hq.1]
    have e := hd q hq.2.2
    rw [AH.set_ne, e]
    intro e2
    rw [e2, hf] at e
    rw [e2, ← e] at hs
    cases hs
  · simp only [List.mem_cons, List.not_mem_nil, or_false] at hq
    rcases hq with rfl | rfl | rfl
    · exact .inl (by simp)
    · exact .inl (by simp)
    · by_cases ho : ob = some q
      · exact .inl (by simp [ho])
      · exact .inr ((hd q ho).symm.trans hf)

theorem Lay.pushed {H : AH} {b b1 : Nat} {c1 : Option Nat} {st fr : List Int} {ob : Option Nat} {y : AV} {n : Int} {b' : Nat} (hb : H b = some ⟨2, [[.ov (some b1) 0 1 st.length c1, y]]⟩) (hb1 : H b1 = some ⟨1, bv st⟩)
    (h4 : b ≠ b1) (h5 : ob ≠ some b) (h6 : ob ≠ some b1) (hf : fresh (delO H ob) b') :
    Lay (((delO H ob).set b' ⟨1, iv (push fr n)⟩).set b ⟨2, [[.ov (some b1) 0 1 st.length c1, .ov (some b') 0 1 (fr.length + 1) none]]⟩) b b1 c1 (b :: b1 :: [b']) st (push fr n) ∧
    Keeps H (b :: b1 :: ob.toList) (((delO H ob).set b' ⟨1, iv (push fr n)⟩).set b ⟨2, [[.ov (some b1) 0 1 st.length c1, .ov (some b') 0 1 (fr.length + 1) none]]⟩) (b :: b1 :: [b']) :=
  Lay.grown hb hb1 h4 h5 h6 hf (by simp [push, up_len])

theorem back_ok {H : AH} {b b1 : Nat} {c1 : Option Nat} {F : List Nat} {st fr : List Int} {n : Int} {K : AV → AH → Prop} (h : Lay H b b1 c1 F st fr) (hbig : fr.length ≤ 100000000)
    (h1 : usesOf st n = true → ∀ H' F', Lay H' b b1 c1 F' (st.set n.toNat 0) (push fr n) → Keeps H F H' F' → K (.v (.int .i64 0)) H') (h2 : usesOf st n = false → K (.v (.int .i64 1)) H) :
    CallOK Try.prog 14 [.ptr b 2 0 0, .v (.int .i64 n)] H K := by
  have hh := h
  obtain ⟨ob, y, hb, hb1, h3, h4, h5, h6, rfl⟩ := hh
  refine CallOK.of_body Try.func14 nm14 rfl ?_; simp only [Try.ntmps14, List.length_cons, List.length_nil, argSt, Nat.reduceAdd, Nat.reduceSub]
  repeat' (first | ((first | refine Z.W0 ?_ | refine Z.X0 ?_); simp only [go_sem, seval, alen, aidx, aload, isAggD, hb, hb1]; try (simp (disch := omega) only [Z.w0]; try simp only [go_sem, seval, alen, aidx, aload, isAggD, hb, hb1])) | (refine hF _ _ ?_; clear hF F) | (refine Z.p0 ?_; simp only [St.put]) | refine Z.a0 ?_ | refine Z.b0 ?_ | refine Z.c0 ?_ | refine Z.d0 ?_ | refine Z.e0 ?_ | refine Z.f0 ?_ | refine Z.g0 ?_ | refine Z.h0 ?_ | refine Z.i0 rfl ?_ | refine Z.j0 ?_ | refine Z.k0 ?_ | refine Z.l0 ?_ | refine Z.m0 ?_ | refine Z.n0 ?_ | refine Z.o0 ?_ | refine Z.q0 rfl rfl fun F hF => ?_ | refine Z.r0 rfl rfl rfl rfl fun F hF => ?_ | refine Z.A0 rfl rfl rfl fun F hF => ?_ | refine Z.B0 rfl rfl rfl fun F hF => ?_ | refine Z.s0 rfl rfl rfl rfl ?_ | (refine Z.D0 ?_; simp only [St.put]) | refine Z.E0 rfl rfl rfl ?_ | refine Z.F0 rfl rfl rfl ?_ | (refine hF _ _ ?_ ?_ <;> clear hF F) | refine Z.T0 rfl ?_ | refine Z.U0 rfl ?_ | (refine Z.t0 rfl rfl rfl rfl ?_ ?_ <;> (intro hg; simp only [hg, Bool.not_true, Bool.not_false]; simp only [Z.x0] at hg)) | refine And.intro (by omega) ?_ | ((first | refine Z.G0 rfl rfl rfl rfl rfl ?_ ?_ | refine Z.M0 rfl rfl rfl rfl rfl ?_ ?_) <;> (intro hg; simp only [hg, Bool.not_true, Bool.not_false]; simp only [Z.x0] at hg)) | (refine Z.V0 rfl ?_ ?_ <;> (intro hc; try simp only [hc]; simp only [Z.x0] at hc)))
  refine uses_ok hb hb1 ?_
  refine hF _ _ ?_
  clear hF F
  cases hu : usesOf st n
  · repeat' (first | ((first | refine Z.W0 ?_ | refine Z.X0 ?_); simp only [go_sem, seval, alen, aidx, aload, isAggD, hb, hb1]; try (simp (disch := omega) only [Z.w0]; try simp only [go_sem, seval, alen, aidx, aload, isAggD, hb, hb1])) | (refine hF _ _ ?_; clear hF F) | (refine Z.p0 ?_; simp only [St.put]) | refine Z.a0 ?_ | refine Z.b0 ?_ | refine Z.c0 ?_ | refine Z.d0 ?_ | refine Z.e0 ?_ | refine Z.f0 ?_ | refine Z.g0 ?_ | refine Z.h0 ?_ | refine Z.i0 rfl ?_ | refine Z.j0 ?_ | refine Z.k0 ?_ | refine Z.l0 ?_ | refine Z.m0 ?_ | refine Z.n0 ?_ | refine Z.o0 ?_ | refine Z.q0 rfl rfl fun F hF => ?_ | refine Z.r0 rfl rfl rfl rfl fun F hF => ?_ | refine Z.A0 rfl rfl rfl fun F hF => ?_ | refine Z.B0 rfl rfl rfl fun F hF => ?_ | refine Z.s0 rfl rfl rfl rfl ?_ | (refine Z.D0 ?_; simp only [St.put]) | refine Z.E0 rfl rfl rfl ?_ | refine Z.F0 rfl rfl rfl ?_ | (refine hF _ _ ?_ ?_ <;> clear hF F) | refine Z.T0 rfl ?_ | refine Z.U0 rfl ?_ | (refine Z.t0 rfl rfl rfl rfl ?_ ?_ <;> (intro hg; simp only [hg, Bool.not_true, Bool.not_false]; simp only [Z.x0] at hg)) | refine And.intro (by omega) ?_ | ((first | refine Z.G0 rfl rfl rfl rfl rfl ?_ ?_ | refine Z.M0 rfl rfl rfl rfl rfl ?_ ?_) <;> (intro hg; simp only [hg, Bool.not_true, Bool.not_false]; simp only [Z.x0] at hg)) | (refine Z.V0 rfl ?_ ?_ <;> (intro hc; try simp only [hc]; simp only [Z.x0] at hc)))
    simp only [retK, ares, pack, Try.results14, St.get, reduceIte, Nat.reduceEqDiff, aload, arow, List.toArray, Array.toList]
    exact h2 hu
  · have hn : 0 ≤ n ∧ n < st.length ∧ st.getD n.toNat 0 = 1 := of_decide_eq_true hu
    have hr := bv_row (st := st) (k := n.toNat) (by omega)
    have hn1 := hn.1
    have hn2 := hn.2.1
    repeat' (first | ((first | refine Z.W0 ?_ | refine Z.X0 ?_); simp only [go_sem, seval, alen, aidx, aload, isAggD, hb, hb1, hn1, hn2, hr, bv_set, h4, h4.symm, AH.set_ne]; try (simp (disch := omega) only [Z.w0]; try simp only [go_sem, seval, alen, aidx, aload, isAggD, hb, hb1, hn1, hn2, hr, bv_set, h4, h4.symm, AH.set_ne])) | (refine hF _ _ ?_; clear hF F) | (refine Z.p0 ?_; simp only [St.put]) | refine Z.a0 ?_ | refine Z.b0 ?_ | refine Z.c0 ?_ | refine Z.d0 ?_ | refine Z.e0 ?_ | refine Z.f0 ?_ | refine Z.g0 ?_ | refine Z.h0 ?_ | refine Z.i0 rfl ?_ | refine Z.j0 ?_ | refine Z.k0 ?_ | refine Z.l0 ?_ | refine Z.m0 ?_ | refine Z.n0 ?_ | refine Z.o0 ?_ | refine Z.q0 rfl rfl fun F hF => ?_ | refine Z.r0 rfl rfl rfl rfl fun F hF => ?_ | refine Z.A0 rfl rfl rfl fun F hF => ?_ | refine Z.B0 rfl rfl rfl fun F hF => ?_ | refine Z.s0 rfl rfl rfl rfl ?_ | (refine Z.D0 ?_; simp only [St.put]) | refine Z.E0 rfl rfl rfl ?_ | refine Z.F0 rfl rfl rfl ?_ | (refine hF _ _ ?_ ?_ <;> clear hF F) | refine Z.T0 rfl ?_ | refine Z.U0 rfl ?_ | (refine Z.t0 rfl rfl rfl rfl ?_ ?_ <;> (intro hg; simp only [hg, Bool.not_true, Bool.not_false]; simp only [Z.x0] at hg)) | refine And.intro (by omega) ?_ | ((first | refine Z.G0 rfl rfl rfl rfl rfl ?_ ?_ | refine Z.M0 rfl rfl rfl rfl rfl ?_ ?_) <;> (intro hg; simp only [hg, Bool.not_true, Bool.not_false]; simp only [Z.x0] at hg)) | (refine Z.V0 rfl ?_ ?_ <;> (intro hc; try simp only [hc]; simp only [Z.x0] at hc)))
    obtain ⟨k1, k2⟩ := h.states (st.set n.toNat 0) (by simp)
    refine put_ok (H := H.set b1 ⟨1, bv (st.set n.toNat 0)⟩) (by rw [AH.set_ne _ _ h4]; exact hb) (h3.keep fun q hq => ?_) h5 (by omega) fun b' hb' => ?_
    · rw [AH.set_ne]; intro e; exact h6 (by rw [hq, e])
    · refine hF _ _ ?_
      clear hF F
      repeat' (first | ((first | refine Z.W0 ?_ | refine Z.X0 ?_); simp only [go_sem, seval, alen, aidx, aload, isAggD, hb, hb1]; try (simp (disch := omega) only [Z.w0]; try simp only [go_sem, seval, alen, aidx, aload, isAggD, hb, hb1])) | (refine hF _ _ ?_; clear hF F) | (refine Z.p0 ?_; simp only [St.put]) | refine Z.a0 ?_ | refine Z.b0 ?_ | refine Z.c0 ?_ | refine Z.d0 ?_ | refine Z.e0 ?_ | refine Z.f0 ?_ | refine Z.g0 ?_ | refine Z.h0 ?_ | refine Z.i0 rfl ?_ | refine Z.j0 ?_ | refine Z.k0 ?_ | refine Z.l0 ?_ | refine Z.m0 ?_ | refine Z.n0 ?_ | refine Z.o0 ?_ | refine Z.q0 rfl rfl fun F hF => ?_ | refine Z.r0 rfl rfl rfl rfl fun F hF => ?_ | refine Z.A0 rfl rfl rfl fun F hF => ?_ | refine Z.B0 rfl rfl rfl fun F hF => ?_ | refine Z.s0 rfl rfl rfl rfl ?_ | (refine Z.D0 ?_; simp only [St.put]) | refine Z.E0 rfl rfl rfl ?_ | refine Z.F0 rfl rfl rfl ?_ | (refine hF _ _ ?_ ?_ <;> clear hF F) | refine Z.T0 rfl ?_ | refine Z.U0 rfl ?_ | (refine Z.t0 rfl rfl rfl rfl ?_ ?_ <;> (intro hg; simp only [hg, Bool.not_true, Bool.not_false]; simp only [Z.x0] at hg)) | refine And.intro (by omega) ?_ | ((first | refine Z.G0 rfl rfl rfl rfl rfl ?_ ?_ | refine Z.M0 rfl rfl rfl rfl rfl ?_ ?_) <;> (intro hg; simp only [hg, Bool.not_true, Bool.not_false]; simp only [Z.x0] at hg)) | (refine Z.V0 rfl ?_ ?_ <;> (intro hc; try simp only [hc]; simp only [Z.x0] at hc)))
      simp only [retK, ares, pack, Try.results14, St.get, reduceIte, Nat.reduceEqDiff, aload, arow, List.toArray, Array.toList]
      obtain ⟨k3, k4⟩ := Lay.pushed (H := H.set b1 ⟨1, bv (st.set n.toNat 0)⟩) (st := st.set n.toNat 0) (fr := fr) (n := n) (y := y) (c1 := c1) (by rw [AH.set_ne _ _ h4, hb]; simp) (AH.set_same ..) h4 h5 h6 hb'
      have := h1 hu _ _ k3 (k2.trans k4)
      simpa [push] using this
end Go.Proofs.Ytcmakpkdliiigaa
