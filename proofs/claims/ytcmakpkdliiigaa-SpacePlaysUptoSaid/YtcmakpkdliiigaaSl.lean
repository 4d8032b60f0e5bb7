/- The document's examples. -/
import Derived.Test.YtcmakpkdliiigaaSk
namespace Go.Proofs.Ytcmakpkdliiigaa
set_option maxHeartbeats 8000000
set_option linter.all false
open Go Go.Fw
attribute [local irreducible] Reg RegD seqK blockK loopK retK
set_option maxRecDepth 10000

theorem Sp.keep {H H' : AH} {b : Nat} {F F1 F1' : List Nat} {st : List Int} (h : Sp H b F st) (hk : Keeps H F1 H' F1') (hd : ∀ q ∈ F, q ∉ F1) : Sp H' b F st := by
  obtain ⟨⟨b1, c1, fr, ⟨ob, y, l1, l2, l3, l4, l5, l6, rfl⟩, hG⟩, h2⟩ := h
  refine ⟨⟨b1, c1, fr, ⟨ob, y, ?_, ?_, l3.keep' fun q o hq ho => ?_, l4, l5, l6, rfl⟩, hG⟩, h2⟩
  · rw [hk.1 b (hd b (by simp)) (by rw [l1]; rfl), l1]
  · rw [hk.1 b1 (hd b1 (by simp)) (by rw [l2]; rfl), l2]
  · rw [hk.1 q (hd q (by simp [hq])) (by rw [ho]; rfl)]

theorem awake_ok {H : AH} {K : AV → AH → Prop} (hk : ∀ H', (∀ q, (H q).isSome = true → H' q = H q) → K (.v (.bool true)) H') : CallOK Try.prog 8 [] H K := by
  refine CallOK.of_body Try.func8 nm8 rfl ?_; simp only [Try.ntmps8, List.length_cons, List.length_nil, argSt, Nat.reduceAdd, Nat.reduceSub]
  repeat' (first | ((first | refine Z.W0 ?_ | refine Z.X0 ?_); simp only [go_sem, seval, alen, aidx, aload, isAggD, List.replicate, Int.reduceBEq, Int.reduceBNe, Int.reduceEq, bne_self_eq_false]; try (simp (disch := omega) only [Z.w0]; try simp only [go_sem, seval, alen, aidx, aload, isAggD, List.replicate, Int.reduceBEq, Int.reduceBNe, Int.reduceEq, bne_self_eq_false])) | (refine hF _ _ ?_; clear hF F) | (refine Z.p0 ?_; simp only [St.put]) | refine Z.a0 ?_ | refine Z.b0 ?_ | refine Z.c0 ?_ | refine Z.d0 ?_ | refine Z.e0 ?_ | refine Z.f0 ?_ | refine Z.g0 ?_ | refine Z.h0 ?_ | refine Z.i0 rfl ?_ | refine Z.j0 ?_ | refine Z.k0 ?_ | refine Z.l0 ?_ | refine Z.m0 ?_ | refine Z.n0 ?_ | refine Z.o0 ?_ | refine Z.q0 rfl rfl fun F hF => ?_ | refine Z.r0 rfl rfl rfl rfl fun F hF => ?_ | refine Z.A0 rfl rfl rfl fun F hF => ?_ | refine Z.B0 rfl rfl rfl fun F hF => ?_ | refine Z.s0 rfl rfl rfl rfl ?_ | (refine Z.D0 ?_; simp only [St.put]) | refine Z.E0 rfl rfl rfl ?_ | refine Z.F0 rfl rfl rfl ?_ | (refine hF _ _ ?_ ?_ <;> clear hF F) | refine Z.T0 rfl ?_ | refine Z.U0 rfl ?_ | (refine Z.t0 rfl rfl rfl rfl ?_ ?_ <;> (intro hg; simp only [hg, Bool.not_true, Bool.not_false]; simp only [Z.x0] at hg)) | refine And.intro (by omega) ?_ | ((first | refine Z.G0 rfl rfl rfl rfl rfl ?_ ?_ | refine Z.M0 rfl rfl rfl rfl rfl ?_ ?_) <;> (intro hg; simp only [hg, Bool.not_true, Bool.not_false]; simp only [Z.x0] at hg)) | (refine Z.V0 rfl ?_ ?_ <;> (intro hc; try simp only [hc]; simp only [Z.x0] at hc)))
  refine sp_new (us := [1, 3]) (.inl rfl) (by decide) (fun st H1 b FF hn hS hK => ?_) (fun H1 hn _ => absurd hn (by decide))
  have e : newOf 5 [1, 3] = some [0, 1, 0, 1, 0] := by decide
  rw [e] at hn
  cases hn
  refine hF _ _ ?_
  clear hF F
  repeat' (first | ((first | refine Z.W0 ?_ | refine Z.X0 ?_); simp only [go_sem, seval, alen, aidx, aload, isAggD, List.replicate, Int.reduceBEq, Int.reduceBNe, Int.reduceEq, bne_self_eq_false]; try (simp (disch := omega) only [Z.w0]; try simp only [go_sem, seval, alen, aidx, aload, isAggD, List.replicate, Int.reduceBEq, Int.reduceBNe, Int.reduceEq, bne_self_eq_false])) | (refine hF _ _ ?_; clear hF F) | (refine Z.p0 ?_; simp only [St.put]) | refine Z.a0 ?_ | refine Z.b0 ?_ | refine Z.c0 ?_ | refine Z.d0 ?_ | refine Z.e0 ?_ | refine Z.f0 ?_ | refine Z.g0 ?_ | refine Z.h0 ?_ | refine Z.i0 rfl ?_ | refine Z.j0 ?_ | refine Z.k0 ?_ | refine Z.l0 ?_ | refine Z.m0 ?_ | refine Z.n0 ?_ | refine Z.o0 ?_ | refine Z.q0 rfl rfl fun F hF => ?_ | refine Z.r0 rfl rfl rfl rfl fun F hF => ?_ | refine Z.A0 rfl rfl rfl fun F hF => ?_ | refine Z.B0 rfl rfl rfl fun F hF => ?_ | refine Z.s0 rfl rfl rfl rfl ?_ | (refine Z.D0 ?_; simp only [St.put]) | refine Z.E0 rfl rfl rfl ?_ | refine Z.F0 rfl rfl rfl ?_ | (refine hF _ _ ?_ ?_ <;> clear hF F) | refine Z.T0 rfl ?_ | refine Z.U0 rfl ?_ | (refine Z.t0 rfl rfl rfl rfl ?_ ?_ <;> (intro hg; simp only [hg, Bool.not_true, Bool.not_false]; simp only [Z.x0] at hg)) | refine And.intro (by omega) ?_ | ((first | refine Z.G0 rfl rfl rfl rfl rfl ?_ ?_ | refine Z.M0 rfl rfl rfl rfl rfl ?_ ?_) <;> (intro hg; simp only [hg, Bool.not_true, Bool.not_false]; simp only [Z.x0] at hg)) | (refine Z.V0 rfl ?_ ?_ <;> (intro hc; try simp only [hc]; simp only [Z.x0] at hc)))
  refine sp_new (us := [1, 1]) (.inl rfl) (by decide) (fun st H' b F hn => by rw [show newOf 5 [1, 1] = none by decide] at hn; cases hn) (fun H2 hn hK2 => ?_)
  refine hF _ _ ?_
  clear hF F
  replace hS := hS.keep hK2 (fun _ _ h => by cases h)
  replace hK : Keeps H [] H2 FF := by
    refine ⟨fun q h1 h2 => ?_, hK.2⟩
    rw [hK2.1 q h1 (by rw [hK.1 q h1 h2]; exact h2), hK.1 q h1 h2]
  clear hK2 e hn
  repeat' (first | ((first | refine Z.W0 ?_ | refine Z.X0 ?_); simp only [go_sem, seval, alen, aidx, aload, isAggD, Int.reduceBEq, Int.reduceBNe, Int.reduceEq, bne_self_eq_false]; try (simp (disch := omega) only [Z.w0]; try simp only [go_sem, seval, alen, aidx, aload, isAggD, Int.reduceBEq, Int.reduceBNe, Int.reduceEq, bne_self_eq_false])) | (refine hF _ _ ?_; clear hF F) | (refine Z.p0 ?_; simp only [St.put]) | refine Z.a0 ?_ | refine Z.b0 ?_ | refine Z.c0 ?_ | refine Z.d0 ?_ | refine Z.e0 ?_ | refine Z.f0 ?_ | refine Z.g0 ?_ | refine Z.h0 ?_ | refine Z.i0 rfl ?_ | refine Z.j0 ?_ | refine Z.k0 ?_ | refine Z.l0 ?_ | refine Z.m0 ?_ | refine Z.n0 ?_ | refine Z.o0 ?_ | refine Z.q0 rfl rfl fun F hF => ?_ | refine Z.r0 rfl rfl rfl rfl fun F hF => ?_ | refine Z.A0 rfl rfl rfl fun F hF => ?_ | refine Z.B0 rfl rfl rfl fun F hF => ?_ | refine Z.s0 rfl rfl rfl rfl ?_ | (refine Z.D0 ?_; simp only [St.put]) | refine Z.E0 rfl rfl rfl ?_ | refine Z.F0 rfl rfl rfl ?_ | (refine hF _ _ ?_ ?_ <;> clear hF F) | refine Z.T0 rfl ?_ | refine Z.U0 rfl ?_ | (refine Z.t0 rfl rfl rfl rfl ?_ ?_ <;> (intro hg; simp only [hg, Bool.not_true, Bool.not_false]; simp only [Z.x0] at hg)) | refine And.intro (by omega) ?_ | ((first | refine Z.G0 rfl rfl rfl rfl rfl ?_ ?_ | refine Z.M0 rfl rfl rfl rfl rfl ?_ ?_) <;> (intro hg; simp only [hg, Bool.not_true, Bool.not_false]; simp only [Z.x0] at hg)) | (refine Z.V0 rfl ?_ ?_ <;> (intro hc; try simp only [hc]; simp only [Z.x0] at hc)))
  refine sp_take hS fun H3 F3 hS3 hK3 => ?_
  have e : takeR [0, 1, 0, 1, 0] = (0, 0, [1, 1, 0, 1, 0]) := by decide
  rw [e] at hS3
  simp only [e]
  refine hF _ _ ?_
  clear hF e F
  replace hK := hK.trans hK3
  clear hS hK3
  replace hS := hS3
  clear hS3
  repeat' (first | ((first | refine Z.W0 ?_ | refine Z.X0 ?_); simp only [go_sem, seval, alen, aidx, aload, isAggD, Int.reduceBEq, Int.reduceBNe, Int.reduceEq, bne_self_eq_false]; try (simp (disch := omega) only [Z.w0]; try simp only [go_sem, seval, alen, aidx, aload, isAggD, Int.reduceBEq, Int.reduceBNe, Int.reduceEq, bne_self_eq_false])) | (refine hF _ _ ?_; clear hF F) | (refine Z.p0 ?_; simp only [St.put]) | refine Z.a0 ?_ | refine Z.b0 ?_ | refine Z.c0 ?_ | refine Z.d0 ?_ | refine Z.e0 ?_ | refine Z.f0 ?_ | refine Z.g0 ?_ | refine Z.h0 ?_ | refine Z.i0 rfl ?_ | refine Z.j0 ?_ | refine Z.k0 ?_ | refine Z.l0 ?_ | refine Z.m0 ?_ | refine Z.n0 ?_ | refine Z.o0 ?_ | refine Z.q0 rfl rfl fun F hF => ?_ | refine Z.r0 rfl rfl rfl rfl fun F hF => ?_ | refine Z.A0 rfl rfl rfl fun F hF => ?_ | refine Z.B0 rfl rfl rfl fun F hF => ?_ | refine Z.s0 rfl rfl rfl rfl ?_ | (refine Z.D0 ?_; simp only [St.put]) | refine Z.E0 rfl rfl rfl ?_ | refine Z.F0 rfl rfl rfl ?_ | (refine hF _ _ ?_ ?_ <;> clear hF F) | refine Z.T0 rfl ?_ | refine Z.U0 rfl ?_ | (refine Z.t0 rfl rfl rfl rfl ?_ ?_ <;> (intro hg; simp only [hg, Bool.not_true, Bool.not_false]; simp only [Z.x0] at hg)) | refine And.intro (by omega) ?_ | ((first | refine Z.G0 rfl rfl rfl rfl rfl ?_ ?_ | refine Z.M0 rfl rfl rfl rfl rfl ?_ ?_) <;> (intro hg; simp only [hg, Bool.not_true, Bool.not_false]; simp only [Z.x0] at hg)) | (refine Z.V0 rfl ?_ ?_ <;> (intro hc; try simp only [hc]; simp only [Z.x0] at hc)))
  refine sp_take hS fun H4 F4 hS4 hK4 => ?_
  have e : takeR [1, 1, 0, 1, 0] = (2, 0, [1, 1, 1, 1, 0]) := by decide
  rw [e] at hS4
  simp only [e]
  refine hF _ _ ?_
  clear hF e F
  replace hK := hK.trans hK4
  clear hS hK4
  replace hS := hS4
  clear hS4
  repeat' (first | ((first | refine Z.W0 ?_ | refine Z.X0 ?_); simp only [go_sem, seval, alen, aidx, aload, isAggD, Int.reduceBEq, Int.reduceBNe, Int.reduceEq, bne_self_eq_false]; try (simp (disch := omega) only [Z.w0]; try simp only [go_sem, seval, alen, aidx, aload, isAggD, Int.reduceBEq, Int.reduceBNe, Int.reduceEq, bne_self_eq_false])) | (refine hF _ _ ?_; clear hF F) | (refine Z.p0 ?_; simp only [St.put]) | refine Z.a0 ?_ | refine Z.b0 ?_ | refine Z.c0 ?_ | refine Z.d0 ?_ | refine Z.e0 ?_ | refine Z.f0 ?_ | refine Z.g0 ?_ | refine Z.h0 ?_ | refine Z.i0 rfl ?_ | refine Z.j0 ?_ | refine Z.k0 ?_ | refine Z.l0 ?_ | refine Z.m0 ?_ | refine Z.n0 ?_ | refine Z.o0 ?_ | refine Z.q0 rfl rfl fun F hF => ?_ | refine Z.r0 rfl rfl rfl rfl fun F hF => ?_ | refine Z.A0 rfl rfl rfl fun F hF => ?_ | refine Z.B0 rfl rfl rfl fun F hF => ?_ | refine Z.s0 rfl rfl rfl rfl ?_ | (refine Z.D0 ?_; simp only [St.put]) | refine Z.E0 rfl rfl rfl ?_ | refine Z.F0 rfl rfl rfl ?_ | (refine hF _ _ ?_ ?_ <;> clear hF F) | refine Z.T0 rfl ?_ | refine Z.U0 rfl ?_ | (refine Z.t0 rfl rfl rfl rfl ?_ ?_ <;> (intro hg; simp only [hg, Bool.not_true, Bool.not_false]; simp only [Z.x0] at hg)) | refine And.intro (by omega) ?_ | ((first | refine Z.G0 rfl rfl rfl rfl rfl ?_ ?_ | refine Z.M0 rfl rfl rfl rfl rfl ?_ ?_) <;> (intro hg; simp only [hg, Bool.not_true, Bool.not_false]; simp only [Z.x0] at hg)) | (refine Z.V0 rfl ?_ ?_ <;> (intro hc; try simp only [hc]; simp only [Z.x0] at hc)))
  refine sp_drop hS fun H5 F5 hS5 hK5 => ?_
  have e : dropR [1, 1, 1, 1, 0] 3 = (0, [1, 1, 1, 2, 0]) := by decide
  rw [e] at hS5
  simp only [e]
  refine hF _ _ ?_
  clear hF e F
  replace hK := hK.trans hK5
  clear hS hK5
  replace hS := hS5
  clear hS5
  repeat' (first | ((first | refine Z.W0 ?_ | refine Z.X0 ?_); simp only [go_sem, seval, alen, aidx, aload, isAggD, Int.reduceBEq, Int.reduceBNe, Int.reduceEq, bne_self_eq_false]; try (simp (disch := omega) only [Z.w0]; try simp only [go_sem, seval, alen, aidx, aload, isAggD, Int.reduceBEq, Int.reduceBNe, Int.reduceEq, bne_self_eq_false])) | (refine hF _ _ ?_; clear hF F) | (refine Z.p0 ?_; simp only [St.put]) | refine Z.a0 ?_ | refine Z.b0 ?_ | refine Z.c0 ?_ | refine Z.d0 ?_ | refine Z.e0 ?_ | refine Z.f0 ?_ | refine Z.g0 ?_ | refine Z.h0 ?_ | refine Z.i0 rfl ?_ | refine Z.j0 ?_ | refine Z.k0 ?_ | refine Z.l0 ?_ | refine Z.m0 ?_ | refine Z.n0 ?_ | refine Z.o0 ?_ | refine Z.q0 rfl rfl fun F hF => ?_ | refine Z.r0 rfl rfl rfl rfl fun F hF => ?_ | refine Z.A0 rfl rfl rfl fun F hF => ?_ | refine Z.B0 rfl rfl rfl fun F hF => ?_ | refine Z.s0 rfl rfl rfl rfl ?_ | (refine Z.D0 ?_; simp only [St.put]) | refine Z.E0 rfl rfl rfl ?_ | refine Z.F0 rfl rfl rfl ?_ | (refine hF _ _ ?_ ?_ <;> clear hF F) | refine Z.T0 rfl ?_ | refine Z.U0 rfl ?_ | (refine Z.t0 rfl rfl rfl rfl ?_ ?_ <;> (intro hg; simp only [hg, Bool.not_true, Bool.not_false]; simp only [Z.x0] at hg)) | refine And.intro (by omega) ?_ | ((first | refine Z.G0 rfl rfl rfl rfl rfl ?_ ?_ | refine Z.M0 rfl rfl rfl rfl rfl ?_ ?_) <;> (intro hg; simp only [hg, Bool.not_true, Bool.not_false]; simp only [Z.x0] at hg)) | (refine Z.V0 rfl ?_ ?_ <;> (intro hc; try simp only [hc]; simp only [Z.x0] at hc)))
  refine sp_take hS fun H6 F6 hS6 hK6 => ?_
  have e : takeR [1, 1, 1, 2, 0] = (4, 0, [1, 1, 1, 2, 1]) := by decide
  rw [e] at hS6
  simp only [e]
  refine hF _ _ ?_
  clear hF e F
  replace hK := hK.trans hK6
  clear hS hK6
  replace hS := hS6
  clear hS6
  repeat' (first | ((first | refine Z.W0 ?_ | refine Z.X0 ?_); simp only [go_sem, seval, alen, aidx, aload, isAggD, Int.reduceBEq, Int.reduceBNe, Int.reduceEq, bne_self_eq_false]; try (simp (disch := omega) only [Z.w0]; try simp only [go_sem, seval, alen, aidx, aload, isAggD, Int.reduceBEq, Int.reduceBNe, Int.reduceEq, bne_self_eq_false])) | (refine hF _ _ ?_; clear hF F) | (refine Z.p0 ?_; simp only [St.put]) | refine Z.a0 ?_ | refine Z.b0 ?_ | refine Z.c0 ?_ | refine Z.d0 ?_ | refine Z.e0 ?_ | refine Z.f0 ?_ | refine Z.g0 ?_ | refine Z.h0 ?_ | refine Z.i0 rfl ?_ | refine Z.j0 ?_ | refine Z.k0 ?_ | refine Z.l0 ?_ | refine Z.m0 ?_ | refine Z.n0 ?_ | refine Z.o0 ?_ | refine Z.q0 rfl rfl fun F hF => ?_ | refine Z.r0 rfl rfl rfl rfl fun F hF => ?_ | refine Z.A0 rfl rfl rfl fun F hF => ?_ | refine Z.B0 rfl rfl rfl fun F hF => ?_ | refine Z.s0 rfl rfl rfl rfl ?_ | (refine Z.D0 ?_; simp only [St.put]) | refine Z.E0 rfl rfl rfl ?_ | refine Z.F0 rfl rfl rfl ?_ | (refine hF _ _ ?_ ?_ <;> clear hF F) | refine Z.T0 rfl ?_ | refine Z.U0 rfl ?_ | (refine Z.t0 rfl rfl rfl rfl ?_ ?_ <;> (intro hg; simp only [hg, Bool.not_true, Bool.not_false]; simp only [Z.x0] at hg)) | refine And.intro (by omega) ?_ | ((first | refine Z.G0 rfl rfl rfl rfl rfl ?_ ?_ | refine Z.M0 rfl rfl rfl rfl rfl ?_ ?_) <;> (intro hg; simp only [hg, Bool.not_true, Bool.not_false]; simp only [Z.x0] at hg)) | (refine Z.V0 rfl ?_ ?_ <;> (intro hc; try simp only [hc]; simp only [Z.x0] at hc)))
  refine sp_take hS fun H7 F7 hS7 hK7 => ?_
  have e : takeR [1, 1, 1, 2, 1] = (0, 4, [1, 1, 1, 2, 1]) := by decide
  rw [e] at hS7
  simp only [e]
  refine hF _ _ ?_
  clear hF e F
  replace hK := hK.trans hK7
  clear hS hK7
  replace hS := hS7
  clear hS7
  repeat' (first | ((first | refine Z.W0 ?_ | refine Z.X0 ?_); simp only [go_sem, seval, alen, aidx, aload, isAggD, Int.reduceBEq, Int.reduceBNe, Int.reduceEq, bne_self_eq_false]; try (simp (disch := omega) only [Z.w0]; try simp only [go_sem, seval, alen, aidx, aload, isAggD, Int.reduceBEq, Int.reduceBNe, Int.reduceEq, bne_self_eq_false])) | (refine hF _ _ ?_; clear hF F) | (refine Z.p0 ?_; simp only [St.put]) | refine Z.a0 ?_ | refine Z.b0 ?_ | refine Z.c0 ?_ | refine Z.d0 ?_ | refine Z.e0 ?_ | refine Z.f0 ?_ | refine Z.g0 ?_ | refine Z.h0 ?_ | refine Z.i0 rfl ?_ | refine Z.j0 ?_ | refine Z.k0 ?_ | refine Z.l0 ?_ | refine Z.m0 ?_ | refine Z.n0 ?_ | refine Z.o0 ?_ | refine Z.q0 rfl rfl fun F hF => ?_ | refine Z.r0 rfl rfl rfl rfl fun F hF => ?_ | refine Z.A0 rfl rfl rfl fun F hF => ?_ | refine Z.B0 rfl rfl rfl fun F hF => ?_ | refine Z.s0 rfl rfl rfl rfl ?_ | (refine Z.D0 ?_; simp only [St.put]) | refine Z.E0 rfl rfl rfl ?_ | refine Z.F0 rfl rfl rfl ?_ | (refine hF _ _ ?_ ?_ <;> clear hF F) | refine Z.T0 rfl ?_ | refine Z.U0 rfl ?_ | (refine Z.t0 rfl rfl rfl rfl ?_ ?_ <;> (intro hg; simp only [hg, Bool.not_true, Bool.not_false]; simp only [Z.x0] at hg)) | refine And.intro (by omega) ?_ | ((first | refine Z.G0 rfl rfl rfl rfl rfl ?_ ?_ | refine Z.M0 rfl rfl rfl rfl rfl ?_ ?_) <;> (intro hg; simp only [hg, Bool.not_true, Bool.not_false]; simp only [Z.x0] at hg)) | (refine Z.V0 rfl ?_ ?_ <;> (intro hc; try simp only [hc]; simp only [Z.x0] at hc)))
  refine sp_turn hS fun H8 F8 hS8 hK8 => ?_
  have e : turnR [1, 1, 1, 2, 1] = (1, [1, 1, 1, 0, 1]) := by decide
  rw [e] at hS8
  simp only [e]
  refine hF _ _ ?_
  clear hF e F
  replace hK := hK.trans hK8
  clear hS hK8
  replace hS := hS8
  clear hS8
  repeat' (first | ((first | refine Z.W0 ?_ | refine Z.X0 ?_); simp only [go_sem, seval, alen, aidx, aload, isAggD, Int.reduceBEq, Int.reduceBNe, Int.reduceEq, bne_self_eq_false]; try (simp (disch := omega) only [Z.w0]; try simp only [go_sem, seval, alen, aidx, aload, isAggD, Int.reduceBEq, Int.reduceBNe, Int.reduceEq, bne_self_eq_false])) | (refine hF _ _ ?_; clear hF F) | (refine Z.p0 ?_; simp only [St.put]) | refine Z.a0 ?_ | refine Z.b0 ?_ | refine Z.c0 ?_ | refine Z.d0 ?_ | refine Z.e0 ?_ | refine Z.f0 ?_ | refine Z.g0 ?_ | refine Z.h0 ?_ | refine Z.i0 rfl ?_ | refine Z.j0 ?_ | refine Z.k0 ?_ | refine Z.l0 ?_ | refine Z.m0 ?_ | refine Z.n0 ?_ | refine Z.o0 ?_ | refine Z.q0 rfl rfl fun F hF => ?_ | refine Z.r0 rfl rfl rfl rfl fun F hF => ?_ | refine Z.A0 rfl rfl rfl fun F hF => ?_ | refine Z.B0 rfl rfl rfl fun F hF => ?_ | refine Z.s0 rfl rfl rfl rfl ?_ | (refine Z.D0 ?_; simp only [St.put]) | refine Z.E0 rfl rfl rfl ?_ | refine Z.F0 rfl rfl rfl ?_ | (refine hF _ _ ?_ ?_ <;> clear hF F) | refine Z.T0 rfl ?_ | refine Z.U0 rfl ?_ | (refine Z.t0 rfl rfl rfl rfl ?_ ?_ <;> (intro hg; simp only [hg, Bool.not_true, Bool.not_false]; simp only [Z.x0] at hg)) | refine And.intro (by omega) ?_ | ((first | refine Z.G0 rfl rfl rfl rfl rfl ?_ ?_ | refine Z.M0 rfl rfl rfl rfl rfl ?_ ?_) <;> (intro hg; simp only [hg, Bool.not_true, Bool.not_false]; simp only [Z.x0] at hg)) | (refine Z.V0 rfl ?_ ?_ <;> (intro hc; try simp only [hc]; simp only [Z.x0] at hc)))
  refine sp_take hS fun H9 F9 hS9 hK9 => ?_
  have e : takeR [1, 1, 1, 0, 1] = (3, 0, [1, 1, 1, 1, 1]) := by decide
  rw [e] at hS9
  simp only [e]
  refine hF _ _ ?_
  clear hF e F
  replace hK := hK.trans hK9
  clear hS hK9
  replace hS := hS9
  clear hS9
  repeat' (first | ((first | refine Z.W0 ?_ | refine Z.X0 ?_); simp only [go_sem, seval, alen, aidx, aload, isAggD, Int.reduceBEq, Int.reduceBNe, Int.reduceEq, bne_self_eq_false]; try (simp (disch := omega) only [Z.w0]; try simp only [go_sem, seval, alen, aidx, aload, isAggD, Int.reduceBEq, Int.reduceBNe, Int.reduceEq, bne_self_eq_false])) | (refine hF _ _ ?_; clear hF F) | (refine Z.p0 ?_; simp only [St.put]) | refine Z.a0 ?_ | refine Z.b0 ?_ | refine Z.c0 ?_ | refine Z.d0 ?_ | refine Z.e0 ?_ | refine Z.f0 ?_ | refine Z.g0 ?_ | refine Z.h0 ?_ | refine Z.i0 rfl ?_ | refine Z.j0 ?_ | refine Z.k0 ?_ | refine Z.l0 ?_ | refine Z.m0 ?_ | refine Z.n0 ?_ | refine Z.o0 ?_ | refine Z.q0 rfl rfl fun F hF => ?_ | refine Z.r0 rfl rfl rfl rfl fun F hF => ?_ | refine Z.A0 rfl rfl rfl fun F hF => ?_ | refine Z.B0 rfl rfl rfl fun F hF => ?_ | refine Z.s0 rfl rfl rfl rfl ?_ | (refine Z.D0 ?_; simp only [St.put]) | refine Z.E0 rfl rfl rfl ?_ | refine Z.F0 rfl rfl rfl ?_ | (refine hF _ _ ?_ ?_ <;> clear hF F) | refine Z.T0 rfl ?_ | refine Z.U0 rfl ?_ | (refine Z.t0 rfl rfl rfl rfl ?_ ?_ <;> (intro hg; simp only [hg, Bool.not_true, Bool.not_false]; simp only [Z.x0] at hg)) | refine And.intro (by omega) ?_ | ((first | refine Z.G0 rfl rfl rfl rfl rfl ?_ ?_ | refine Z.M0 rfl rfl rfl rfl rfl ?_ ?_) <;> (intro hg; simp only [hg, Bool.not_true, Bool.not_false]; simp only [Z.x0] at hg)) | (refine Z.V0 rfl ?_ ?_ <;> (intro hc; try simp only [hc]; simp only [Z.x0] at hc)))
  refine sp_free hS ?_
  refine hF _ _ ?_
  clear hF F
  repeat' (first | ((first | refine Z.W0 ?_ | refine Z.X0 ?_); simp only [go_sem, seval, alen, aidx, aload, isAggD, idx, Int.reduceBEq, Int.reduceBNe, Int.reduceEq, bne_self_eq_false]; try (simp (disch := omega) only [Z.w0]; try simp only [go_sem, seval, alen, aidx, aload, isAggD, idx, Int.reduceBEq, Int.reduceBNe, Int.reduceEq, bne_self_eq_false])) | (refine hF _ _ ?_; clear hF F) | (refine Z.p0 ?_; simp only [St.put]) | refine Z.a0 ?_ | refine Z.b0 ?_ | refine Z.c0 ?_ | refine Z.d0 ?_ | refine Z.e0 ?_ | refine Z.f0 ?_ | refine Z.g0 ?_ | refine Z.h0 ?_ | refine Z.i0 rfl ?_ | refine Z.j0 ?_ | refine Z.k0 ?_ | refine Z.l0 ?_ | refine Z.m0 ?_ | refine Z.n0 ?_ | refine Z.o0 ?_ | refine Z.q0 rfl rfl fun F hF => ?_ | refine Z.r0 rfl rfl rfl rfl fun F hF => ?_ | refine Z.A0 rfl rfl rfl fun F hF => ?_ | refine Z.B0 rfl rfl rfl fun F hF => ?_ | refine Z.s0 rfl rfl rfl rfl ?_ | (refine Z.D0 ?_; simp only [St.put]) | refine Z.E0 rfl rfl rfl ?_ | refine Z.F0 rfl rfl rfl ?_ | (refine hF _ _ ?_ ?_ <;> clear hF F) | refine Z.T0 rfl ?_ | refine Z.U0 rfl ?_ | (refine Z.t0 rfl rfl rfl rfl ?_ ?_ <;> (intro hg; simp only [hg, Bool.not_true, Bool.not_false]; simp only [Z.x0] at hg)) | refine And.intro (by omega) ?_ | ((first | refine Z.G0 rfl rfl rfl rfl rfl ?_ ?_ | refine Z.M0 rfl rfl rfl rfl rfl ?_ ?_) <;> (intro hg; simp only [hg, Bool.not_true, Bool.not_false]; simp only [Z.x0] at hg)) | (refine Z.V0 rfl ?_ ?_ <;> (intro hc; try simp only [hc]; simp only [Z.x0] at hc)))
  simp only [retK, ares, pack, Try.results8, St.get, reduceIte, Nat.reduceEqDiff, aload, arow, List.toArray, Array.toList]
  exact hk _ fun q hq => hK.1 q (by simp) hq
end Go.Proofs.Ytcmakpkdliiigaa
