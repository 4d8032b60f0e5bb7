/- The document's own space: the walks. -/
import Derived.Test.YtcmakpkdliiigaaSu
namespace Go.Proofs.Ytcmakpkdliiigaa
set_option maxHeartbeats 8000000
set_option linter.all false
open Go Go.Fw
attribute [local irreducible] Reg RegD seqK blockK loopK retK
set_option maxRecDepth 10000

/-- The document's space of these states lies at x. -/
def Rs (H : AH) (x : Nat) (F : List Nat) (st : List Int) : Prop := (∃ bl c, H x = some ⟨1, [[.ov (some bl) 0 1 st.length c]]⟩ ∧ H bl = some ⟨1, iv st⟩ ∧ x ≠ bl ∧ F = [x, bl]) ∧ 0 < st.length ∧ st.length ≤ 65536

theorem Rs.other {H H' : AH} {x : Nat} {F F1 F1' : List Nat} {st : List Int} (h : Rs H x F st) (hk : Keeps H F1 H' F1') (hd : ∀ q ∈ F, q ∉ F1) : Rs H' x F st ∧ (∀ q ∈ F, q ∉ F1') := by
  obtain ⟨⟨bl, c, h1, h2, h3, rfl⟩, hp⟩ := h
  refine ⟨⟨⟨bl, c, ?_, ?_, h3, rfl⟩, hp⟩, fun q hq hq' => ?_⟩
  · rw [hk.1 x (hd x (by simp)) (by rw [h1]; rfl), h1]
  · rw [hk.1 bl (hd bl (by simp)) (by rw [h2]; rfl), h2]
  · rcases hk.2 q hq' with h | h
    · exact hd q hq h
    · simp only [List.mem_cons, List.not_mem_nil, or_false] at hq
      rcases hq with rfl | rfl
      · rw [h] at h1; cases h1
      · rw [h] at h2; cases h2
theorem Rs.some {H : AH} {x : Nat} {F : List Nat} {st : List Int} (h : Rs H x F st) : ∀ q ∈ F, (H q).isSome = true := by
  obtain ⟨⟨bl, c, h1, h2, h3, rfl⟩, hp⟩ := h
  intro q hq
  simp only [List.mem_cons, List.not_mem_nil, or_false] at hq
  rcases hq with rfl | rfl
  · rw [h1]; rfl
  · rw [h2]; rfl
/-- Its states are written. -/
theorem Rs.write {H : AH} {x bl : Nat} {c : Option Nat} {st : List Int} (h1 : H x = Option.some ⟨1, [[.ov (Option.some bl) 0 1 st.length c]]⟩) (h3 : x ≠ bl) (hp : 0 < st.length ∧ st.length ≤ 65536) (st' : List Int) (hl : st'.length = st.length) :
    Rs (H.set bl ⟨1, iv st'⟩) x [x, bl] st' ∧ Keeps H [x, bl] (H.set bl ⟨1, iv st'⟩) [x, bl] := by
  refine ⟨⟨⟨bl, c, ?_, AH.set_same .., h3, rfl⟩, by rw [hl]; exact hp⟩, fun q hq _ => ?_, fun q hq => .inl hq⟩
  · rw [AH.set_ne _ _ h3, h1, hl]
  · rw [AH.set_ne]; rintro rfl; exact hq (by simp)

theorem rset_ok {H : AH} {x : Nat} {F : List Nat} {st : List Int} {n to : Int} {K : AV → AH → Prop} (h : Rs H x F st)
    (k1 : usesOf st n = true → ∀ H', Rs H' x F (st.set n.toNat to) → Keeps H F H' F → K (.v (.int .i64 0)) H') (k2 : usesOf st n = false → K (.v (.int .i64 1)) H) :
    CallOK Try.prog 32 [.ptr x 1 0 0, .v (.int .i64 n), .v (.int .i64 to)] H K := by
  obtain ⟨⟨bl, c, h1, h2, h3, rfl⟩, hp⟩ := h
  refine CallOK.of_body Try.func32 nm32 rfl ?_; simp only [Try.ntmps32, List.length_cons, List.length_nil, argSt, Nat.reduceAdd, Nat.reduceSub]
  by_cases g1 : n < 0
  · have d1 : decide (n < 0) = true := decide_eq_true g1
    repeat' (first | ((first | refine Z.W0 ?_ | refine Z.X0 ?_); simp only [go_sem, seval, alen, aidx, aload, d1]; try (simp (disch := omega) only [Z.w0]; try simp only [go_sem, seval, alen, aidx, aload, d1])) | (refine hF _ _ ?_; clear hF F) | (refine Z.p0 ?_; simp only [St.put]) | refine Z.a0 ?_ | refine Z.b0 ?_ | refine Z.c0 ?_ | refine Z.d0 ?_ | refine Z.e0 ?_ | refine Z.f0 ?_ | refine Z.g0 ?_ | refine Z.h0 ?_ | refine Z.i0 rfl ?_ | refine Z.j0 ?_ | refine Z.k0 ?_ | refine Z.l0 ?_ | refine Z.m0 ?_ | refine Z.n0 ?_ | refine Z.o0 ?_ | refine Z.q0 rfl rfl fun F hF => ?_ | refine Z.r0 rfl rfl rfl rfl fun F hF => ?_ | refine Z.A0 rfl rfl rfl fun F hF => ?_ | refine Z.B0 rfl rfl rfl fun F hF => ?_ | refine Z.s0 rfl rfl rfl rfl ?_ | (refine Z.D0 ?_; simp only [St.put]) | refine Z.E0 rfl rfl rfl ?_ | refine Z.F0 rfl rfl rfl ?_ | (refine hF _ _ ?_ ?_ <;> clear hF F) | refine Z.T0 rfl ?_ | refine Z.U0 rfl ?_ | (refine Z.t0 rfl rfl rfl rfl ?_ ?_ <;> (intro hg; simp only [hg, Bool.not_true, Bool.not_false]; simp only [Z.x0] at hg)) | refine And.intro (by omega) ?_ | ((first | refine Z.G0 rfl rfl rfl rfl rfl ?_ ?_ | refine Z.M0 rfl rfl rfl rfl rfl ?_ ?_) <;> (intro hg; simp only [hg, Bool.not_true, Bool.not_false]; simp only [Z.x0] at hg)) | (refine Z.V0 rfl ?_ ?_ <;> (intro hc; try simp only [hc]; simp only [Z.x0] at hc)))
    simp only [retK, ares, pack, Try.results32, St.get, reduceIte, Nat.reduceEqDiff, aload, arow, List.toArray, Array.toList]
    exact k2 (decide_eq_false (by omega))
  · have d1 : decide (n < 0) = false := decide_eq_false g1
    by_cases g2 : n ≥ (st.length : Int)
    · have d2 : decide (n ≥ (st.length : Int)) = true := decide_eq_true g2
      repeat' (first | ((first | refine Z.W0 ?_ | refine Z.X0 ?_); simp only [go_sem, seval, alen, aidx, aload, d1, d2, h1, h2]; try (simp (disch := omega) only [Z.w0]; try simp only [go_sem, seval, alen, aidx, aload, d1, d2, h1, h2])) | (refine hF _ _ ?_; clear hF F) | (refine Z.p0 ?_; simp only [St.put]) | refine Z.a0 ?_ | refine Z.b0 ?_ | refine Z.c0 ?_ | refine Z.d0 ?_ | refine Z.e0 ?_ | refine Z.f0 ?_ | refine Z.g0 ?_ | refine Z.h0 ?_ | refine Z.i0 rfl ?_ | refine Z.j0 ?_ | refine Z.k0 ?_ | refine Z.l0 ?_ | refine Z.m0 ?_ | refine Z.n0 ?_ | refine Z.o0 ?_ | refine Z.q0 rfl rfl fun F hF => ?_ | refine Z.r0 rfl rfl rfl rfl fun F hF => ?_ | refine Z.A0 rfl rfl rfl fun F hF => ?_ | refine Z.B0 rfl rfl rfl fun F hF => ?_ | refine Z.s0 rfl rfl rfl rfl ?_ | (refine Z.D0 ?_; simp only [St.put]) | refine Z.E0 rfl rfl rfl ?_ | refine Z.F0 rfl rfl rfl ?_ | (refine hF _ _ ?_ ?_ <;> clear hF F) | refine Z.T0 rfl ?_ | refine Z.U0 rfl ?_ | (refine Z.t0 rfl rfl rfl rfl ?_ ?_ <;> (intro hg; simp only [hg, Bool.not_true, Bool.not_false]; simp only [Z.x0] at hg)) | refine And.intro (by omega) ?_ | ((first | refine Z.G0 rfl rfl rfl rfl rfl ?_ ?_ | refine Z.M0 rfl rfl rfl rfl rfl ?_ ?_) <;> (intro hg; simp only [hg, Bool.not_true, Bool.not_false]; simp only [Z.x0] at hg)) | (refine Z.V0 rfl ?_ ?_ <;> (intro hc; try simp only [hc]; simp only [Z.x0] at hc)))
      simp only [retK, ares, pack, Try.results32, St.get, reduceIte, Nat.reduceEqDiff, aload, arow, List.toArray, Array.toList]
      exact k2 (decide_eq_false (by omega))
    · have d2 : decide (n ≥ (st.length : Int)) = false := decide_eq_false g2
      have hr := iv_row (xs := st) (k := n.toNat) (by omega)
      have n0 : 0 ≤ n := by omega
      have n1 : n < (st.length : Int) := by omega
      by_cases g3 : st.getD n.toNat 0 = 1
      · have d3 : (st.getD n.toNat 0 != 1) = false := by simp only [g3]; rfl
        repeat' (first | ((first | refine Z.W0 ?_ | refine Z.X0 ?_); simp only [go_sem, seval, alen, aidx, aload, d1, d2, d3, h1, h2, hr, n0, n1, iv_set]; try (simp (disch := omega) only [Z.w0]; try simp only [go_sem, seval, alen, aidx, aload, d1, d2, d3, h1, h2, hr, n0, n1, iv_set])) | (refine hF _ _ ?_; clear hF F) | (refine Z.p0 ?_; simp only [St.put]) | refine Z.a0 ?_ | refine Z.b0 ?_ | refine Z.c0 ?_ | refine Z.d0 ?_ | refine Z.e0 ?_ | refine Z.f0 ?_ | refine Z.g0 ?_ | refine Z.h0 ?_ | refine Z.i0 rfl ?_ | refine Z.j0 ?_ | refine Z.k0 ?_ | refine Z.l0 ?_ | refine Z.m0 ?_ | refine Z.n0 ?_ | refine Z.o0 ?_ | refine Z.q0 rfl rfl fun F hF => ?_ | refine Z.r0 rfl rfl rfl rfl fun F hF => ?_ | refine Z.A0 rfl rfl rfl fun F hF => ?_ | refine Z.B0 rfl rfl rfl fun F hF => ?_ | refine Z.s0 rfl rfl rfl rfl ?_ | (refine Z.D0 ?_; simp only [St.put]) | refine Z.E0 rfl rfl rfl ?_ | refine Z.F0 rfl rfl rfl ?_ | (refine hF _ _ ?_ ?_ <;> clear hF F) | refine Z.T0 rfl ?_ | refine Z.U0 rfl ?_ | (refine Z.t0 rfl rfl rfl rfl ?_ ?_ <;> (intro hg; simp only [hg, Bool.not_true, Bool.not_false]; simp only [Z.x0] at hg)) | refine And.intro (by omega) ?_ | ((first | refine Z.G0 rfl rfl rfl rfl rfl ?_ ?_ | refine Z.M0 rfl rfl rfl rfl rfl ?_ ?_) <;> (intro hg; simp only [hg, Bool.not_true, Bool.not_false]; simp only [Z.x0] at hg)) | (refine Z.V0 rfl ?_ ?_ <;> (intro hc; try simp only [hc]; simp only [Z.x0] at hc)))
        simp only [retK, ares, pack, Try.results32, St.get, reduceIte, Nat.reduceEqDiff, aload, arow, List.toArray, Array.toList]
        obtain ⟨w1, w2⟩ := Rs.write h1 h3 hp (st.set n.toNat to) (by simp)
        exact k1 (decide_eq_true ⟨n0, n1, g3⟩) _ w1 w2
      · have d3 : (st.getD n.toNat 0 != 1) = true := bne_iff_ne.2 g3
        repeat' (first | ((first | refine Z.W0 ?_ | refine Z.X0 ?_); simp only [go_sem, seval, alen, aidx, aload, d1, d2, d3, h1, h2, hr, n0, n1, iv_set]; try (simp (disch := omega) only [Z.w0]; try simp only [go_sem, seval, alen, aidx, aload, d1, d2, d3, h1, h2, hr, n0, n1, iv_set])) | (refine hF _ _ ?_; clear hF F) | (refine Z.p0 ?_; simp only [St.put]) | refine Z.a0 ?_ | refine Z.b0 ?_ | refine Z.c0 ?_ | refine Z.d0 ?_ | refine Z.e0 ?_ | refine Z.f0 ?_ | refine Z.g0 ?_ | refine Z.h0 ?_ | refine Z.i0 rfl ?_ | refine Z.j0 ?_ | refine Z.k0 ?_ | refine Z.l0 ?_ | refine Z.m0 ?_ | refine Z.n0 ?_ | refine Z.o0 ?_ | refine Z.q0 rfl rfl fun F hF => ?_ | refine Z.r0 rfl rfl rfl rfl fun F hF => ?_ | refine Z.A0 rfl rfl rfl fun F hF => ?_ | refine Z.B0 rfl rfl rfl fun F hF => ?_ | refine Z.s0 rfl rfl rfl rfl ?_ | (refine Z.D0 ?_; simp only [St.put]) | refine Z.E0 rfl rfl rfl ?_ | refine Z.F0 rfl rfl rfl ?_ | (refine hF _ _ ?_ ?_ <;> clear hF F) | refine Z.T0 rfl ?_ | refine Z.U0 rfl ?_ | (refine Z.t0 rfl rfl rfl rfl ?_ ?_ <;> (intro hg; simp only [hg, Bool.not_true, Bool.not_false]; simp only [Z.x0] at hg)) | refine And.intro (by omega) ?_ | ((first | refine Z.G0 rfl rfl rfl rfl rfl ?_ ?_ | refine Z.M0 rfl rfl rfl rfl rfl ?_ ?_) <;> (intro hg; simp only [hg, Bool.not_true, Bool.not_false]; simp only [Z.x0] at hg)) | (refine Z.V0 rfl ?_ ?_ <;> (intro hc; try simp only [hc]; simp only [Z.x0] at hc)))
        simp only [retK, ares, pack, Try.results32, St.get, reduceIte, Nat.reduceEqDiff, aload, arow, List.toArray, Array.toList]
        exact k2 (decide_eq_false fun h => g3 h.2.2)

theorem rdrop_ok {H : AH} {x : Nat} {F : List Nat} {st : List Int} {n : Int} {K : AV → AH → Prop} (h : Rs H x F st)
    (hk : ∀ H', Rs H' x F (dropR st n).2 → Keeps H F H' F → K (.v (.int .i64 (dropR st n).1)) H') : CallOK Try.prog 28 [.ptr x 1 0 0, .v (.int .i64 n)] H K := by
  refine CallOK.of_body Try.func28 nm28 rfl ?_; simp only [Try.ntmps28, List.length_cons, List.length_nil, argSt, Nat.reduceAdd, Nat.reduceSub]
  repeat' (first | ((first | refine Z.W0 ?_ | refine Z.X0 ?_); simp only [go_sem, seval, alen, aidx, aload]; try (simp (disch := omega) only [Z.w0]; try simp only [go_sem, seval, alen, aidx, aload])) | (refine hF _ _ ?_; clear hF F) | (refine Z.p0 ?_; simp only [St.put]) | refine Z.a0 ?_ | refine Z.b0 ?_ | refine Z.c0 ?_ | refine Z.d0 ?_ | refine Z.e0 ?_ | refine Z.f0 ?_ | refine Z.g0 ?_ | refine Z.h0 ?_ | refine Z.i0 rfl ?_ | refine Z.j0 ?_ | refine Z.k0 ?_ | refine Z.l0 ?_ | refine Z.m0 ?_ | refine Z.n0 ?_ | refine Z.o0 ?_ | refine Z.q0 rfl rfl fun F hF => ?_ | refine Z.r0 rfl rfl rfl rfl fun F hF => ?_ | refine Z.A0 rfl rfl rfl fun F hF => ?_ | refine Z.B0 rfl rfl rfl fun F hF => ?_ | refine Z.s0 rfl rfl rfl rfl ?_ | (refine Z.D0 ?_; simp only [St.put]) | refine Z.E0 rfl rfl rfl ?_ | refine Z.F0 rfl rfl rfl ?_ | (refine hF _ _ ?_ ?_ <;> clear hF F) | refine Z.T0 rfl ?_ | refine Z.U0 rfl ?_ | (refine Z.t0 rfl rfl rfl rfl ?_ ?_ <;> (intro hg; simp only [hg, Bool.not_true, Bool.not_false]; simp only [Z.x0] at hg)) | refine And.intro (by omega) ?_ | ((first | refine Z.G0 rfl rfl rfl rfl rfl ?_ ?_ | refine Z.M0 rfl rfl rfl rfl rfl ?_ ?_) <;> (intro hg; simp only [hg, Bool.not_true, Bool.not_false]; simp only [Z.x0] at hg)) | (refine Z.V0 rfl ?_ ?_ <;> (intro hc; try simp only [hc]; simp only [Z.x0] at hc)))
  refine rset_ok h (fun hu H' w1 w2 => ?_) (fun hu => ?_)
  · refine hF _ _ ?_
    clear hF F
    repeat' (first | ((first | refine Z.W0 ?_ | refine Z.X0 ?_); simp only [go_sem, seval, alen, aidx, aload]; try (simp (disch := omega) only [Z.w0]; try simp only [go_sem, seval, alen, aidx, aload])) | (refine hF _ _ ?_; clear hF F) | (refine Z.p0 ?_; simp only [St.put]) | refine Z.a0 ?_ | refine Z.b0 ?_ | refine Z.c0 ?_ | refine Z.d0 ?_ | refine Z.e0 ?_ | refine Z.f0 ?_ | refine Z.g0 ?_ | refine Z.h0 ?_ | refine Z.i0 rfl ?_ | refine Z.j0 ?_ | refine Z.k0 ?_ | refine Z.l0 ?_ | refine Z.m0 ?_ | refine Z.n0 ?_ | refine Z.o0 ?_ | refine Z.q0 rfl rfl fun F hF => ?_ | refine Z.r0 rfl rfl rfl rfl fun F hF => ?_ | refine Z.A0 rfl rfl rfl fun F hF => ?_ | refine Z.B0 rfl rfl rfl fun F hF => ?_ | refine Z.s0 rfl rfl rfl rfl ?_ | (refine Z.D0 ?_; simp only [St.put]) | refine Z.E0 rfl rfl rfl ?_ | refine Z.F0 rfl rfl rfl ?_ | (refine hF _ _ ?_ ?_ <;> clear hF F) | refine Z.T0 rfl ?_ | refine Z.U0 rfl ?_ | (refine Z.t0 rfl rfl rfl rfl ?_ ?_ <;> (intro hg; simp only [hg, Bool.not_true, Bool.not_false]; simp only [Z.x0] at hg)) | refine And.intro (by omega) ?_ | ((first | refine Z.G0 rfl rfl rfl rfl rfl ?_ ?_ | refine Z.M0 rfl rfl rfl rfl rfl ?_ ?_) <;> (intro hg; simp only [hg, Bool.not_true, Bool.not_false]; simp only [Z.x0] at hg)) | (refine Z.V0 rfl ?_ ?_ <;> (intro hc; try simp only [hc]; simp only [Z.x0] at hc)))
    simp only [retK, ares, pack, Try.results28, St.get, reduceIte, Nat.reduceEqDiff, aload, arow, List.toArray, Array.toList]
    have := hk H'
    simp only [dropR, hu, if_true] at this
    exact this w1 w2
  · refine hF _ _ ?_
    clear hF F
    repeat' (first | ((first | refine Z.W0 ?_ | refine Z.X0 ?_); simp only [go_sem, seval, alen, aidx, aload]; try (simp (disch := omega) only [Z.w0]; try simp only [go_sem, seval, alen, aidx, aload])) | (refine hF _ _ ?_; clear hF F) | (refine Z.p0 ?_; simp only [St.put]) | refine Z.a0 ?_ | refine Z.b0 ?_ | refine Z.c0 ?_ | refine Z.d0 ?_ | refine Z.e0 ?_ | refine Z.f0 ?_ | refine Z.g0 ?_ | refine Z.h0 ?_ | refine Z.i0 rfl ?_ | refine Z.j0 ?_ | refine Z.k0 ?_ | refine Z.l0 ?_ | refine Z.m0 ?_ | refine Z.n0 ?_ | refine Z.o0 ?_ | refine Z.q0 rfl rfl fun F hF => ?_ | refine Z.r0 rfl rfl rfl rfl fun F hF => ?_ | refine Z.A0 rfl rfl rfl fun F hF => ?_ | refine Z.B0 rfl rfl rfl fun F hF => ?_ | refine Z.s0 rfl rfl rfl rfl ?_ | (refine Z.D0 ?_; simp only [St.put]) | refine Z.E0 rfl rfl rfl ?_ | refine Z.F0 rfl rfl rfl ?_ | (refine hF _ _ ?_ ?_ <;> clear hF F) | refine Z.T0 rfl ?_ | refine Z.U0 rfl ?_ | (refine Z.t0 rfl rfl rfl rfl ?_ ?_ <;> (intro hg; simp only [hg, Bool.not_true, Bool.not_false]; simp only [Z.x0] at hg)) | refine And.intro (by omega) ?_ | ((first | refine Z.G0 rfl rfl rfl rfl rfl ?_ ?_ | refine Z.M0 rfl rfl rfl rfl rfl ?_ ?_) <;> (intro hg; simp only [hg, Bool.not_true, Bool.not_false]; simp only [Z.x0] at hg)) | (refine Z.V0 rfl ?_ ?_ <;> (intro hc; try simp only [hc]; simp only [Z.x0] at hc)))
    simp only [retK, ares, pack, Try.results28, St.get, reduceIte, Nat.reduceEqDiff, aload, arow, List.toArray, Array.toList]
    have := hk H
    simp only [dropR, hu] at this
    exact this h (.refl _ _)
theorem rback_ok {H : AH} {x : Nat} {F : List Nat} {st : List Int} {n : Int} {K : AV → AH → Prop} (h : Rs H x F st)
    (hk : ∀ H', Rs H' x F (backR st n).2 → Keeps H F H' F → K (.v (.int .i64 (backR st n).1)) H') : CallOK Try.prog 29 [.ptr x 1 0 0, .v (.int .i64 n)] H K := by
  refine CallOK.of_body Try.func29 nm29 rfl ?_; simp only [Try.ntmps29, List.length_cons, List.length_nil, argSt, Nat.reduceAdd, Nat.reduceSub]
  repeat' (first | ((first | refine Z.W0 ?_ | refine Z.X0 ?_); simp only [go_sem, seval, alen, aidx, aload]; try (simp (disch := omega) only [Z.w0]; try simp only [go_sem, seval, alen, aidx, aload])) | (refine hF _ _ ?_; clear hF F) | (refine Z.p0 ?_; simp only [St.put]) | refine Z.a0 ?_ | refine Z.b0 ?_ | refine Z.c0 ?_ | refine Z.d0 ?_ | refine Z.e0 ?_ | refine Z.f0 ?_ | refine Z.g0 ?_ | refine Z.h0 ?_ | refine Z.i0 rfl ?_ | refine Z.j0 ?_ | refine Z.k0 ?_ | refine Z.l0 ?_ | refine Z.m0 ?_ | refine Z.n0 ?_ | refine Z.o0 ?_ | refine Z.q0 rfl rfl fun F hF => ?_ | refine Z.r0 rfl rfl rfl rfl fun F hF => ?_ | refine Z.A0 rfl rfl rfl fun F hF => ?_ | refine Z.B0 rfl rfl rfl fun F hF => ?_ | refine Z.s0 rfl rfl rfl rfl ?_ | (refine Z.D0 ?_; simp only [St.put]) | refine Z.E0 rfl rfl rfl ?_ | refine Z.F0 rfl rfl rfl ?_ | (refine hF _ _ ?_ ?_ <;> clear hF F) | refine Z.T0 rfl ?_ | refine Z.U0 rfl ?_ | (refine Z.t0 rfl rfl rfl rfl ?_ ?_ <;> (intro hg; simp only [hg, Bool.not_true, Bool.not_false]; simp only [Z.x0] at hg)) | refine And.intro (by omega) ?_ | ((first | refine Z.G0 rfl rfl rfl rfl rfl ?_ ?_ | refine Z.M0 rfl rfl rfl rfl rfl ?_ ?_) <;> (intro hg; simp only [hg, Bool.not_true, Bool.not_false]; simp only [Z.x0] at hg)) | (refine Z.V0 rfl ?_ ?_ <;> (intro hc; try simp only [hc]; simp only [Z.x0] at hc)))
  refine rset_ok h (fun hu H' w1 w2 => ?_) (fun hu => ?_)
  · refine hF _ _ ?_
    clear hF F
    repeat' (first | ((first | refine Z.W0 ?_ | refine Z.X0 ?_); simp only [go_sem, seval, alen, aidx, aload]; try (simp (disch := omega) only [Z.w0]; try simp only [go_sem, seval, alen, aidx, aload])) | (refine hF _ _ ?_; clear hF F) | (refine Z.p0 ?_; simp only [St.put]) | refine Z.a0 ?_ | refine Z.b0 ?_ | refine Z.c0 ?_ | refine Z.d0 ?_ | refine Z.e0 ?_ | refine Z.f0 ?_ | refine Z.g0 ?_ | refine Z.h0 ?_ | refine Z.i0 rfl ?_ | refine Z.j0 ?_ | refine Z.k0 ?_ | refine Z.l0 ?_ | refine Z.m0 ?_ | refine Z.n0 ?_ | refine Z.o0 ?_ | refine Z.q0 rfl rfl fun F hF => ?_ | refine Z.r0 rfl rfl rfl rfl fun F hF => ?_ | refine Z.A0 rfl rfl rfl fun F hF => ?_ | refine Z.B0 rfl rfl rfl fun F hF => ?_ | refine Z.s0 rfl rfl rfl rfl ?_ | (refine Z.D0 ?_; simp only [St.put]) | refine Z.E0 rfl rfl rfl ?_ | refine Z.F0 rfl rfl rfl ?_ | (refine hF _ _ ?_ ?_ <;> clear hF F) | refine Z.T0 rfl ?_ | refine Z.U0 rfl ?_ | (refine Z.t0 rfl rfl rfl rfl ?_ ?_ <;> (intro hg; simp only [hg, Bool.not_true, Bool.not_false]; simp only [Z.x0] at hg)) | refine And.intro (by omega) ?_ | ((first | refine Z.G0 rfl rfl rfl rfl rfl ?_ ?_ | refine Z.M0 rfl rfl rfl rfl rfl ?_ ?_) <;> (intro hg; simp only [hg, Bool.not_true, Bool.not_false]; simp only [Z.x0] at hg)) | (refine Z.V0 rfl ?_ ?_ <;> (intro hc; try simp only [hc]; simp only [Z.x0] at hc)))
    simp only [retK, ares, pack, Try.results29, St.get, reduceIte, Nat.reduceEqDiff, aload, arow, List.toArray, Array.toList]
    have := hk H'
    simp only [backR, hu, if_true] at this
    exact this w1 w2
  · refine hF _ _ ?_
    clear hF F
    repeat' (first | ((first | refine Z.W0 ?_ | refine Z.X0 ?_); simp only [go_sem, seval, alen, aidx, aload]; try (simp (disch := omega) only [Z.w0]; try simp only [go_sem, seval, alen, aidx, aload])) | (refine hF _ _ ?_; clear hF F) | (refine Z.p0 ?_; simp only [St.put]) | refine Z.a0 ?_ | refine Z.b0 ?_ | refine Z.c0 ?_ | refine Z.d0 ?_ | refine Z.e0 ?_ | refine Z.f0 ?_ | refine Z.g0 ?_ | refine Z.h0 ?_ | refine Z.i0 rfl ?_ | refine Z.j0 ?_ | refine Z.k0 ?_ | refine Z.l0 ?_ | refine Z.m0 ?_ | refine Z.n0 ?_ | refine Z.o0 ?_ | refine Z.q0 rfl rfl fun F hF => ?_ | refine Z.r0 rfl rfl rfl rfl fun F hF => ?_ | refine Z.A0 rfl rfl rfl fun F hF => ?_ | refine Z.B0 rfl rfl rfl fun F hF => ?_ | refine Z.s0 rfl rfl rfl rfl ?_ | (refine Z.D0 ?_; simp only [St.put]) | refine Z.E0 rfl rfl rfl ?_ | refine Z.F0 rfl rfl rfl ?_ | (refine hF _ _ ?_ ?_ <;> clear hF F) | refine Z.T0 rfl ?_ | refine Z.U0 rfl ?_ | (refine Z.t0 rfl rfl rfl rfl ?_ ?_ <;> (intro hg; simp only [hg, Bool.not_true, Bool.not_false]; simp only [Z.x0] at hg)) | refine And.intro (by omega) ?_ | ((first | refine Z.G0 rfl rfl rfl rfl rfl ?_ ?_ | refine Z.M0 rfl rfl rfl rfl rfl ?_ ?_) <;> (intro hg; simp only [hg, Bool.not_true, Bool.not_false]; simp only [Z.x0] at hg)) | (refine Z.V0 rfl ?_ ?_ <;> (intro hc; try simp only [hc]; simp only [Z.x0] at hc)))
    simp only [retK, ares, pack, Try.results29, St.get, reduceIte, Nat.reduceEqDiff, aload, arow, List.toArray, Array.toList]
    have := hk H
    simp only [backR, hu] at this
    exact this h (.refl _ _)

theorem rtake_ok {H : AH} {x : Nat} {F : List Nat} {st : List Int} {K : AV → AH → Prop} (h : Rs H x F st)
    (hk : ∀ H', Rs H' x F (takeR st).2.2 → Keeps H F H' F → K (.tup [.v (.int .i64 (takeR st).1), .v (.int .i64 (takeR st).2.1)]) H') : CallOK Try.prog 27 [.ptr x 1 0 0] H K := by
  have hR := h
  obtain ⟨⟨bl, c, h1, h2, h3, rfl⟩, hp⟩ := h
  refine CallOK.of_body Try.func27 nm27 rfl ?_; simp only [Try.ntmps27, List.length_cons, List.length_nil, argSt, Nat.reduceAdd, Nat.reduceSub]
  repeat' (first | ((first | refine Z.W0 ?_ | refine Z.X0 ?_); simp only [go_sem, seval, alen, aidx, aload]; try (simp (disch := omega) only [Z.w0]; try simp only [go_sem, seval, alen, aidx, aload])) | (refine hF _ _ ?_; clear hF F) | (refine Z.p0 ?_; simp only [St.put]) | refine Z.a0 ?_ | refine Z.b0 ?_ | refine Z.c0 ?_ | refine Z.d0 ?_ | refine Z.e0 ?_ | refine Z.f0 ?_ | refine Z.g0 ?_ | refine Z.h0 ?_ | refine Z.i0 rfl ?_ | refine Z.j0 ?_ | refine Z.k0 ?_ | refine Z.l0 ?_ | refine Z.m0 ?_ | refine Z.n0 ?_ | refine Z.o0 ?_ | refine Z.q0 rfl rfl fun F hF => ?_ | refine Z.r0 rfl rfl rfl rfl fun F hF => ?_ | refine Z.A0 rfl rfl rfl fun F hF => ?_ | refine Z.B0 rfl rfl rfl fun F hF => ?_ | refine Z.s0 rfl rfl rfl rfl ?_ | (refine Z.D0 ?_; simp only [St.put]) | refine Z.E0 rfl rfl rfl ?_ | refine Z.F0 rfl rfl rfl ?_ | (refine hF _ _ ?_ ?_ <;> clear hF F) | refine Z.T0 rfl ?_ | refine Z.U0 rfl ?_ | (refine Z.t0 rfl rfl rfl rfl ?_ ?_ <;> (intro hg; simp only [hg, Bool.not_true, Bool.not_false]; simp only [Z.x0] at hg)) | refine And.intro (by omega) ?_ | ((first | refine Z.G0 rfl rfl rfl rfl rfl ?_ ?_ | refine Z.M0 rfl rfl rfl rfl rfl ?_ ?_) <;> (intro hg; simp only [hg, Bool.not_true, Bool.not_false]; simp only [Z.x0] at hg)) | (refine Z.V0 rfl ?_ ?_ <;> (intro hc; try simp only [hc]; simp only [Z.x0] at hc)))
  refine W_loop [0, 4] (fun n s H' => H' = H ∧ ∃ i : Nat, n + i = st.length ∧ idx 0 0 (st.take i) = [] ∧ s = [(0, .ptr x 1 0 0), (4, .v (.int .i64 i))]) st.length ?_ ?_
  · simp only [St.keep, St.get, reduceIte, Nat.reduceEqDiff]
    exact ⟨trivial, 0, by omega, rfl, rfl⟩
  · rintro n s H' ⟨rfl, i, hni, hI, rfl⟩
    cases n with
    | zero =>
      have d1 : decide ((i : Int) < (st.length : Int)) = false := by simp; omega
      repeat' (first | ((first | refine Z.W0 ?_ | refine Z.X0 ?_); simp only [go_sem, seval, alen, aidx, aload, d1, h1, h2]; try (simp (disch := omega) only [Z.w0]; try simp only [go_sem, seval, alen, aidx, aload, d1, h1, h2])) | (refine hF _ _ ?_; clear hF F) | (refine Z.p0 ?_; simp only [St.put]) | refine Z.a0 ?_ | refine Z.b0 ?_ | refine Z.c0 ?_ | refine Z.d0 ?_ | refine Z.e0 ?_ | refine Z.f0 ?_ | refine Z.g0 ?_ | refine Z.h0 ?_ | refine Z.i0 rfl ?_ | refine Z.j0 ?_ | refine Z.k0 ?_ | refine Z.l0 ?_ | refine Z.m0 ?_ | refine Z.n0 ?_ | refine Z.o0 ?_ | refine Z.q0 rfl rfl fun F hF => ?_ | refine Z.r0 rfl rfl rfl rfl fun F hF => ?_ | refine Z.A0 rfl rfl rfl fun F hF => ?_ | refine Z.B0 rfl rfl rfl fun F hF => ?_ | refine Z.s0 rfl rfl rfl rfl ?_ | (refine Z.D0 ?_; simp only [St.put]) | refine Z.E0 rfl rfl rfl ?_ | refine Z.F0 rfl rfl rfl ?_ | (refine hF _ _ ?_ ?_ <;> clear hF F) | refine Z.T0 rfl ?_ | refine Z.U0 rfl ?_ | (refine Z.t0 rfl rfl rfl rfl ?_ ?_ <;> (intro hg; simp only [hg, Bool.not_true, Bool.not_false]; simp only [Z.x0] at hg)) | refine And.intro (by omega) ?_ | ((first | refine Z.G0 rfl rfl rfl rfl rfl ?_ ?_ | refine Z.M0 rfl rfl rfl rfl rfl ?_ ?_) <;> (intro hg; simp only [hg, Bool.not_true, Bool.not_false]; simp only [Z.x0] at hg)) | (refine Z.V0 rfl ?_ ?_ <;> (intro hc; try simp only [hc]; simp only [Z.x0] at hc)))
      simp only [retK, ares, pack, Try.results27, St.get, reduceIte, Nat.reduceEqDiff, aload, arow, List.toArray, Array.toList]
      rw [List.take_of_length_le (by omega)] at hI
      have := hk H'
      rw [take_none hI] at this
      exact this hR (.refl _ _)
    | succ n =>
      have d1 : decide ((i : Int) < (st.length : Int)) = true := by simp; omega
      have hi : i < st.length := by omega
      have hr := iv_row hi
      have w8 : IntKind.i64.wrap ((i : Int) + 1) = ((i + 1 : Nat) : Int) := by rw [wrap_of] <;> omega
      have i1 : (i : Int) < (st.length : Int) := by omega
      by_cases g : st.getD i 0 = 0
      · have d2 : (st.getD i 0 == 0) = true := beq_iff_eq.2 g
        repeat' (first | ((first | refine Z.W0 ?_ | refine Z.X0 ?_); simp only [go_sem, seval, alen, aidx, aload, d1, d2, h1, h2, hr, i1, iv_set, w8]; try (simp (disch := omega) only [Z.w0]; try simp only [go_sem, seval, alen, aidx, aload, d1, d2, h1, h2, hr, i1, iv_set, w8])) | (refine hF _ _ ?_; clear hF F) | (refine Z.p0 ?_; simp only [St.put]) | refine Z.a0 ?_ | refine Z.b0 ?_ | refine Z.c0 ?_ | refine Z.d0 ?_ | refine Z.e0 ?_ | refine Z.f0 ?_ | refine Z.g0 ?_ | refine Z.h0 ?_ | refine Z.i0 rfl ?_ | refine Z.j0 ?_ | refine Z.k0 ?_ | refine Z.l0 ?_ | refine Z.m0 ?_ | refine Z.n0 ?_ | refine Z.o0 ?_ | refine Z.q0 rfl rfl fun F hF => ?_ | refine Z.r0 rfl rfl rfl rfl fun F hF => ?_ | refine Z.A0 rfl rfl rfl fun F hF => ?_ | refine Z.B0 rfl rfl rfl fun F hF => ?_ | refine Z.s0 rfl rfl rfl rfl ?_ | (refine Z.D0 ?_; simp only [St.put]) | refine Z.E0 rfl rfl rfl ?_ | refine Z.F0 rfl rfl rfl ?_ | (refine hF _ _ ?_ ?_ <;> clear hF F) | refine Z.T0 rfl ?_ | refine Z.U0 rfl ?_ | (refine Z.t0 rfl rfl rfl rfl ?_ ?_ <;> (intro hg; simp only [hg, Bool.not_true, Bool.not_false]; simp only [Z.x0] at hg)) | refine And.intro (by omega) ?_ | ((first | refine Z.G0 rfl rfl rfl rfl rfl ?_ ?_ | refine Z.M0 rfl rfl rfl rfl rfl ?_ ?_) <;> (intro hg; simp only [hg, Bool.not_true, Bool.not_false]; simp only [Z.x0] at hg)) | (refine Z.V0 rfl ?_ ?_ <;> (intro hc; try simp only [hc]; simp only [Z.x0] at hc)))
        simp only [retK, ares, pack, Try.results27, St.get, reduceIte, Nat.reduceEqDiff, aload, arow, List.toArray, Array.toList]
        obtain ⟨w1, w2⟩ := Rs.write h1 h3 hp (st.set i 1) (by simp)
        have e := idx_at (v := 0) hi
        rw [hI, if_pos g, List.nil_append, List.singleton_append] at e
        have := hk (H'.set bl ⟨1, iv (st.set i 1)⟩)
        rw [take_some e] at this
        exact this w1 w2
      · have d2 : (st.getD i 0 == 0) = false := beq_eq_false_iff_ne.2 g
        repeat' (first | ((first | refine Z.W0 ?_ | refine Z.X0 ?_); simp only [go_sem, seval, alen, aidx, aload, d1, d2, h1, h2, hr, i1, iv_set, w8]; try (simp (disch := omega) only [Z.w0]; try simp only [go_sem, seval, alen, aidx, aload, d1, d2, h1, h2, hr, i1, iv_set, w8])) | (refine hF _ _ ?_; clear hF F) | (refine Z.p0 ?_; simp only [St.put]) | refine Z.a0 ?_ | refine Z.b0 ?_ | refine Z.c0 ?_ | refine Z.d0 ?_ | refine Z.e0 ?_ | refine Z.f0 ?_ | refine Z.g0 ?_ | refine Z.h0 ?_ | refine Z.i0 rfl ?_ | refine Z.j0 ?_ | refine Z.k0 ?_ | refine Z.l0 ?_ | refine Z.m0 ?_ | refine Z.n0 ?_ | refine Z.o0 ?_ | refine Z.q0 rfl rfl fun F hF => ?_ | refine Z.r0 rfl rfl rfl rfl fun F hF => ?_ | refine Z.A0 rfl rfl rfl fun F hF => ?_ | refine Z.B0 rfl rfl rfl fun F hF => ?_ | refine Z.s0 rfl rfl rfl rfl ?_ | (refine Z.D0 ?_; simp only [St.put]) | refine Z.E0 rfl rfl rfl ?_ | refine Z.F0 rfl rfl rfl ?_ | (refine hF _ _ ?_ ?_ <;> clear hF F) | refine Z.T0 rfl ?_ | refine Z.U0 rfl ?_ | (refine Z.t0 rfl rfl rfl rfl ?_ ?_ <;> (intro hg; simp only [hg, Bool.not_true, Bool.not_false]; simp only [Z.x0] at hg)) | refine And.intro (by omega) ?_ | ((first | refine Z.G0 rfl rfl rfl rfl rfl ?_ ?_ | refine Z.M0 rfl rfl rfl rfl rfl ?_ ?_) <;> (intro hg; simp only [hg, Bool.not_true, Bool.not_false]; simp only [Z.x0] at hg)) | (refine Z.V0 rfl ?_ ?_ <;> (intro hc; try simp only [hc]; simp only [Z.x0] at hc)))
        simp only [loopK]
        simp only [St.keep, St.get, reduceIte, Nat.reduceEqDiff]
        exact ⟨n, by omega, trivial, i + 1, by omega, by rw [idx_take _ _ _ hi, if_neg g, hI], rfl⟩

def cur (i : Nat) (st : List Int) : List Int := (st.take i).map t2 ++ st.drop i
theorem cur_len (i : Nat) (st : List Int) : (cur i st).length = st.length := by
  simp only [cur, List.length_append, List.length_map, List.length_take, List.length_drop]; omega
theorem cur_at {i : Nat} {st : List Int} (hi : i < st.length) : (cur i st).getD i 0 = st.getD i 0 := by
  simp only [cur, List.getD]
  rw [List.getElem?_append_right (by simp; omega)]
  simp only [List.length_map, List.length_take, Nat.min_eq_left (Nat.le_of_lt hi), Nat.sub_self, List.getElem?_drop, Nat.add_zero]
theorem cur_succ {i : Nat} {st : List Int} (hi : i < st.length) : cur (i + 1) st = (cur i st).set i (t2 (st.getD i 0)) := by
  have e : st.drop i = st.getD i 0 :: st.drop (i + 1) := by rw [List.drop_eq_getElem_cons hi, getD_of hi]
  have hl : ((st.take i).map t2).length = i := by simp; omega
  unfold cur
  rw [e, List.set_append_right _ _ (by omega), hl, Nat.sub_self, List.set_cons_zero, List.take_succ_eq_append_getElem hi, getD_of hi]
  simp

theorem rturn_ok {H : AH} {x : Nat} {F : List Nat} {st : List Int} {K : AV → AH → Prop} (h : Rs H x F st)
    (hk : ∀ H', Rs H' x F (turnR st).2 → Keeps H F H' F → K (.v (.int .i64 (turnR st).1)) H') : CallOK Try.prog 30 [.ptr x 1 0 0] H K := by
  have hR := h
  refine CallOK.of_body Try.func30 nm30 rfl ?_; simp only [Try.ntmps30, List.length_cons, List.length_nil, argSt, Nat.reduceAdd, Nat.reduceSub]
  repeat' (first | ((first | refine Z.W0 ?_ | refine Z.X0 ?_); simp only [go_sem, seval, alen, aidx, aload]; try (simp (disch := omega) only [Z.w0]; try simp only [go_sem, seval, alen, aidx, aload])) | (refine hF _ _ ?_; clear hF F) | (refine Z.p0 ?_; simp only [St.put]) | refine Z.a0 ?_ | refine Z.b0 ?_ | refine Z.c0 ?_ | refine Z.d0 ?_ | refine Z.e0 ?_ | refine Z.f0 ?_ | refine Z.g0 ?_ | refine Z.h0 ?_ | refine Z.i0 rfl ?_ | refine Z.j0 ?_ | refine Z.k0 ?_ | refine Z.l0 ?_ | refine Z.m0 ?_ | refine Z.n0 ?_ | refine Z.o0 ?_ | refine Z.q0 rfl rfl fun F hF => ?_ | refine Z.r0 rfl rfl rfl rfl fun F hF => ?_ | refine Z.A0 rfl rfl rfl fun F hF => ?_ | refine Z.B0 rfl rfl rfl fun F hF => ?_ | refine Z.s0 rfl rfl rfl rfl ?_ | (refine Z.D0 ?_; simp only [St.put]) | refine Z.E0 rfl rfl rfl ?_ | refine Z.F0 rfl rfl rfl ?_ | (refine hF _ _ ?_ ?_ <;> clear hF F) | refine Z.T0 rfl ?_ | refine Z.U0 rfl ?_ | (refine Z.t0 rfl rfl rfl rfl ?_ ?_ <;> (intro hg; simp only [hg, Bool.not_true, Bool.not_false]; simp only [Z.x0] at hg)) | refine And.intro (by omega) ?_ | ((first | refine Z.G0 rfl rfl rfl rfl rfl ?_ ?_ | refine Z.M0 rfl rfl rfl rfl rfl ?_ ?_) <;> (intro hg; simp only [hg, Bool.not_true, Bool.not_false]; simp only [Z.x0] at hg)) | (refine Z.V0 rfl ?_ ?_ <;> (intro hc; try simp only [hc]; simp only [Z.x0] at hc)))
  refine W_loop [0, 3, 4] (fun n s H' => ∃ i : Nat, Rs H' x F (cur i st) ∧ Keeps H F H' F ∧ n + i = st.length ∧ s = [(0, .ptr x 1 0 0), (3, .v (.int .i64 (idx 2 0 (st.take i)).length)), (4, .v (.int .i64 i))]) st.length ?_ ?_
  · simp only [St.keep, St.get, reduceIte, Nat.reduceEqDiff]
    exact ⟨0, hR, .refl _ _, by omega, rfl⟩
  · rintro n s H' ⟨i, hR', hK, hni, rfl⟩
    have hp := hR.2
    obtain ⟨⟨bl, c, h1, h2, h3, rfl⟩, hp'⟩ := id hR'
    have hcl := cur_len i st
    cases n with
    | zero =>
      have d1 : decide ((i : Int) < ((cur i st).length : Int)) = false := by simp; omega
      repeat' (first | ((first | refine Z.W0 ?_ | refine Z.X0 ?_); simp only [go_sem, seval, alen, aidx, aload, d1, h1, h2]; try (simp (disch := omega) only [Z.w0]; try simp only [go_sem, seval, alen, aidx, aload, d1, h1, h2])) | (refine hF _ _ ?_; clear hF F) | (refine Z.p0 ?_; simp only [St.put]) | refine Z.a0 ?_ | refine Z.b0 ?_ | refine Z.c0 ?_ | refine Z.d0 ?_ | refine Z.e0 ?_ | refine Z.f0 ?_ | refine Z.g0 ?_ | refine Z.h0 ?_ | refine Z.i0 rfl ?_ | refine Z.j0 ?_ | refine Z.k0 ?_ | refine Z.l0 ?_ | refine Z.m0 ?_ | refine Z.n0 ?_ | refine Z.o0 ?_ | refine Z.q0 rfl rfl fun F hF => ?_ | refine Z.r0 rfl rfl rfl rfl fun F hF => ?_ | refine Z.A0 rfl rfl rfl fun F hF => ?_ | refine Z.B0 rfl rfl rfl fun F hF => ?_ | refine Z.s0 rfl rfl rfl rfl ?_ | (refine Z.D0 ?_; simp only [St.put]) | refine Z.E0 rfl rfl rfl ?_ | refine Z.F0 rfl rfl rfl ?_ | (refine hF _ _ ?_ ?_ <;> clear hF F) | refine Z.T0 rfl ?_ | refine Z.U0 rfl ?_ | (refine Z.t0 rfl rfl rfl rfl ?_ ?_ <;> (intro hg; simp only [hg, Bool.not_true, Bool.not_false]; simp only [Z.x0] at hg)) | refine And.intro (by omega) ?_ | ((first | refine Z.G0 rfl rfl rfl rfl rfl ?_ ?_ | refine Z.M0 rfl rfl rfl rfl rfl ?_ ?_) <;> (intro hg; simp only [hg, Bool.not_true, Bool.not_false]; simp only [Z.x0] at hg)) | (refine Z.V0 rfl ?_ ?_ <;> (intro hc; try simp only [hc]; simp only [Z.x0] at hc)))
      simp only [retK, ares, pack, Try.results30, St.get, reduceIte, Nat.reduceEqDiff, aload, arow, List.toArray, Array.toList]
      have e1 : cur i st = st.map t2 := by simp only [cur]; rw [List.take_of_length_le (by omega), List.drop_of_length_le (by omega), List.append_nil]
      rw [List.take_of_length_le (by omega)]
      rw [e1] at hR'
      exact hk _ hR' hK
    | succ n =>
      have d1 : decide ((i : Int) < ((cur i st).length : Int)) = true := by simp; omega
      have hi : i < st.length := by omega
      have hr := iv_row (xs := cur i st) (k := i) (by omega)
      rw [cur_at hi] at hr
      have w8 : IntKind.i64.wrap ((i : Int) + 1) = ((i + 1 : Nat) : Int) := by rw [wrap_of] <;> omega
      have i1 : (i : Int) < ((cur i st).length : Int) := by omega
      have hle := idx_le 2 0 (st.take i)
      simp only [List.length_take] at hle
      have hsucc := cur_succ hi
      by_cases g : st.getD i 0 = 2
      · have d2 : (st.getD i 0 == 2) = true := beq_iff_eq.2 g
        have w9 : IntKind.i64.wrap (((idx 2 0 (st.take i)).length : Int) + 1) = (((idx 2 0 (st.take i)).length + 1 : Nat) : Int) := by rw [wrap_of] <;> omega
        repeat' (first | ((first | refine Z.W0 ?_ | refine Z.X0 ?_); simp only [go_sem, seval, alen, aidx, aload, d1, d2, h1, h2, hr, i1, iv_set, w8, w9]; try (simp (disch := omega) only [Z.w0]; try simp only [go_sem, seval, alen, aidx, aload, d1, d2, h1, h2, hr, i1, iv_set, w8, w9])) | (refine hF _ _ ?_; clear hF F) | (refine Z.p0 ?_; simp only [St.put]) | refine Z.a0 ?_ | refine Z.b0 ?_ | refine Z.c0 ?_ | refine Z.d0 ?_ | refine Z.e0 ?_ | refine Z.f0 ?_ | refine Z.g0 ?_ | refine Z.h0 ?_ | refine Z.i0 rfl ?_ | refine Z.j0 ?_ | refine Z.k0 ?_ | refine Z.l0 ?_ | refine Z.m0 ?_ | refine Z.n0 ?_ | refine Z.o0 ?_ | refine Z.q0 rfl rfl fun F hF => ?_ | refine Z.r0 rfl rfl rfl rfl fun F hF => ?_ | refine Z.A0 rfl rfl rfl fun F hF => ?_ | refine Z.B0 rfl rfl rfl fun F hF => ?_ | refine Z.s0 rfl rfl rfl rfl ?_ | (refine Z.D0 ?_; simp only [St.put]) | refine Z.E0 rfl rfl rfl ?_ | refine Z.F0 rfl rfl rfl ?_ | (refine hF _ _ ?_ ?_ <;> clear hF F) | refine Z.T0 rfl ?_ | refine Z.U0 rfl ?_ | (refine Z.t0 rfl rfl rfl rfl ?_ ?_ <;> (intro hg; simp only [hg, Bool.not_true, Bool.not_false]; simp only [Z.x0] at hg)) | refine And.intro (by omega) ?_ | ((first | refine Z.G0 rfl rfl rfl rfl rfl ?_ ?_ | refine Z.M0 rfl rfl rfl rfl rfl ?_ ?_) <;> (intro hg; simp only [hg, Bool.not_true, Bool.not_false]; simp only [Z.x0] at hg)) | (refine Z.V0 rfl ?_ ?_ <;> (intro hc; try simp only [hc]; simp only [Z.x0] at hc)))
        simp only [loopK]
        simp only [St.keep, St.get, reduceIte, Nat.reduceEqDiff]
        obtain ⟨w1, w2⟩ := Rs.write h1 h3 hp' ((cur i st).set i 0) (by simp)
        rw [g] at hsucc
        refine ⟨n, by omega, i + 1, by rw [hsucc]; exact w1, hK.trans w2, by omega, ?_⟩
        rw [idx_take _ _ _ hi, if_pos g, List.length_append]
        rfl
      · have d2 : (st.getD i 0 == 2) = false := beq_eq_false_iff_ne.2 g
        repeat' (first | ((first | refine Z.W0 ?_ | refine Z.X0 ?_); simp only [go_sem, seval, alen, aidx, aload, d1, d2, h1, h2, hr, i1, iv_set, w8]; try (simp (disch := omega) only [Z.w0]; try simp only [go_sem, seval, alen, aidx, aload, d1, d2, h1, h2, hr, i1, iv_set, w8])) | (refine hF _ _ ?_; clear hF F) | (refine Z.p0 ?_; simp only [St.put]) | refine Z.a0 ?_ | refine Z.b0 ?_ | refine Z.c0 ?_ | refine Z.d0 ?_ | refine Z.e0 ?_ | refine Z.f0 ?_ | refine Z.g0 ?_ | refine Z.h0 ?_ | refine Z.i0 rfl ?_ | refine Z.j0 ?_ | refine Z.k0 ?_ | refine Z.l0 ?_ | refine Z.m0 ?_ | refine Z.n0 ?_ | refine Z.o0 ?_ | refine Z.q0 rfl rfl fun F hF => ?_ | refine Z.r0 rfl rfl rfl rfl fun F hF => ?_ | refine Z.A0 rfl rfl rfl fun F hF => ?_ | refine Z.B0 rfl rfl rfl fun F hF => ?_ | refine Z.s0 rfl rfl rfl rfl ?_ | (refine Z.D0 ?_; simp only [St.put]) | refine Z.E0 rfl rfl rfl ?_ | refine Z.F0 rfl rfl rfl ?_ | (refine hF _ _ ?_ ?_ <;> clear hF F) | refine Z.T0 rfl ?_ | refine Z.U0 rfl ?_ | (refine Z.t0 rfl rfl rfl rfl ?_ ?_ <;> (intro hg; simp only [hg, Bool.not_true, Bool.not_false]; simp only [Z.x0] at hg)) | refine And.intro (by omega) ?_ | ((first | refine Z.G0 rfl rfl rfl rfl rfl ?_ ?_ | refine Z.M0 rfl rfl rfl rfl rfl ?_ ?_) <;> (intro hg; simp only [hg, Bool.not_true, Bool.not_false]; simp only [Z.x0] at hg)) | (refine Z.V0 rfl ?_ ?_ <;> (intro hc; try simp only [hc]; simp only [Z.x0] at hc)))
        simp only [loopK]
        simp only [St.keep, St.get, reduceIte, Nat.reduceEqDiff]
        have e : cur (i + 1) st = cur i st := by
          rw [hsucc, t2, if_neg g, ← cur_at hi, ← getD_of (show i < (cur i st).length by omega)]
          exact List.set_getElem_self _
        refine ⟨n, by omega, i + 1, by rw [e]; exact hR', hK, by omega, ?_⟩
        rw [idx_take _ _ _ hi, if_neg g]

/-- A vector that was made since. -/
def Own1 (H H' : AH) (oy : Option Nat) : Prop := (∀ q, (H q).isSome = true → H' q = H q) ∧ ∀ q, oy = some q → H q = none
theorem Own1.app {H H' : AH} {oy : Option Nat} {b' : Nat} {o : AObj} (h : Own1 H H' oy) (hf : fresh (delO H' oy) b') : Own1 H ((delO H' oy).set b' o) (some b') := by
  have key : ∀ q, (H q).isSome = true → oy ≠ some q ∧ q ≠ b' := by
    intro q hq
    have h1 : oy ≠ some q := fun e => by rw [h.2 q e] at hq; cases hq
    refine ⟨h1, ?_⟩
    rintro rfl
    have := delO_ne (H := H') h1
    rw [hf, h.1 q hq] at this
    rw [← this] at hq
    cases hq
  refine ⟨fun q hq => ?_, fun q e => ?_⟩
  · obtain ⟨h1, h2⟩ := key q hq
    rw [AH.set_ne _ _ h2, delO_ne h1, h.1 q hq]
  · cases e
    cases hq : H b' with
    | none => rfl
    | some o => exact absurd rfl (key b' (by rw [hq]; rfl)).2

theorem rare_ok {H : AH} {x : Nat} {F : List Nat} {st : List Int} {v : Int} {K : AV → AH → Prop} (h : Rs H x F st)
    (hk : ∀ H' oy, Vec H' oy (idx v 0 st) → Own1 H H' oy → K (.ov oy 0 1 (idx v 0 st).length none) H') : CallOK Try.prog 31 [.ptr x 1 0 0, .v (.int .i64 v)] H K := by
  refine CallOK.weak (K := fun r H' => ∃ oy, VecA H' r oy (idx v 0 st) ∧ Own1 H H' oy) ?_ (fun r H' ⟨oy, h1, h2⟩ => ⟨_, h1.weak.1, hk H' oy h1.weak.2 h2⟩)
  have hR := h
  obtain ⟨⟨bl, c, h1, h2, h3, rfl⟩, hp⟩ := h
  refine CallOK.of_body Try.func31 nm31 rfl ?_; simp only [Try.ntmps31, List.length_cons, List.length_nil, argSt, Nat.reduceAdd, Nat.reduceSub]
  repeat' (first | ((first | refine Z.W0 ?_ | refine Z.X0 ?_); simp only [go_sem, seval, alen, aidx, aload]; try (simp (disch := omega) only [Z.w0]; try simp only [go_sem, seval, alen, aidx, aload])) | (refine hF _ _ ?_; clear hF F) | (refine Z.p0 ?_; simp only [St.put]) | refine Z.a0 ?_ | refine Z.b0 ?_ | refine Z.c0 ?_ | refine Z.d0 ?_ | refine Z.e0 ?_ | refine Z.f0 ?_ | refine Z.g0 ?_ | refine Z.h0 ?_ | refine Z.i0 rfl ?_ | refine Z.j0 ?_ | refine Z.k0 ?_ | refine Z.l0 ?_ | refine Z.m0 ?_ | refine Z.n0 ?_ | refine Z.o0 ?_ | refine Z.q0 rfl rfl fun F hF => ?_ | refine Z.r0 rfl rfl rfl rfl fun F hF => ?_ | refine Z.A0 rfl rfl rfl fun F hF => ?_ | refine Z.B0 rfl rfl rfl fun F hF => ?_ | refine Z.s0 rfl rfl rfl rfl ?_ | (refine Z.D0 ?_; simp only [St.put]) | refine Z.E0 rfl rfl rfl ?_ | refine Z.F0 rfl rfl rfl ?_ | (refine hF _ _ ?_ ?_ <;> clear hF F) | refine Z.T0 rfl ?_ | refine Z.U0 rfl ?_ | (refine Z.t0 rfl rfl rfl rfl ?_ ?_ <;> (intro hg; simp only [hg, Bool.not_true, Bool.not_false]; simp only [Z.x0] at hg)) | refine And.intro (by omega) ?_ | ((first | refine Z.G0 rfl rfl rfl rfl rfl ?_ ?_ | refine Z.M0 rfl rfl rfl rfl rfl ?_ ?_) <;> (intro hg; simp only [hg, Bool.not_true, Bool.not_false]; simp only [Z.x0] at hg)) | (refine Z.V0 rfl ?_ ?_ <;> (intro hc; try simp only [hc]; simp only [Z.x0] at hc)))
  refine W_loop [0, 1, 5, 6] (fun n s H' => ∃ (i : Nat) (y : AV) (oy : Option Nat), VecA H' y oy (idx v 0 (st.take i)) ∧ Own1 H H' oy ∧ n + i = st.length ∧
    s = [(0, .ptr x 1 0 0), (1, .v (.int .i64 v)), (5, y), (6, .v (.int .i64 i))]) st.length ?_ ?_
  · simp only [St.keep, St.get, reduceIte, Nat.reduceEqDiff]
    exact ⟨0, _, none, .inr ⟨rfl, rfl, rfl⟩, ⟨fun _ _ => rfl, fun q e => by cases e⟩, by omega, rfl⟩
  · rintro n s H' ⟨i, y, oy, hV, hO, hni, rfl⟩
    have e1 := hO.1 x (by rw [h1]; rfl)
    have e2 := hO.1 bl (by rw [h2]; rfl)
    rw [h1] at e1
    rw [h2] at e2
    cases n with
    | zero =>
      have d1 : decide ((i : Int) < (st.length : Int)) = false := by simp; omega
      repeat' (first | ((first | refine Z.W0 ?_ | refine Z.X0 ?_); simp only [go_sem, seval, alen, aidx, aload, d1, e1, e2]; try (simp (disch := omega) only [Z.w0]; try simp only [go_sem, seval, alen, aidx, aload, d1, e1, e2])) | (refine hF _ _ ?_; clear hF F) | (refine Z.p0 ?_; simp only [St.put]) | refine Z.a0 ?_ | refine Z.b0 ?_ | refine Z.c0 ?_ | refine Z.d0 ?_ | refine Z.e0 ?_ | refine Z.f0 ?_ | refine Z.g0 ?_ | refine Z.h0 ?_ | refine Z.i0 rfl ?_ | refine Z.j0 ?_ | refine Z.k0 ?_ | refine Z.l0 ?_ | refine Z.m0 ?_ | refine Z.n0 ?_ | refine Z.o0 ?_ | refine Z.q0 rfl rfl fun F hF => ?_ | refine Z.r0 rfl rfl rfl rfl fun F hF => ?_ | refine Z.A0 rfl rfl rfl fun F hF => ?_ | refine Z.B0 rfl rfl rfl fun F hF => ?_ | refine Z.s0 rfl rfl rfl rfl ?_ | (refine Z.D0 ?_; simp only [St.put]) | refine Z.E0 rfl rfl rfl ?_ | refine Z.F0 rfl rfl rfl ?_ | (refine hF _ _ ?_ ?_ <;> clear hF F) | refine Z.T0 rfl ?_ | refine Z.U0 rfl ?_ | (refine Z.t0 rfl rfl rfl rfl ?_ ?_ <;> (intro hg; simp only [hg, Bool.not_true, Bool.not_false]; simp only [Z.x0] at hg)) | refine And.intro (by omega) ?_ | ((first | refine Z.G0 rfl rfl rfl rfl rfl ?_ ?_ | refine Z.M0 rfl rfl rfl rfl rfl ?_ ?_) <;> (intro hg; simp only [hg, Bool.not_true, Bool.not_false]; simp only [Z.x0] at hg)) | (refine Z.V0 rfl ?_ ?_ <;> (intro hc; try simp only [hc]; simp only [Z.x0] at hc)))
      simp only [retK, ares, pack, Try.results31, St.get, reduceIte, Nat.reduceEqDiff, aload, arow, List.toArray, Array.toList]
      rw [List.take_of_length_le (by omega)] at hV
      exact ⟨oy, hV, hO⟩
    | succ n =>
      have d1 : decide ((i : Int) < (st.length : Int)) = true := by simp; omega
      have hi : i < st.length := by omega
      have hr := iv_row hi
      have w8 : IntKind.i64.wrap ((i : Int) + 1) = ((i + 1 : Nat) : Int) := by rw [wrap_of] <;> omega
      have i1 : (i : Int) < (st.length : Int) := by omega
      have hle := idx_le v 0 (st.take i)
      simp only [List.length_take] at hle
      by_cases g : st.getD i 0 = v
      · have d2 : (st.getD i 0 == v) = true := beq_iff_eq.2 g
        repeat' (first | ((first | refine Z.W0 ?_ | refine Z.X0 ?_); simp only [go_sem, seval, alen, aidx, aload, d1, d2, e1, e2, hr, i1, w8]; try (simp (disch := omega) only [Z.w0]; try simp only [go_sem, seval, alen, aidx, aload, d1, d2, e1, e2, hr, i1, w8])) | (refine hF _ _ ?_; clear hF F) | (refine Z.p0 ?_; simp only [St.put]) | refine Z.a0 ?_ | refine Z.b0 ?_ | refine Z.c0 ?_ | refine Z.d0 ?_ | refine Z.e0 ?_ | refine Z.f0 ?_ | refine Z.g0 ?_ | refine Z.h0 ?_ | refine Z.i0 rfl ?_ | refine Z.j0 ?_ | refine Z.k0 ?_ | refine Z.l0 ?_ | refine Z.m0 ?_ | refine Z.n0 ?_ | refine Z.o0 ?_ | refine Z.q0 rfl rfl fun F hF => ?_ | refine Z.r0 rfl rfl rfl rfl fun F hF => ?_ | refine Z.A0 rfl rfl rfl fun F hF => ?_ | refine Z.B0 rfl rfl rfl fun F hF => ?_ | refine Z.s0 rfl rfl rfl rfl ?_ | (refine Z.D0 ?_; simp only [St.put]) | refine Z.E0 rfl rfl rfl ?_ | refine Z.F0 rfl rfl rfl ?_ | (refine hF _ _ ?_ ?_ <;> clear hF F) | refine Z.T0 rfl ?_ | refine Z.U0 rfl ?_ | (refine Z.t0 rfl rfl rfl rfl ?_ ?_ <;> (intro hg; simp only [hg, Bool.not_true, Bool.not_false]; simp only [Z.x0] at hg)) | refine And.intro (by omega) ?_ | ((first | refine Z.G0 rfl rfl rfl rfl rfl ?_ ?_ | refine Z.M0 rfl rfl rfl rfl rfl ?_ ?_) <;> (intro hg; simp only [hg, Bool.not_true, Bool.not_false]; simp only [Z.x0] at hg)) | (refine Z.V0 rfl ?_ ?_ <;> (intro hc; try simp only [hc]; simp only [Z.x0] at hc)))
        refine app_int Try.underlying22 hV (by omega) fun b' hf => ?_
        refine hF _ _ ?_
        clear hF F
        repeat' (first | ((first | refine Z.W0 ?_ | refine Z.X0 ?_); simp only [go_sem, seval, alen, aidx, aload, w8]; try (simp (disch := omega) only [Z.w0]; try simp only [go_sem, seval, alen, aidx, aload, w8])) | (refine hF _ _ ?_; clear hF F) | (refine Z.p0 ?_; simp only [St.put]) | refine Z.a0 ?_ | refine Z.b0 ?_ | refine Z.c0 ?_ | refine Z.d0 ?_ | refine Z.e0 ?_ | refine Z.f0 ?_ | refine Z.g0 ?_ | refine Z.h0 ?_ | refine Z.i0 rfl ?_ | refine Z.j0 ?_ | refine Z.k0 ?_ | refine Z.l0 ?_ | refine Z.m0 ?_ | refine Z.n0 ?_ | refine Z.o0 ?_ | refine Z.q0 rfl rfl fun F hF => ?_ | refine Z.r0 rfl rfl rfl rfl fun F hF => ?_ | refine Z.A0 rfl rfl rfl fun F hF => ?_ | refine Z.B0 rfl rfl rfl fun F hF => ?_ | refine Z.s0 rfl rfl rfl rfl ?_ | (refine Z.D0 ?_; simp only [St.put]) | refine Z.E0 rfl rfl rfl ?_ | refine Z.F0 rfl rfl rfl ?_ | (refine hF _ _ ?_ ?_ <;> clear hF F) | refine Z.T0 rfl ?_ | refine Z.U0 rfl ?_ | (refine Z.t0 rfl rfl rfl rfl ?_ ?_ <;> (intro hg; simp only [hg, Bool.not_true, Bool.not_false]; simp only [Z.x0] at hg)) | refine And.intro (by omega) ?_ | ((first | refine Z.G0 rfl rfl rfl rfl rfl ?_ ?_ | refine Z.M0 rfl rfl rfl rfl rfl ?_ ?_) <;> (intro hg; simp only [hg, Bool.not_true, Bool.not_false]; simp only [Z.x0] at hg)) | (refine Z.V0 rfl ?_ ?_ <;> (intro hc; try simp only [hc]; simp only [Z.x0] at hc)))
        simp only [loopK]
        simp only [St.keep, St.get, reduceIte, Nat.reduceEqDiff]
        refine ⟨n, by omega, i + 1, _, some b', ?_, hO.app hf, by omega, rfl⟩
        rw [idx_take _ _ _ hi, if_pos g]
        exact .inl ⟨by simp, [], by rw [AH.set_same, List.append_nil]⟩
      · have d2 : (st.getD i 0 == v) = false := beq_eq_false_iff_ne.2 g
        repeat' (first | ((first | refine Z.W0 ?_ | refine Z.X0 ?_); simp only [go_sem, seval, alen, aidx, aload, d1, d2, e1, e2, hr, i1, w8]; try (simp (disch := omega) only [Z.w0]; try simp only [go_sem, seval, alen, aidx, aload, d1, d2, e1, e2, hr, i1, w8])) | (refine hF _ _ ?_; clear hF F) | (refine Z.p0 ?_; simp only [St.put]) | refine Z.a0 ?_ | refine Z.b0 ?_ | refine Z.c0 ?_ | refine Z.d0 ?_ | refine Z.e0 ?_ | refine Z.f0 ?_ | refine Z.g0 ?_ | refine Z.h0 ?_ | refine Z.i0 rfl ?_ | refine Z.j0 ?_ | refine Z.k0 ?_ | refine Z.l0 ?_ | refine Z.m0 ?_ | refine Z.n0 ?_ | refine Z.o0 ?_ | refine Z.q0 rfl rfl fun F hF => ?_ | refine Z.r0 rfl rfl rfl rfl fun F hF => ?_ | refine Z.A0 rfl rfl rfl fun F hF => ?_ | refine Z.B0 rfl rfl rfl fun F hF => ?_ | refine Z.s0 rfl rfl rfl rfl ?_ | (refine Z.D0 ?_; simp only [St.put]) | refine Z.E0 rfl rfl rfl ?_ | refine Z.F0 rfl rfl rfl ?_ | (refine hF _ _ ?_ ?_ <;> clear hF F) | refine Z.T0 rfl ?_ | refine Z.U0 rfl ?_ | (refine Z.t0 rfl rfl rfl rfl ?_ ?_ <;> (intro hg; simp only [hg, Bool.not_true, Bool.not_false]; simp only [Z.x0] at hg)) | refine And.intro (by omega) ?_ | ((first | refine Z.G0 rfl rfl rfl rfl rfl ?_ ?_ | refine Z.M0 rfl rfl rfl rfl rfl ?_ ?_) <;> (intro hg; simp only [hg, Bool.not_true, Bool.not_false]; simp only [Z.x0] at hg)) | (refine Z.V0 rfl ?_ ?_ <;> (intro hc; try simp only [hc]; simp only [Z.x0] at hc)))
        simp only [loopK]
        simp only [St.keep, St.get, reduceIte, Nat.reduceEqDiff]
        exact ⟨n, by omega, i + 1, y, oy, by rw [idx_take _ _ _ hi, if_neg g]; exact hV, hO, by omega, rfl⟩

theorem rclone_ok {H : AH} {x : Nat} {F : List Nat} {st : List Int} {K : AV → AH → Prop} (h : Rs H x F st)
    (hk : ∀ H' x' F', Rs H' x' F' st → Keeps H [] H' F' → K (.ptr x' 1 0 0) H') : CallOK Try.prog 19 [.ptr x 1 0 0] H K := by
  obtain ⟨⟨bl, c, h1, h2, h3, rfl⟩, hp⟩ := h
  refine CallOK.of_body Try.func19 nm19 rfl ?_; simp only [Try.ntmps19, List.length_cons, List.length_nil, argSt, Nat.reduceAdd, Nat.reduceSub]
  repeat' (first | ((first | refine Z.W0 ?_ | refine Z.X0 ?_); simp only [go_sem, seval, alen, aidx, aload, h1, h2, List.replicate]; try (simp (disch := omega) only [Z.w0]; try simp only [go_sem, seval, alen, aidx, aload, h1, h2, List.replicate])) | (refine hF _ _ ?_; clear hF F) | (refine Z.p0 ?_; simp only [St.put]) | refine Z.a0 ?_ | refine Z.b0 ?_ | refine Z.c0 ?_ | refine Z.d0 ?_ | refine Z.e0 ?_ | refine Z.f0 ?_ | refine Z.g0 ?_ | refine Z.h0 ?_ | refine Z.i0 rfl ?_ | refine Z.j0 ?_ | refine Z.k0 ?_ | refine Z.l0 ?_ | refine Z.m0 ?_ | refine Z.n0 ?_ | refine Z.o0 ?_ | refine Z.q0 rfl rfl fun F hF => ?_ | refine Z.r0 rfl rfl rfl rfl fun F hF => ?_ | refine Z.A0 rfl rfl rfl fun F hF => ?_ | refine Z.B0 rfl rfl rfl fun F hF => ?_ | refine Z.s0 rfl rfl rfl rfl ?_ | (refine Z.D0 ?_; simp only [St.put]) | refine Z.E0 rfl rfl rfl ?_ | refine Z.F0 rfl rfl rfl ?_ | (refine hF _ _ ?_ ?_ <;> clear hF F) | refine Z.T0 rfl ?_ | refine Z.U0 rfl ?_ | (refine Z.t0 rfl rfl rfl rfl ?_ ?_ <;> (intro hg; simp only [hg, Bool.not_true, Bool.not_false]; simp only [Z.x0] at hg)) | refine And.intro (by omega) ?_ | ((first | refine Z.G0 rfl rfl rfl rfl rfl ?_ ?_ | refine Z.M0 rfl rfl rfl rfl rfl ?_ ?_) <;> (intro hg; simp only [hg, Bool.not_true, Bool.not_false]; simp only [Z.x0] at hg)) | (refine Z.V0 rfl ?_ ?_ <;> (intro hc; try simp only [hc]; simp only [Z.x0] at hc)))
  have ht : (iv st).take st.length = iv st := List.take_of_length_le (by rw [iv_len]; omega)
  have hx : iv st = [] ↔ False := by simp [iv]; intro e; subst e; simp at hp
  simp only [go_sem, seval, alen, aidx, aload, aapp, asrc, adst, Try.underlying22, ze3, cl3, by3, allCell, h2, ht, iv_len, hx]
  refine ⟨by omega, by omega, by omega, fun ob g1 g2 => ?_⟩
  cases ob with
  | none => exact absurd rfl g2
  | some b' =>
    have hf := g1 b' rfl
    refine hF _ _ ?_
    clear hF F
    repeat' (first | ((first | refine Z.W0 ?_ | refine Z.X0 ?_); simp only [go_sem, seval, alen, aidx, aload, AH.own, List.take, List.drop]; try (simp (disch := omega) only [Z.w0]; try simp only [go_sem, seval, alen, aidx, aload, AH.own, List.take, List.drop])) | (refine hF _ _ ?_; clear hF F) | (refine Z.p0 ?_; simp only [St.put]) | refine Z.a0 ?_ | refine Z.b0 ?_ | refine Z.c0 ?_ | refine Z.d0 ?_ | refine Z.e0 ?_ | refine Z.f0 ?_ | refine Z.g0 ?_ | refine Z.h0 ?_ | refine Z.i0 rfl ?_ | refine Z.j0 ?_ | refine Z.k0 ?_ | refine Z.l0 ?_ | refine Z.m0 ?_ | refine Z.n0 ?_ | refine Z.o0 ?_ | refine Z.q0 rfl rfl fun F hF => ?_ | refine Z.r0 rfl rfl rfl rfl fun F hF => ?_ | refine Z.A0 rfl rfl rfl fun F hF => ?_ | refine Z.B0 rfl rfl rfl fun F hF => ?_ | refine Z.s0 rfl rfl rfl rfl ?_ | (refine Z.D0 ?_; simp only [St.put]) | refine Z.E0 rfl rfl rfl ?_ | refine Z.F0 rfl rfl rfl ?_ | (refine hF _ _ ?_ ?_ <;> clear hF F) | refine Z.T0 rfl ?_ | refine Z.U0 rfl ?_ | (refine Z.t0 rfl rfl rfl rfl ?_ ?_ <;> (intro hg; simp only [hg, Bool.not_true, Bool.not_false]; simp only [Z.x0] at hg)) | refine And.intro (by omega) ?_ | ((first | refine Z.G0 rfl rfl rfl rfl rfl ?_ ?_ | refine Z.M0 rfl rfl rfl rfl rfl ?_ ?_) <;> (intro hg; simp only [hg, Bool.not_true, Bool.not_false]; simp only [Z.x0] at hg)) | (refine Z.V0 rfl ?_ ?_ <;> (intro hc; try simp only [hc]; simp only [Z.x0] at hc)))
    rintro x' hx'
    refine hF _ _ ?_
    clear hF F
    repeat' (first | ((first | refine Z.W0 ?_ | refine Z.X0 ?_); simp only [go_sem, seval, alen, aidx, aload]; try (simp (disch := omega) only [Z.w0]; try simp only [go_sem, seval, alen, aidx, aload])) | (refine hF _ _ ?_; clear hF F) | (refine Z.p0 ?_; simp only [St.put]) | refine Z.a0 ?_ | refine Z.b0 ?_ | refine Z.c0 ?_ | refine Z.d0 ?_ | refine Z.e0 ?_ | refine Z.f0 ?_ | refine Z.g0 ?_ | refine Z.h0 ?_ | refine Z.i0 rfl ?_ | refine Z.j0 ?_ | refine Z.k0 ?_ | refine Z.l0 ?_ | refine Z.m0 ?_ | refine Z.n0 ?_ | refine Z.o0 ?_ | refine Z.q0 rfl rfl fun F hF => ?_ | refine Z.r0 rfl rfl rfl rfl fun F hF => ?_ | refine Z.A0 rfl rfl rfl fun F hF => ?_ | refine Z.B0 rfl rfl rfl fun F hF => ?_ | refine Z.s0 rfl rfl rfl rfl ?_ | (refine Z.D0 ?_; simp only [St.put]) | refine Z.E0 rfl rfl rfl ?_ | refine Z.F0 rfl rfl rfl ?_ | (refine hF _ _ ?_ ?_ <;> clear hF F) | refine Z.T0 rfl ?_ | refine Z.U0 rfl ?_ | (refine Z.t0 rfl rfl rfl rfl ?_ ?_ <;> (intro hg; simp only [hg, Bool.not_true, Bool.not_false]; simp only [Z.x0] at hg)) | refine And.intro (by omega) ?_ | ((first | refine Z.G0 rfl rfl rfl rfl rfl ?_ ?_ | refine Z.M0 rfl rfl rfl rfl rfl ?_ ?_) <;> (intro hg; simp only [hg, Bool.not_true, Bool.not_false]; simp only [Z.x0] at hg)) | (refine Z.V0 rfl ?_ ?_ <;> (intro hc; try simp only [hc]; simp only [Z.x0] at hc)))
    simp only [retK, ares, pack, Try.results19, St.get, reduceIte, Nat.reduceEqDiff, aload, arow, List.toArray, Array.toList]
    have n1 : x' ≠ b' := by rintro rfl; rw [fresh, AH.set_same] at hx'; cases hx'
    have hx0 : H x' = none := by rw [fresh, AH.set_ne _ _ n1] at hx'; exact hx'
    refine hk _ x' [x', b'] ⟨⟨b', none, AH.set_same .., ?_, n1, rfl⟩, hp⟩ ⟨fun q _ hq => ?_, fun q hq => .inr ?_⟩
    · rw [AH.set_ne _ _ n1.symm, AH.set_same]
    · rw [AH.set_ne, AH.set_ne]
      · rintro rfl; rw [hf] at hq; cases hq
      · rintro rfl; rw [hx0] at hq; cases hq
    · simp only [List.mem_cons, List.not_mem_nil, or_false] at hq
      rcases hq with rfl | rfl
      · exact hx0
      · exact hf

theorem rnew_ok {H : AH} {pages : Int} {us : List Int} {K : AV → AH → Prop} (hbig : us.length ≤ 1000000000)
    (k1 : ∀ st H' x F, newOf pages us = some st → Rs H' x F st → Keeps H [] H' F → K (.tup [.ptr x 1 0 0, .v (.int .i64 0)]) H')
    (k2 : ∀ H', newOf pages us = none → Keeps H [] H' [] → K (.tup [.v (.pointer none), .v (.int .i64 1)]) H') :
    CallOK Try.prog 17 [.v (.int .i64 pages), .imm 1 (iv us)] H K := by
  refine CallOK.of_body Try.func17 nm17 rfl ?_; simp only [Try.ntmps17, List.length_cons, List.length_nil, argSt, Nat.reduceAdd, Nat.reduceSub]
  by_cases hp1 : pages < 1
  · have d1 : decide (pages < 1) = true := decide_eq_true hp1
    repeat' (first | ((first | refine Z.W0 ?_ | refine Z.X0 ?_); simp only [go_sem, seval, alen, aidx, aload, d1]; try (simp (disch := omega) only [Z.w0]; try simp only [go_sem, seval, alen, aidx, aload, d1])) | (refine hF _ _ ?_; clear hF F) | (refine Z.p0 ?_; simp only [St.put]) | refine Z.a0 ?_ | refine Z.b0 ?_ | refine Z.c0 ?_ | refine Z.d0 ?_ | refine Z.e0 ?_ | refine Z.f0 ?_ | refine Z.g0 ?_ | refine Z.h0 ?_ | refine Z.i0 rfl ?_ | refine Z.j0 ?_ | refine Z.k0 ?_ | refine Z.l0 ?_ | refine Z.m0 ?_ | refine Z.n0 ?_ | refine Z.o0 ?_ | refine Z.q0 rfl rfl fun F hF => ?_ | refine Z.r0 rfl rfl rfl rfl fun F hF => ?_ | refine Z.A0 rfl rfl rfl fun F hF => ?_ | refine Z.B0 rfl rfl rfl fun F hF => ?_ | refine Z.s0 rfl rfl rfl rfl ?_ | (refine Z.D0 ?_; simp only [St.put]) | refine Z.E0 rfl rfl rfl ?_ | refine Z.F0 rfl rfl rfl ?_ | (refine hF _ _ ?_ ?_ <;> clear hF F) | refine Z.T0 rfl ?_ | refine Z.U0 rfl ?_ | (refine Z.t0 rfl rfl rfl rfl ?_ ?_ <;> (intro hg; simp only [hg, Bool.not_true, Bool.not_false]; simp only [Z.x0] at hg)) | refine And.intro (by omega) ?_ | ((first | refine Z.G0 rfl rfl rfl rfl rfl ?_ ?_ | refine Z.M0 rfl rfl rfl rfl rfl ?_ ?_) <;> (intro hg; simp only [hg, Bool.not_true, Bool.not_false]; simp only [Z.x0] at hg)) | (refine Z.V0 rfl ?_ ?_ <;> (intro hc; try simp only [hc]; simp only [Z.x0] at hc)))
    simp only [retK, ares, pack, Try.results17, St.get, reduceIte, Nat.reduceEqDiff, aload, arow, List.toArray, Array.toList]
    exact k2 _ (by rw [newOf, if_pos (.inl hp1)]) (.refl _ _)
  · have d1 : decide (pages < 1) = false := decide_eq_false hp1
    by_cases hp2 : pages > 65536
    · have d2 : decide (pages > 65536) = true := decide_eq_true hp2
      repeat' (first | ((first | refine Z.W0 ?_ | refine Z.X0 ?_); simp only [go_sem, seval, alen, aidx, aload, d1, d2]; try (simp (disch := omega) only [Z.w0]; try simp only [go_sem, seval, alen, aidx, aload, d1, d2])) | (refine hF _ _ ?_; clear hF F) | (refine Z.p0 ?_; simp only [St.put]) | refine Z.a0 ?_ | refine Z.b0 ?_ | refine Z.c0 ?_ | refine Z.d0 ?_ | refine Z.e0 ?_ | refine Z.f0 ?_ | refine Z.g0 ?_ | refine Z.h0 ?_ | refine Z.i0 rfl ?_ | refine Z.j0 ?_ | refine Z.k0 ?_ | refine Z.l0 ?_ | refine Z.m0 ?_ | refine Z.n0 ?_ | refine Z.o0 ?_ | refine Z.q0 rfl rfl fun F hF => ?_ | refine Z.r0 rfl rfl rfl rfl fun F hF => ?_ | refine Z.A0 rfl rfl rfl fun F hF => ?_ | refine Z.B0 rfl rfl rfl fun F hF => ?_ | refine Z.s0 rfl rfl rfl rfl ?_ | (refine Z.D0 ?_; simp only [St.put]) | refine Z.E0 rfl rfl rfl ?_ | refine Z.F0 rfl rfl rfl ?_ | (refine hF _ _ ?_ ?_ <;> clear hF F) | refine Z.T0 rfl ?_ | refine Z.U0 rfl ?_ | (refine Z.t0 rfl rfl rfl rfl ?_ ?_ <;> (intro hg; simp only [hg, Bool.not_true, Bool.not_false]; simp only [Z.x0] at hg)) | refine And.intro (by omega) ?_ | ((first | refine Z.G0 rfl rfl rfl rfl rfl ?_ ?_ | refine Z.M0 rfl rfl rfl rfl rfl ?_ ?_) <;> (intro hg; simp only [hg, Bool.not_true, Bool.not_false]; simp only [Z.x0] at hg)) | (refine Z.V0 rfl ?_ ?_ <;> (intro hc; try simp only [hc]; simp only [Z.x0] at hc)))
      simp only [retK, ares, pack, Try.results17, St.get, reduceIte, Nat.reduceEqDiff, aload, arow, List.toArray, Array.toList]
      exact k2 _ (by rw [newOf, if_pos (.inr hp2)]) (.refl _ _)
    · have d2 : decide (pages > 65536) = false := decide_eq_false hp2
      have hno : newOf pages us = newGo us (List.replicate pages.toNat 0) := by rw [newOf, if_neg (by omega)]
      have hpz : List.replicate pages.toNat [AV.v (.int .i64 0)] = iv (List.replicate pages.toNat 0) := by simp [iv]
      have hpn : ((pages.toNat : Nat) : Int) = pages := by omega
      repeat' (first | ((first | refine Z.W0 ?_ | refine Z.X0 ?_); simp only [go_sem, seval, alen, aidx, aload, d1, d2]; try (simp (disch := omega) only [Z.w0]; try simp only [go_sem, seval, alen, aidx, aload, d1, d2])) | (refine hF _ _ ?_; clear hF F) | (refine Z.p0 ?_; simp only [St.put]) | refine Z.a0 ?_ | refine Z.b0 ?_ | refine Z.c0 ?_ | refine Z.d0 ?_ | refine Z.e0 ?_ | refine Z.f0 ?_ | refine Z.g0 ?_ | refine Z.h0 ?_ | refine Z.i0 rfl ?_ | refine Z.j0 ?_ | refine Z.k0 ?_ | refine Z.l0 ?_ | refine Z.m0 ?_ | refine Z.n0 ?_ | refine Z.o0 ?_ | refine Z.q0 rfl rfl fun F hF => ?_ | refine Z.r0 rfl rfl rfl rfl fun F hF => ?_ | refine Z.A0 rfl rfl rfl fun F hF => ?_ | refine Z.B0 rfl rfl rfl fun F hF => ?_ | refine Z.s0 rfl rfl rfl rfl ?_ | (refine Z.D0 ?_; simp only [St.put]) | refine Z.E0 rfl rfl rfl ?_ | refine Z.F0 rfl rfl rfl ?_ | (refine hF _ _ ?_ ?_ <;> clear hF F) | refine Z.T0 rfl ?_ | refine Z.U0 rfl ?_ | (refine Z.t0 rfl rfl rfl rfl ?_ ?_ <;> (intro hg; simp only [hg, Bool.not_true, Bool.not_false]; simp only [Z.x0] at hg)) | refine And.intro (by omega) ?_ | ((first | refine Z.G0 rfl rfl rfl rfl rfl ?_ ?_ | refine Z.M0 rfl rfl rfl rfl rfl ?_ ?_) <;> (intro hg; simp only [hg, Bool.not_true, Bool.not_false]; simp only [Z.x0] at hg)) | (refine Z.V0 rfl ?_ ?_ <;> (intro hc; try simp only [hc]; simp only [Z.x0] at hc)))
      rintro bl hf1
      refine hF _ _ ?_
      clear hF F
      repeat' (first | ((first | refine Z.W0 ?_ | refine Z.X0 ?_); simp only [go_sem, seval, alen, aidx, aload, List.take, List.drop]; try (simp (disch := omega) only [Z.w0]; try simp only [go_sem, seval, alen, aidx, aload, List.take, List.drop])) | (refine hF _ _ ?_; clear hF F) | (refine Z.p0 ?_; simp only [St.put]) | refine Z.a0 ?_ | refine Z.b0 ?_ | refine Z.c0 ?_ | refine Z.d0 ?_ | refine Z.e0 ?_ | refine Z.f0 ?_ | refine Z.g0 ?_ | refine Z.h0 ?_ | refine Z.i0 rfl ?_ | refine Z.j0 ?_ | refine Z.k0 ?_ | refine Z.l0 ?_ | refine Z.m0 ?_ | refine Z.n0 ?_ | refine Z.o0 ?_ | refine Z.q0 rfl rfl fun F hF => ?_ | refine Z.r0 rfl rfl rfl rfl fun F hF => ?_ | refine Z.A0 rfl rfl rfl fun F hF => ?_ | refine Z.B0 rfl rfl rfl fun F hF => ?_ | refine Z.s0 rfl rfl rfl rfl ?_ | (refine Z.D0 ?_; simp only [St.put]) | refine Z.E0 rfl rfl rfl ?_ | refine Z.F0 rfl rfl rfl ?_ | (refine hF _ _ ?_ ?_ <;> clear hF F) | refine Z.T0 rfl ?_ | refine Z.U0 rfl ?_ | (refine Z.t0 rfl rfl rfl rfl ?_ ?_ <;> (intro hg; simp only [hg, Bool.not_true, Bool.not_false]; simp only [Z.x0] at hg)) | refine And.intro (by omega) ?_ | ((first | refine Z.G0 rfl rfl rfl rfl rfl ?_ ?_ | refine Z.M0 rfl rfl rfl rfl rfl ?_ ?_) <;> (intro hg; simp only [hg, Bool.not_true, Bool.not_false]; simp only [Z.x0] at hg)) | (refine Z.V0 rfl ?_ ?_ <;> (intro hc; try simp only [hc]; simp only [Z.x0] at hc)))
      rintro x hf
      refine hF _ _ ?_
      clear hF F
      rw [hpz]
      have hbb : x ≠ bl := by rintro rfl; rw [fresh, AH.set_same] at hf; cases hf
      have hf' : H x = none := by rw [fresh, AH.set_ne _ _ hbb] at hf; exact hf
      repeat' (first | ((first | refine Z.W0 ?_ | refine Z.X0 ?_); simp only [go_sem, seval, alen, aidx, aload]; try (simp (disch := omega) only [Z.w0]; try simp only [go_sem, seval, alen, aidx, aload])) | (refine hF _ _ ?_; clear hF F) | (refine Z.p0 ?_; simp only [St.put]) | refine Z.a0 ?_ | refine Z.b0 ?_ | refine Z.c0 ?_ | refine Z.d0 ?_ | refine Z.e0 ?_ | refine Z.f0 ?_ | refine Z.g0 ?_ | refine Z.h0 ?_ | refine Z.i0 rfl ?_ | refine Z.j0 ?_ | refine Z.k0 ?_ | refine Z.l0 ?_ | refine Z.m0 ?_ | refine Z.n0 ?_ | refine Z.o0 ?_ | refine Z.q0 rfl rfl fun F hF => ?_ | refine Z.r0 rfl rfl rfl rfl fun F hF => ?_ | refine Z.A0 rfl rfl rfl fun F hF => ?_ | refine Z.B0 rfl rfl rfl fun F hF => ?_ | refine Z.s0 rfl rfl rfl rfl ?_ | (refine Z.D0 ?_; simp only [St.put]) | refine Z.E0 rfl rfl rfl ?_ | refine Z.F0 rfl rfl rfl ?_ | (refine hF _ _ ?_ ?_ <;> clear hF F) | refine Z.T0 rfl ?_ | refine Z.U0 rfl ?_ | (refine Z.t0 rfl rfl rfl rfl ?_ ?_ <;> (intro hg; simp only [hg, Bool.not_true, Bool.not_false]; simp only [Z.x0] at hg)) | refine And.intro (by omega) ?_ | ((first | refine Z.G0 rfl rfl rfl rfl rfl ?_ ?_ | refine Z.M0 rfl rfl rfl rfl rfl ?_ ?_) <;> (intro hg; simp only [hg, Bool.not_true, Bool.not_false]; simp only [Z.x0] at hg)) | (refine Z.V0 rfl ?_ ?_ <;> (intro hc; try simp only [hc]; simp only [Z.x0] at hc)))
      refine W_loop [0, 1, 6, 7] (fun n s H' => ∃ (k : Nat) (st : List Int), Rs H' x [x, bl] st ∧ H' x = some ⟨1, [[.ov (some bl) 0 1 st.length (some pages.toNat)]]⟩ ∧ (∀ q, q ≠ x → q ≠ bl → H' q = H q) ∧ newGo (us.drop k) st = newOf pages us ∧ st.length = pages.toNat ∧ n + k = us.length ∧
        s = [(0, .v (.int .i64 pages)), (1, .imm 1 (iv us)), (6, .ptr x 1 0 0), (7, .v (.int .i64 k))]) us.length ?_ ?_
      · simp only [St.keep, St.get, reduceIte, Nat.reduceEqDiff]
        refine ⟨0, List.replicate pages.toNat 0, ⟨⟨bl, some pages.toNat, by simp [AH.set_same], ?_, hbb, rfl⟩, by simp; omega⟩, by simp [AH.set_same], fun q g1 g2 => ?_, by rw [hno]; rfl, by simp, by omega, rfl⟩
        · rw [AH.set_ne _ _ hbb.symm, AH.set_same]
        · rw [AH.set_ne _ _ g1, AH.set_ne _ _ g2]
      · rintro n s H' ⟨k, st, hR, hX, hO, hg, hl, hnk, rfl⟩
        have hkeep : Keeps H [] H' [x, bl] := by
          refine ⟨fun q _ hq => hO q ?_ ?_, fun q hq => .inr ?_⟩
          · rintro rfl; rw [hf'] at hq; cases hq
          · rintro rfl; rw [hf1] at hq; cases hq
          · simp only [List.mem_cons, List.not_mem_nil, or_false] at hq
            rcases hq with rfl | rfl
            · exact hf'
            · exact hf1
        have hkeep0 : Keeps H [] H' [] := ⟨hkeep.1, fun q hq => by cases hq⟩
        cases n with
        | zero =>
          have d3 : decide ((k : Int) < (us.length : Int)) = false := by simp; omega
          rw [List.drop_of_length_le (by omega)] at hg
          simp only [newGo] at hg
          repeat' (first | ((first | refine Z.W0 ?_ | refine Z.X0 ?_); simp only [go_sem, seval, alen, aidx, aload, iv_len, d3]; try (simp (disch := omega) only [Z.w0]; try simp only [go_sem, seval, alen, aidx, aload, iv_len, d3])) | (refine hF _ _ ?_; clear hF F) | (refine Z.p0 ?_; simp only [St.put]) | refine Z.a0 ?_ | refine Z.b0 ?_ | refine Z.c0 ?_ | refine Z.d0 ?_ | refine Z.e0 ?_ | refine Z.f0 ?_ | refine Z.g0 ?_ | refine Z.h0 ?_ | refine Z.i0 rfl ?_ | refine Z.j0 ?_ | refine Z.k0 ?_ | refine Z.l0 ?_ | refine Z.m0 ?_ | refine Z.n0 ?_ | refine Z.o0 ?_ | refine Z.q0 rfl rfl fun F hF => ?_ | refine Z.r0 rfl rfl rfl rfl fun F hF => ?_ | refine Z.A0 rfl rfl rfl fun F hF => ?_ | refine Z.B0 rfl rfl rfl fun F hF => ?_ | refine Z.s0 rfl rfl rfl rfl ?_ | (refine Z.D0 ?_; simp only [St.put]) | refine Z.E0 rfl rfl rfl ?_ | refine Z.F0 rfl rfl rfl ?_ | (refine hF _ _ ?_ ?_ <;> clear hF F) | refine Z.T0 rfl ?_ | refine Z.U0 rfl ?_ | (refine Z.t0 rfl rfl rfl rfl ?_ ?_ <;> (intro hg; simp only [hg, Bool.not_true, Bool.not_false]; simp only [Z.x0] at hg)) | refine And.intro (by omega) ?_ | ((first | refine Z.G0 rfl rfl rfl rfl rfl ?_ ?_ | refine Z.M0 rfl rfl rfl rfl rfl ?_ ?_) <;> (intro hg; simp only [hg, Bool.not_true, Bool.not_false]; simp only [Z.x0] at hg)) | (refine Z.V0 rfl ?_ ?_ <;> (intro hc; try simp only [hc]; simp only [Z.x0] at hc)))
          simp only [retK, ares, pack, Try.results17, St.get, reduceIte, Nat.reduceEqDiff, aload, arow, List.toArray, Array.toList]
          exact k1 _ _ _ _ hg.symm hR hkeep
        | succ n =>
          have d3 : decide ((k : Int) < (us.length : Int)) = true := by simp; omega
          have hk : k < us.length := by omega
          have hrow := iv_row hk
          have w8 : IntKind.i64.wrap ((k : Int) + 1) = ((k + 1 : Nat) : Int) := by rw [wrap_of] <;> omega
          rw [List.drop_eq_getElem_cons hk, getD_of hk] at hg
          obtain ⟨⟨bl', c', h1, h2, h3, e⟩, hp⟩ := id hR
          cases e
          generalize us.getD k 0 = u at hrow hg
          by_cases g1 : u < 0
          · have d4 : decide (u < 0) = true := decide_eq_true g1
            repeat' (first | ((first | refine Z.W0 ?_ | refine Z.X0 ?_); simp only [go_sem, seval, alen, aidx, aload, iv_len, d3, hrow, d4]; try (simp (disch := omega) only [Z.w0]; try simp only [go_sem, seval, alen, aidx, aload, iv_len, d3, hrow, d4])) | (refine hF _ _ ?_; clear hF F) | (refine Z.p0 ?_; simp only [St.put]) | refine Z.a0 ?_ | refine Z.b0 ?_ | refine Z.c0 ?_ | refine Z.d0 ?_ | refine Z.e0 ?_ | refine Z.f0 ?_ | refine Z.g0 ?_ | refine Z.h0 ?_ | refine Z.i0 rfl ?_ | refine Z.j0 ?_ | refine Z.k0 ?_ | refine Z.l0 ?_ | refine Z.m0 ?_ | refine Z.n0 ?_ | refine Z.o0 ?_ | refine Z.q0 rfl rfl fun F hF => ?_ | refine Z.r0 rfl rfl rfl rfl fun F hF => ?_ | refine Z.A0 rfl rfl rfl fun F hF => ?_ | refine Z.B0 rfl rfl rfl fun F hF => ?_ | refine Z.s0 rfl rfl rfl rfl ?_ | (refine Z.D0 ?_; simp only [St.put]) | refine Z.E0 rfl rfl rfl ?_ | refine Z.F0 rfl rfl rfl ?_ | (refine hF _ _ ?_ ?_ <;> clear hF F) | refine Z.T0 rfl ?_ | refine Z.U0 rfl ?_ | (refine Z.t0 rfl rfl rfl rfl ?_ ?_ <;> (intro hg; simp only [hg, Bool.not_true, Bool.not_false]; simp only [Z.x0] at hg)) | refine And.intro (by omega) ?_ | ((first | refine Z.G0 rfl rfl rfl rfl rfl ?_ ?_ | refine Z.M0 rfl rfl rfl rfl rfl ?_ ?_) <;> (intro hg; simp only [hg, Bool.not_true, Bool.not_false]; simp only [Z.x0] at hg)) | (refine Z.V0 rfl ?_ ?_ <;> (intro hc; try simp only [hc]; simp only [Z.x0] at hc)))
            simp only [retK, ares, pack, Try.results17, St.get, reduceIte, Nat.reduceEqDiff, aload, arow, List.toArray, Array.toList]
            simp only [newGo] at hg
            rw [if_pos (.inl g1)] at hg
            exact k2 _ hg.symm hkeep0
          · have d4 : decide (u < 0) = false := decide_eq_false g1
            by_cases g2 : u ≥ pages
            · have d5 : decide (u ≥ pages) = true := decide_eq_true g2
              repeat' (first | ((first | refine Z.W0 ?_ | refine Z.X0 ?_); simp only [go_sem, seval, alen, aidx, aload, iv_len, d3, hrow, d4, d5]; try (simp (disch := omega) only [Z.w0]; try simp only [go_sem, seval, alen, aidx, aload, iv_len, d3, hrow, d4, d5])) | (refine hF _ _ ?_; clear hF F) | (refine Z.p0 ?_; simp only [St.put]) | refine Z.a0 ?_ | refine Z.b0 ?_ | refine Z.c0 ?_ | refine Z.d0 ?_ | refine Z.e0 ?_ | refine Z.f0 ?_ | refine Z.g0 ?_ | refine Z.h0 ?_ | refine Z.i0 rfl ?_ | refine Z.j0 ?_ | refine Z.k0 ?_ | refine Z.l0 ?_ | refine Z.m0 ?_ | refine Z.n0 ?_ | refine Z.o0 ?_ | refine Z.q0 rfl rfl fun F hF => ?_ | refine Z.r0 rfl rfl rfl rfl fun F hF => ?_ | refine Z.A0 rfl rfl rfl fun F hF => ?_ | refine Z.B0 rfl rfl rfl fun F hF => ?_ | refine Z.s0 rfl rfl rfl rfl ?_ | (refine Z.D0 ?_; simp only [St.put]) | refine Z.E0 rfl rfl rfl ?_ | refine Z.F0 rfl rfl rfl ?_ | (refine hF _ _ ?_ ?_ <;> clear hF F) | refine Z.T0 rfl ?_ | refine Z.U0 rfl ?_ | (refine Z.t0 rfl rfl rfl rfl ?_ ?_ <;> (intro hg; simp only [hg, Bool.not_true, Bool.not_false]; simp only [Z.x0] at hg)) | refine And.intro (by omega) ?_ | ((first | refine Z.G0 rfl rfl rfl rfl rfl ?_ ?_ | refine Z.M0 rfl rfl rfl rfl rfl ?_ ?_) <;> (intro hg; simp only [hg, Bool.not_true, Bool.not_false]; simp only [Z.x0] at hg)) | (refine Z.V0 rfl ?_ ?_ <;> (intro hc; try simp only [hc]; simp only [Z.x0] at hc)))
              simp only [retK, ares, pack, Try.results17, St.get, reduceIte, Nat.reduceEqDiff, aload, arow, List.toArray, Array.toList]
              simp only [newGo] at hg
              rw [if_pos (.inr (.inl (by omega)))] at hg
              exact k2 _ hg.symm hkeep0
            · have d5 : decide (u ≥ pages) = false := decide_eq_false g2
              have hr := iv_row (xs := st) (k := u.toNat) (by omega)
              have u0 : 0 ≤ u := by omega
              have u1 : u < (st.length : Int) := by omega
              by_cases g3 : st.getD u.toNat 0 = 0
              · have d6 : (st.getD u.toNat 0 != 0) = false := by simp only [g3]; rfl
                repeat' (first | ((first | refine Z.W0 ?_ | refine Z.X0 ?_); simp only [go_sem, seval, alen, aidx, aload, iv_len, d3, hrow, d4, d5, d6, hX, h2, hr, u0, u1, iv_set, w8]; try (simp (disch := omega) only [Z.w0]; try simp only [go_sem, seval, alen, aidx, aload, iv_len, d3, hrow, d4, d5, d6, hX, h2, hr, u0, u1, iv_set, w8])) | (refine hF _ _ ?_; clear hF F) | (refine Z.p0 ?_; simp only [St.put]) | refine Z.a0 ?_ | refine Z.b0 ?_ | refine Z.c0 ?_ | refine Z.d0 ?_ | refine Z.e0 ?_ | refine Z.f0 ?_ | refine Z.g0 ?_ | refine Z.h0 ?_ | refine Z.i0 rfl ?_ | refine Z.j0 ?_ | refine Z.k0 ?_ | refine Z.l0 ?_ | refine Z.m0 ?_ | refine Z.n0 ?_ | refine Z.o0 ?_ | refine Z.q0 rfl rfl fun F hF => ?_ | refine Z.r0 rfl rfl rfl rfl fun F hF => ?_ | refine Z.A0 rfl rfl rfl fun F hF => ?_ | refine Z.B0 rfl rfl rfl fun F hF => ?_ | refine Z.s0 rfl rfl rfl rfl ?_ | (refine Z.D0 ?_; simp only [St.put]) | refine Z.E0 rfl rfl rfl ?_ | refine Z.F0 rfl rfl rfl ?_ | (refine hF _ _ ?_ ?_ <;> clear hF F) | refine Z.T0 rfl ?_ | refine Z.U0 rfl ?_ | (refine Z.t0 rfl rfl rfl rfl ?_ ?_ <;> (intro hg; simp only [hg, Bool.not_true, Bool.not_false]; simp only [Z.x0] at hg)) | refine And.intro (by omega) ?_ | ((first | refine Z.G0 rfl rfl rfl rfl rfl ?_ ?_ | refine Z.M0 rfl rfl rfl rfl rfl ?_ ?_) <;> (intro hg; simp only [hg, Bool.not_true, Bool.not_false]; simp only [Z.x0] at hg)) | (refine Z.V0 rfl ?_ ?_ <;> (intro hc; try simp only [hc]; simp only [Z.x0] at hc)))
                simp only [loopK]
                simp only [St.keep, St.get, reduceIte, Nat.reduceEqDiff]
                simp only [newGo] at hg
                rw [if_neg (by omega)] at hg
                obtain ⟨w1, w2⟩ := Rs.write hX h3 hp (st.set u.toNat 1) (by simp)
                refine ⟨n, by omega, k + 1, _, w1, by rw [AH.set_ne _ _ hbb, hX]; simp, fun q g1 g2 => by rw [AH.set_ne _ _ g2]; exact hO q g1 g2, hg, by simp [hl], by omega, rfl⟩
              · have d6 : (st.getD u.toNat 0 != 0) = true := bne_iff_ne.2 g3
                repeat' (first | ((first | refine Z.W0 ?_ | refine Z.X0 ?_); simp only [go_sem, seval, alen, aidx, aload, iv_len, d3, hrow, d4, d5, d6, hX, h2, hr, u0, u1, iv_set, w8]; try (simp (disch := omega) only [Z.w0]; try simp only [go_sem, seval, alen, aidx, aload, iv_len, d3, hrow, d4, d5, d6, hX, h2, hr, u0, u1, iv_set, w8])) | (refine hF _ _ ?_; clear hF F) | (refine Z.p0 ?_; simp only [St.put]) | refine Z.a0 ?_ | refine Z.b0 ?_ | refine Z.c0 ?_ | refine Z.d0 ?_ | refine Z.e0 ?_ | refine Z.f0 ?_ | refine Z.g0 ?_ | refine Z.h0 ?_ | refine Z.i0 rfl ?_ | refine Z.j0 ?_ | refine Z.k0 ?_ | refine Z.l0 ?_ | refine Z.m0 ?_ | refine Z.n0 ?_ | refine Z.o0 ?_ | refine Z.q0 rfl rfl fun F hF => ?_ | refine Z.r0 rfl rfl rfl rfl fun F hF => ?_ | refine Z.A0 rfl rfl rfl fun F hF => ?_ | refine Z.B0 rfl rfl rfl fun F hF => ?_ | refine Z.s0 rfl rfl rfl rfl ?_ | (refine Z.D0 ?_; simp only [St.put]) | refine Z.E0 rfl rfl rfl ?_ | refine Z.F0 rfl rfl rfl ?_ | (refine hF _ _ ?_ ?_ <;> clear hF F) | refine Z.T0 rfl ?_ | refine Z.U0 rfl ?_ | (refine Z.t0 rfl rfl rfl rfl ?_ ?_ <;> (intro hg; simp only [hg, Bool.not_true, Bool.not_false]; simp only [Z.x0] at hg)) | refine And.intro (by omega) ?_ | ((first | refine Z.G0 rfl rfl rfl rfl rfl ?_ ?_ | refine Z.M0 rfl rfl rfl rfl rfl ?_ ?_) <;> (intro hg; simp only [hg, Bool.not_true, Bool.not_false]; simp only [Z.x0] at hg)) | (refine Z.V0 rfl ?_ ?_ <;> (intro hc; try simp only [hc]; simp only [Z.x0] at hc)))
                simp only [retK, ares, pack, Try.results17, St.get, reduceIte, Nat.reduceEqDiff, aload, arow, List.toArray, Array.toList]
                simp only [newGo] at hg
                rw [if_pos (.inr (.inr g3))] at hg
                exact k2 _ hg.symm hkeep0
end Go.Proofs.Ytcmakpkdliiigaa
