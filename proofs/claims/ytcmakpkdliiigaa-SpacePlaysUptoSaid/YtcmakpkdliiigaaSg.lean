/- A new space. -/
import Derived.Test.YtcmakpkdliiigaaSf
namespace Go.Proofs.Ytcmakpkdliiigaa
set_option maxHeartbeats 8000000
set_option linter.all false
open Go Go.Fw
attribute [local irreducible] Reg RegD seqK blockK loopK retK
set_option maxRecDepth 10000

def newGo : List Int → List Int → Option (List Int)
  | [], st => some st
  | u :: us, st => if u < 0 ∨ (st.length : Int) ≤ u ∨ st.getD u.toNat 0 ≠ 0 then none else newGo us (st.set u.toNat 1)
def newOf (pages : Int) (us : List Int) : Option (List Int) := if pages < 1 ∨ 65536 < pages then none else newGo us (List.replicate pages.toNat 0)

/-- A list of whole numbers that is handed in. -/
def Arg (H : AH) (z : AV) (us : List Int) : Prop := z = .imm 1 (iv us) ∨ ∃ oz, VecA H z oz us

/-- What a handed-in list answers: its length, its elements. -/
theorem Arg.reads {H : AH} {z : AV} {us : List Int} (hz : Arg H z us) : (∀ F : AV → Prop, F (.v (.int .i64 us.length)) → alen Try.prog 22 z F) ∧
    ∀ (H' : AH), (∀ q, (H q).isSome = true → H' q = H q) → ∀ k (hk : k < us.length), ∃ p, (∀ F : AV → Prop, F p → aidx Try.prog 22 z (.v (.int .i64 k)) F) ∧ (∀ F : AV → Prop, F (.v (.int .i64 (us.getD k 0))) → aload Try.prog 3 p H' F) := by
  rcases hz with rfl | ⟨oz, ⟨rfl, hv⟩ | ⟨rfl, rfl, rfl⟩⟩
  · refine ⟨fun F h => ?_, fun H' hH k hk => ⟨.ip [.v (.int .i64 (us.getD k 0))] 0, fun F h => ?_, fun F h => ?_⟩⟩
    · simpa only [alen, Try.underlying22, iv_len] using h
    · simp only [aidx, Try.underlying22, cl3, Int.toNat_natCast, iv_row hk]
      exact ⟨trivial, by simp, by omega, _, rfl, h⟩
    · simp only [aload, arow, acut, Try.underlying3, isAggD]
      exact ⟨_, rfl, h⟩
  · refine ⟨fun F h => ?_, fun H' hH k hk => ?_⟩
    · simpa only [alen, Try.underlying22, iv_len] using h
    · cases oz with
      | none => simp only [Vec] at hv; subst hv; simp at hk
      | some q =>
        obtain ⟨tl, hv⟩ := hv
        refine ⟨.ptr q 1 k 0, fun F h => ?_, fun F h => ?_⟩
        · simp only [aidx, Try.underlying22, cl3, Int.toNat_natCast, Nat.zero_add]
          exact ⟨trivial, by simp, by omega, by omega, h⟩
        · have e : (iv (us ++ tl))[k]? = some [.v (.int .i64 (us.getD k 0))] := by
            rw [iv_row (by simp; omega)]; simp [List.getD, List.getElem?_append_left hk]
          simp only [aload, arow, hH q (by rw [hv]; rfl), hv, e]
          refine ⟨trivial, _, rfl, ?_⟩
          simp only [acut, Try.underlying3, isAggD]
          exact ⟨_, rfl, h⟩
  · refine ⟨fun F h => ?_, fun H' hH k hk => ?_⟩
    · simpa only [alen, Try.underlying22, List.length_nil] using h
    · simp at hk

/-- The heap while a new space is made. -/
def N1 (H H' : AH) (b b1 n : Nat) (st : List Int) : Prop := H' b = some ⟨2, [[.ov (some b1) 0 1 n (some n), .v (.slice none 0 0)]]⟩ ∧ H' b1 = some ⟨1, bv st⟩ ∧ ∀ q, q ≠ b → q ≠ b1 → H' q = H q

theorem new_ok {H : AH} {z : AV} {pages : Int} {us : List Int} {K : AV → AH → Prop} (hz : Arg H z us) (hbig : us.length ≤ 1000000000)
    (h1 : ∀ st H' b b1 c1 F, newOf pages us = some st → Lay H' b b1 c1 F st (idx 0 0 st) → Keeps H [] H' F → K (.tup [.ptr b 2 0 0, .v (.int .i64 0)]) H')
    (h2 : ∀ H', newOf pages us = none → Keeps H [] H' [] → K (.tup [.v (.pointer none), .v (.int .i64 1)]) H') :
    CallOK Try.prog 9 [.v (.int .i64 pages), z] H K := by
  refine CallOK.of_body Try.func9 nm9 rfl ?_; simp only [Try.ntmps9, List.length_cons, List.length_nil, argSt, Nat.reduceAdd, Nat.reduceSub]
  by_cases hp1 : pages < 1
  · have d1 : decide (pages < 1) = true := decide_eq_true hp1
    repeat' (first | ((first | refine Z.W0 ?_ | refine Z.X0 ?_); simp only [go_sem, seval, alen, aidx, aload, isAggD, d1]; try (simp (disch := omega) only [Z.w0]; try simp only [go_sem, seval, alen, aidx, aload, isAggD, d1])) | (refine hF _ _ ?_; clear hF F) | (refine Z.p0 ?_; simp only [St.put]) | refine Z.a0 ?_ | refine Z.b0 ?_ | refine Z.c0 ?_ | refine Z.d0 ?_ | refine Z.e0 ?_ | refine Z.f0 ?_ | refine Z.g0 ?_ | refine Z.h0 ?_ | refine Z.i0 rfl ?_ | refine Z.j0 ?_ | refine Z.k0 ?_ | refine Z.l0 ?_ | refine Z.m0 ?_ | refine Z.n0 ?_ | refine Z.o0 ?_ | refine Z.q0 rfl rfl fun F hF => ?_ | refine Z.r0 rfl rfl rfl rfl fun F hF => ?_ | refine Z.A0 rfl rfl rfl fun F hF => ?_ | refine Z.B0 rfl rfl rfl fun F hF => ?_ | refine Z.s0 rfl rfl rfl rfl ?_ | (refine Z.D0 ?_; simp only [St.put]) | refine Z.E0 rfl rfl rfl ?_ | refine Z.F0 rfl rfl rfl ?_ | (refine hF _ _ ?_ ?_ <;> clear hF F) | refine Z.T0 rfl ?_ | refine Z.U0 rfl ?_ | (refine Z.t0 rfl rfl rfl rfl ?_ ?_ <;> (intro hg; simp only [hg, Bool.not_true, Bool.not_false]; simp only [Z.x0] at hg)) | refine And.intro (by omega) ?_ | ((first | refine Z.G0 rfl rfl rfl rfl rfl ?_ ?_ | refine Z.M0 rfl rfl rfl rfl rfl ?_ ?_) <;> (intro hg; simp only [hg, Bool.not_true, Bool.not_false]; simp only [Z.x0] at hg)) | (refine Z.V0 rfl ?_ ?_ <;> (intro hc; try simp only [hc]; simp only [Z.x0] at hc)))
    simp only [retK, ares, pack, Try.results9, St.get, reduceIte, Nat.reduceEqDiff, aload, arow, List.toArray, Array.toList]
    exact h2 _ (by rw [newOf, if_pos (.inl hp1)]) (.refl _ _)
  · have d1 : decide (pages < 1) = false := decide_eq_false hp1
    by_cases hp2 : pages > 65536
    · have d2 : decide (pages > 65536) = true := decide_eq_true hp2
      repeat' (first | ((first | refine Z.W0 ?_ | refine Z.X0 ?_); simp only [go_sem, seval, alen, aidx, aload, isAggD, d1, d2]; try (simp (disch := omega) only [Z.w0]; try simp only [go_sem, seval, alen, aidx, aload, isAggD, d1, d2])) | (refine hF _ _ ?_; clear hF F) | (refine Z.p0 ?_; simp only [St.put]) | refine Z.a0 ?_ | refine Z.b0 ?_ | refine Z.c0 ?_ | refine Z.d0 ?_ | refine Z.e0 ?_ | refine Z.f0 ?_ | refine Z.g0 ?_ | refine Z.h0 ?_ | refine Z.i0 rfl ?_ | refine Z.j0 ?_ | refine Z.k0 ?_ | refine Z.l0 ?_ | refine Z.m0 ?_ | refine Z.n0 ?_ | refine Z.o0 ?_ | refine Z.q0 rfl rfl fun F hF => ?_ | refine Z.r0 rfl rfl rfl rfl fun F hF => ?_ | refine Z.A0 rfl rfl rfl fun F hF => ?_ | refine Z.B0 rfl rfl rfl fun F hF => ?_ | refine Z.s0 rfl rfl rfl rfl ?_ | (refine Z.D0 ?_; simp only [St.put]) | refine Z.E0 rfl rfl rfl ?_ | refine Z.F0 rfl rfl rfl ?_ | (refine hF _ _ ?_ ?_ <;> clear hF F) | refine Z.T0 rfl ?_ | refine Z.U0 rfl ?_ | (refine Z.t0 rfl rfl rfl rfl ?_ ?_ <;> (intro hg; simp only [hg, Bool.not_true, Bool.not_false]; simp only [Z.x0] at hg)) | refine And.intro (by omega) ?_ | ((first | refine Z.G0 rfl rfl rfl rfl rfl ?_ ?_ | refine Z.M0 rfl rfl rfl rfl rfl ?_ ?_) <;> (intro hg; simp only [hg, Bool.not_true, Bool.not_false]; simp only [Z.x0] at hg)) | (refine Z.V0 rfl ?_ ?_ <;> (intro hc; try simp only [hc]; simp only [Z.x0] at hc)))
      simp only [retK, ares, pack, Try.results9, St.get, reduceIte, Nat.reduceEqDiff, aload, arow, List.toArray, Array.toList]
      exact h2 _ (by rw [newOf, if_pos (.inr hp2)]) (.refl _ _)
    · have d2 : decide (pages > 65536) = false := decide_eq_false hp2
      have hno : newOf pages us = newGo us (List.replicate pages.toNat 0) := by rw [newOf, if_neg (by omega)]
      have hpl : (List.replicate pages.toNat (0 : Int)).length = pages.toNat := List.length_replicate ..
      have hpz : List.replicate pages.toNat [AV.v (.int .u8 0)] = bv (List.replicate pages.toNat 0) := by simp [bv]
      obtain ⟨hz1, hz2⟩ := hz.reads
      repeat' (first | ((first | refine Z.W0 ?_ | refine Z.X0 ?_); simp only [go_sem, seval, aidx, aload, isAggD, d1, d2]; try (simp (disch := omega) only [Z.w0]; try simp only [go_sem, seval, aidx, aload, isAggD, d1, d2])) | (refine hF _ _ ?_; clear hF F) | (refine Z.p0 ?_; simp only [St.put]) | refine Z.a0 ?_ | refine Z.b0 ?_ | refine Z.c0 ?_ | refine Z.d0 ?_ | refine Z.e0 ?_ | refine Z.f0 ?_ | refine Z.g0 ?_ | refine Z.h0 ?_ | refine Z.i0 rfl ?_ | refine Z.j0 ?_ | refine Z.k0 ?_ | refine Z.l0 ?_ | refine Z.m0 ?_ | refine Z.n0 ?_ | refine Z.o0 ?_ | refine Z.q0 rfl rfl fun F hF => ?_ | refine Z.r0 rfl rfl rfl rfl fun F hF => ?_ | refine Z.A0 rfl rfl rfl fun F hF => ?_ | refine Z.B0 rfl rfl rfl fun F hF => ?_ | refine Z.s0 rfl rfl rfl rfl ?_ | (refine Z.D0 ?_; simp only [St.put]) | refine Z.E0 rfl rfl rfl ?_ | refine Z.F0 rfl rfl rfl ?_ | (refine hF _ _ ?_ ?_ <;> clear hF F) | refine Z.T0 rfl ?_ | refine Z.U0 rfl ?_ | (refine Z.t0 rfl rfl rfl rfl ?_ ?_ <;> (intro hg; simp only [hg, Bool.not_true, Bool.not_false]; simp only [Z.x0] at hg)) | refine And.intro (by omega) ?_ | ((first | refine Z.G0 rfl rfl rfl rfl rfl ?_ ?_ | refine Z.M0 rfl rfl rfl rfl rfl ?_ ?_) <;> (intro hg; simp only [hg, Bool.not_true, Bool.not_false]; simp only [Z.x0] at hg)) | (refine Z.V0 rfl ?_ ?_ <;> (intro hc; try simp only [hc]; simp only [Z.x0] at hc)))
      rintro b1 hf1
      refine hF _ _ ?_
      clear hF F
      repeat' (first | ((first | refine Z.W0 ?_ | refine Z.X0 ?_); simp only [go_sem, seval, aidx, aload, isAggD, d1, d2, List.take, List.drop]; try (simp (disch := omega) only [Z.w0]; try simp only [go_sem, seval, aidx, aload, isAggD, d1, d2, List.take, List.drop])) | (refine hF _ _ ?_; clear hF F) | (refine Z.p0 ?_; simp only [St.put]) | refine Z.a0 ?_ | refine Z.b0 ?_ | refine Z.c0 ?_ | refine Z.d0 ?_ | refine Z.e0 ?_ | refine Z.f0 ?_ | refine Z.g0 ?_ | refine Z.h0 ?_ | refine Z.i0 rfl ?_ | refine Z.j0 ?_ | refine Z.k0 ?_ | refine Z.l0 ?_ | refine Z.m0 ?_ | refine Z.n0 ?_ | refine Z.o0 ?_ | refine Z.q0 rfl rfl fun F hF => ?_ | refine Z.r0 rfl rfl rfl rfl fun F hF => ?_ | refine Z.A0 rfl rfl rfl fun F hF => ?_ | refine Z.B0 rfl rfl rfl fun F hF => ?_ | refine Z.s0 rfl rfl rfl rfl ?_ | (refine Z.D0 ?_; simp only [St.put]) | refine Z.E0 rfl rfl rfl ?_ | refine Z.F0 rfl rfl rfl ?_ | (refine hF _ _ ?_ ?_ <;> clear hF F) | refine Z.T0 rfl ?_ | refine Z.U0 rfl ?_ | (refine Z.t0 rfl rfl rfl rfl ?_ ?_ <;> (intro hg; simp only [hg, Bool.not_true, Bool.not_false]; simp only [Z.x0] at hg)) | refine And.intro (by omega) ?_ | ((first | refine Z.G0 rfl rfl rfl rfl rfl ?_ ?_ | refine Z.M0 rfl rfl rfl rfl rfl ?_ ?_) <;> (intro hg; simp only [hg, Bool.not_true, Bool.not_false]; simp only [Z.x0] at hg)) | (refine Z.V0 rfl ?_ ?_ <;> (intro hc; try simp only [hc]; simp only [Z.x0] at hc)))
      rintro b hf
      refine hF _ _ ?_
      clear hF F
      rw [hpz]
      have hbb : b ≠ b1 := by intro e; rw [e, fresh, AH.set_same] at hf; cases hf
      have hf' : H b = none := by rw [fresh, AH.set_ne _ _ hbb] at hf; exact hf
      repeat' (first | ((first | refine Z.W0 ?_ | refine Z.X0 ?_); simp only [go_sem, seval, aidx, aload, isAggD, d1, d2]; try (simp (disch := omega) only [Z.w0]; try simp only [go_sem, seval, aidx, aload, isAggD, d1, d2])) | (refine hF _ _ ?_; clear hF F) | (refine Z.p0 ?_; simp only [St.put]) | refine Z.a0 ?_ | refine Z.b0 ?_ | refine Z.c0 ?_ | refine Z.d0 ?_ | refine Z.e0 ?_ | refine Z.f0 ?_ | refine Z.g0 ?_ | refine Z.h0 ?_ | refine Z.i0 rfl ?_ | refine Z.j0 ?_ | refine Z.k0 ?_ | refine Z.l0 ?_ | refine Z.m0 ?_ | refine Z.n0 ?_ | refine Z.o0 ?_ | refine Z.q0 rfl rfl fun F hF => ?_ | refine Z.r0 rfl rfl rfl rfl fun F hF => ?_ | refine Z.A0 rfl rfl rfl fun F hF => ?_ | refine Z.B0 rfl rfl rfl fun F hF => ?_ | refine Z.s0 rfl rfl rfl rfl ?_ | (refine Z.D0 ?_; simp only [St.put]) | refine Z.E0 rfl rfl rfl ?_ | refine Z.F0 rfl rfl rfl ?_ | (refine hF _ _ ?_ ?_ <;> clear hF F) | refine Z.T0 rfl ?_ | refine Z.U0 rfl ?_ | (refine Z.t0 rfl rfl rfl rfl ?_ ?_ <;> (intro hg; simp only [hg, Bool.not_true, Bool.not_false]; simp only [Z.x0] at hg)) | refine And.intro (by omega) ?_ | ((first | refine Z.G0 rfl rfl rfl rfl rfl ?_ ?_ | refine Z.M0 rfl rfl rfl rfl rfl ?_ ?_) <;> (intro hg; simp only [hg, Bool.not_true, Bool.not_false]; simp only [Z.x0] at hg)) | (refine Z.V0 rfl ?_ ?_ <;> (intro hc; try simp only [hc]; simp only [Z.x0] at hc)))
      refine hz1 _ ?_
      refine hF _ _ ?_
      clear hF F
      repeat' (first | ((first | refine Z.W0 ?_ | refine Z.X0 ?_); simp only [go_sem, seval, alen, aidx, aload, isAggD, d1, d2]; try (simp (disch := omega) only [Z.w0]; try simp only [go_sem, seval, alen, aidx, aload, isAggD, d1, d2])) | (refine hF _ _ ?_; clear hF F) | (refine Z.p0 ?_; simp only [St.put]) | refine Z.a0 ?_ | refine Z.b0 ?_ | refine Z.c0 ?_ | refine Z.d0 ?_ | refine Z.e0 ?_ | refine Z.f0 ?_ | refine Z.g0 ?_ | refine Z.h0 ?_ | refine Z.i0 rfl ?_ | refine Z.j0 ?_ | refine Z.k0 ?_ | refine Z.l0 ?_ | refine Z.m0 ?_ | refine Z.n0 ?_ | refine Z.o0 ?_ | refine Z.q0 rfl rfl fun F hF => ?_ | refine Z.r0 rfl rfl rfl rfl fun F hF => ?_ | refine Z.A0 rfl rfl rfl fun F hF => ?_ | refine Z.B0 rfl rfl rfl fun F hF => ?_ | refine Z.s0 rfl rfl rfl rfl ?_ | (refine Z.D0 ?_; simp only [St.put]) | refine Z.E0 rfl rfl rfl ?_ | refine Z.F0 rfl rfl rfl ?_ | (refine hF _ _ ?_ ?_ <;> clear hF F) | refine Z.T0 rfl ?_ | refine Z.U0 rfl ?_ | (refine Z.t0 rfl rfl rfl rfl ?_ ?_ <;> (intro hg; simp only [hg, Bool.not_true, Bool.not_false]; simp only [Z.x0] at hg)) | refine And.intro (by omega) ?_ | ((first | refine Z.G0 rfl rfl rfl rfl rfl ?_ ?_ | refine Z.M0 rfl rfl rfl rfl rfl ?_ ?_) <;> (intro hg; simp only [hg, Bool.not_true, Bool.not_false]; simp only [Z.x0] at hg)) | (refine Z.V0 rfl ?_ ?_ <;> (intro hc; try simp only [hc]; simp only [Z.x0] at hc)))
      refine W_loop [0, 6, 21, 22, 23] (fun n s H' => ∃ (k : Nat) (st' : List Int), N1 H H' b b1 pages.toNat st' ∧ newGo (us.drop k) st' = newOf pages us ∧ st'.length = pages.toNat ∧ n + k = us.length ∧
        s = [(0, .v (.int .i64 pages)), (6, .ptr b 2 0 0), (21, z), (22, .v (.int .i64 us.length)), (23, .v (.int .i64 k))]) us.length ?_ ?_
      · simp only [St.keep, St.get, reduceIte, Nat.reduceEqDiff]
        refine ⟨0, _, ⟨AH.set_same .., ?_, fun q h1 h2 => ?_⟩, by rw [hno]; rfl, hpl, by omega, rfl⟩
        · rw [AH.set_ne _ _ hbb.symm, AH.set_same]
        · rw [AH.set_ne _ _ h1, AH.set_ne _ _ h2]
      · clear hpz
        rintro n s H' ⟨k, st, hN, hg, hl, hn, rfl⟩
        have hN' := hN
        obtain ⟨g1, g2, g3⟩ := hN'
        have hkp : ∀ q, (H q).isSome = true → H' q = H q := by
          intro q hq
          refine g3 q ?_ ?_
          · intro e; rw [e, hf'] at hq; cases hq
          · intro e; rw [e, hf1] at hq; cases hq
        cases n with
        | zero =>
          have d3 : decide ((k : Int) < (us.length : Int)) = false := by simp; omega
          rw [List.drop_of_length_le (by omega)] at hg
          simp only [newGo] at hg
          repeat' (first | ((first | refine Z.W0 ?_ | refine Z.X0 ?_); simp only [go_sem, seval, alen, aidx, aload, isAggD, d3, g1, g2]; try (simp (disch := omega) only [Z.w0]; try simp only [go_sem, seval, alen, aidx, aload, isAggD, d3, g1, g2])) | (refine hF _ _ ?_; clear hF F) | (refine Z.p0 ?_; simp only [St.put]) | refine Z.a0 ?_ | refine Z.b0 ?_ | refine Z.c0 ?_ | refine Z.d0 ?_ | refine Z.e0 ?_ | refine Z.f0 ?_ | refine Z.g0 ?_ | refine Z.h0 ?_ | refine Z.i0 rfl ?_ | refine Z.j0 ?_ | refine Z.k0 ?_ | refine Z.l0 ?_ | refine Z.m0 ?_ | refine Z.n0 ?_ | refine Z.o0 ?_ | refine Z.q0 rfl rfl fun F hF => ?_ | refine Z.r0 rfl rfl rfl rfl fun F hF => ?_ | refine Z.A0 rfl rfl rfl fun F hF => ?_ | refine Z.B0 rfl rfl rfl fun F hF => ?_ | refine Z.s0 rfl rfl rfl rfl ?_ | (refine Z.D0 ?_; simp only [St.put]) | refine Z.E0 rfl rfl rfl ?_ | refine Z.F0 rfl rfl rfl ?_ | (refine hF _ _ ?_ ?_ <;> clear hF F) | refine Z.T0 rfl ?_ | refine Z.U0 rfl ?_ | (refine Z.t0 rfl rfl rfl rfl ?_ ?_ <;> (intro hg; simp only [hg, Bool.not_true, Bool.not_false]; simp only [Z.x0] at hg)) | refine And.intro (by omega) ?_ | ((first | refine Z.G0 rfl rfl rfl rfl rfl ?_ ?_ | refine Z.M0 rfl rfl rfl rfl rfl ?_ ?_) <;> (intro hg; simp only [hg, Bool.not_true, Bool.not_false]; simp only [Z.x0] at hg)) | (refine Z.V0 rfl ?_ ?_ <;> (intro hc; try simp only [hc]; simp only [Z.x0] at hc)))
          refine W_loop [6, 54, 55, 56] (fun n s H2 => ∃ (i : Nat) (F : List Nat), Lay H2 b b1 (some pages.toNat) F st (idx 0 0 (st.take i)) ∧ Keeps H [] H2 F ∧ n + i = st.length ∧
            s = [(6, .ptr b 2 0 0), (54, .ov (some b1) 0 1 pages.toNat (some pages.toNat)), (55, .v (.int .i64 pages.toNat)), (56, .v (.int .i64 i))]) st.length ?_ ?_
          · simp only [St.keep, St.get, reduceIte, Nat.reduceEqDiff]
            refine ⟨0, [b, b1], ⟨none, _, by rw [g1, hl], g2, .inr ⟨rfl, rfl, rfl⟩, hbb, by simp, by simp, rfl⟩, ⟨fun q _ hq => hkp q hq, fun q hq => ?_⟩, by omega, rfl⟩
            simp only [List.mem_cons, List.not_mem_nil, or_false] at hq
            rcases hq with rfl | rfl
            · exact .inr hf'
            · exact .inr hf1
          · rintro n s H2 ⟨i, F, hL, hK, hn, rfl⟩
            have hL' := hL
            obtain ⟨ob, y, l1, l2, l3, l4, l5, l6, e⟩ := hL'
            cases n with
            | zero =>
              have d4 : decide ((i : Int) < ((pages.toNat : Nat) : Int)) = false := by simp; omega
              repeat' (first | ((first | refine Z.W0 ?_ | refine Z.X0 ?_); simp only [go_sem, seval, alen, aidx, aload, isAggD, d4]; try (simp (disch := omega) only [Z.w0]; try simp only [go_sem, seval, alen, aidx, aload, isAggD, d4])) | (refine hF _ _ ?_; clear hF F) | (refine Z.p0 ?_; simp only [St.put]) | refine Z.a0 ?_ | refine Z.b0 ?_ | refine Z.c0 ?_ | refine Z.d0 ?_ | refine Z.e0 ?_ | refine Z.f0 ?_ | refine Z.g0 ?_ | refine Z.h0 ?_ | refine Z.i0 rfl ?_ | refine Z.j0 ?_ | refine Z.k0 ?_ | refine Z.l0 ?_ | refine Z.m0 ?_ | refine Z.n0 ?_ | refine Z.o0 ?_ | refine Z.q0 rfl rfl fun F hF => ?_ | refine Z.r0 rfl rfl rfl rfl fun F hF => ?_ | refine Z.A0 rfl rfl rfl fun F hF => ?_ | refine Z.B0 rfl rfl rfl fun F hF => ?_ | refine Z.s0 rfl rfl rfl rfl ?_ | (refine Z.D0 ?_; simp only [St.put]) | refine Z.E0 rfl rfl rfl ?_ | refine Z.F0 rfl rfl rfl ?_ | (refine hF _ _ ?_ ?_ <;> clear hF F) | refine Z.T0 rfl ?_ | refine Z.U0 rfl ?_ | (refine Z.t0 rfl rfl rfl rfl ?_ ?_ <;> (intro hg; simp only [hg, Bool.not_true, Bool.not_false]; simp only [Z.x0] at hg)) | refine And.intro (by omega) ?_ | ((first | refine Z.G0 rfl rfl rfl rfl rfl ?_ ?_ | refine Z.M0 rfl rfl rfl rfl rfl ?_ ?_) <;> (intro hg; simp only [hg, Bool.not_true, Bool.not_false]; simp only [Z.x0] at hg)) | (refine Z.V0 rfl ?_ ?_ <;> (intro hc; try simp only [hc]; simp only [Z.x0] at hc)))
              simp only [retK, ares, pack, Try.results9, St.get, reduceIte, Nat.reduceEqDiff, aload, arow, List.toArray, Array.toList]
              rw [List.take_of_length_le (by omega)] at hL
              exact h1 _ _ _ _ _ _ hg.symm hL hK
            | succ n =>
              have hi : i < st.length := by omega
              have d4 : decide ((i : Int) < ((pages.toNat : Nat) : Int)) = true := by simp; omega
              have gi := bv_row (st := st) (k := i) hi
              have w1 : IntKind.i64.wrap ((i : Int) + 1) = ((i + 1 : Nat) : Int) := by rw [wrap_of] <;> omega
              have e0 := idx_take 0 i st hi
              have l0 := idx_le 0 0 (st.take i)
              simp only [List.length_take] at l0
              by_cases hs : st.getD i 0 = 0
              · have d5 : (st.getD i 0 == 0) = true := by rw [hs]; rfl
                rw [if_pos hs] at e0
                repeat' (first | ((first | refine Z.W0 ?_ | refine Z.X0 ?_); simp only [go_sem, seval, alen, aidx, aload, isAggD, d4, d5, l1, l2, gi, w1]; try (simp (disch := omega) only [Z.w0]; try simp only [go_sem, seval, alen, aidx, aload, isAggD, d4, d5, l1, l2, gi, w1])) | (refine hF _ _ ?_; clear hF F) | (refine Z.p0 ?_; simp only [St.put]) | refine Z.a0 ?_ | refine Z.b0 ?_ | refine Z.c0 ?_ | refine Z.d0 ?_ | refine Z.e0 ?_ | refine Z.f0 ?_ | refine Z.g0 ?_ | refine Z.h0 ?_ | refine Z.i0 rfl ?_ | refine Z.j0 ?_ | refine Z.k0 ?_ | refine Z.l0 ?_ | refine Z.m0 ?_ | refine Z.n0 ?_ | refine Z.o0 ?_ | refine Z.q0 rfl rfl fun F hF => ?_ | refine Z.r0 rfl rfl rfl rfl fun F hF => ?_ | refine Z.A0 rfl rfl rfl fun F hF => ?_ | refine Z.B0 rfl rfl rfl fun F hF => ?_ | refine Z.s0 rfl rfl rfl rfl ?_ | (refine Z.D0 ?_; simp only [St.put]) | refine Z.E0 rfl rfl rfl ?_ | refine Z.F0 rfl rfl rfl ?_ | (refine hF _ _ ?_ ?_ <;> clear hF F) | refine Z.T0 rfl ?_ | refine Z.U0 rfl ?_ | (refine Z.t0 rfl rfl rfl rfl ?_ ?_ <;> (intro hg; simp only [hg, Bool.not_true, Bool.not_false]; simp only [Z.x0] at hg)) | refine And.intro (by omega) ?_ | ((first | refine Z.G0 rfl rfl rfl rfl rfl ?_ ?_ | refine Z.M0 rfl rfl rfl rfl rfl ?_ ?_) <;> (intro hg; simp only [hg, Bool.not_true, Bool.not_false]; simp only [Z.x0] at hg)) | (refine Z.V0 rfl ?_ ?_ <;> (intro hc; try simp only [hc]; simp only [Z.x0] at hc)))
                refine app_int Try.underlying55 l3 (by omega) fun b' hfb => ?_
                refine hF _ _ ?_
                clear hF F
                have l1' : (delO H2 ob) b = some ⟨2, [[.ov (some b1) 0 1 st.length (some pages.toNat), y]]⟩ := by rw [delO_ne l5, l1]
                have hbn : b ≠ b' := fresh_ne l1 l5 hfb
                repeat' (first | ((first | refine Z.W0 ?_ | refine Z.X0 ?_); simp only [go_sem, seval, alen, aidx, aload, isAggD, w1, l1', hbn, hbn.symm, AH.set_ne]; try (simp (disch := omega) only [Z.w0]; try simp only [go_sem, seval, alen, aidx, aload, isAggD, w1, l1', hbn, hbn.symm, AH.set_ne])) | (refine hF _ _ ?_; clear hF F) | (refine Z.p0 ?_; simp only [St.put]) | refine Z.a0 ?_ | refine Z.b0 ?_ | refine Z.c0 ?_ | refine Z.d0 ?_ | refine Z.e0 ?_ | refine Z.f0 ?_ | refine Z.g0 ?_ | refine Z.h0 ?_ | refine Z.i0 rfl ?_ | refine Z.j0 ?_ | refine Z.k0 ?_ | refine Z.l0 ?_ | refine Z.m0 ?_ | refine Z.n0 ?_ | refine Z.o0 ?_ | refine Z.q0 rfl rfl fun F hF => ?_ | refine Z.r0 rfl rfl rfl rfl fun F hF => ?_ | refine Z.A0 rfl rfl rfl fun F hF => ?_ | refine Z.B0 rfl rfl rfl fun F hF => ?_ | refine Z.s0 rfl rfl rfl rfl ?_ | (refine Z.D0 ?_; simp only [St.put]) | refine Z.E0 rfl rfl rfl ?_ | refine Z.F0 rfl rfl rfl ?_ | (refine hF _ _ ?_ ?_ <;> clear hF F) | refine Z.T0 rfl ?_ | refine Z.U0 rfl ?_ | (refine Z.t0 rfl rfl rfl rfl ?_ ?_ <;> (intro hg; simp only [hg, Bool.not_true, Bool.not_false]; simp only [Z.x0] at hg)) | refine And.intro (by omega) ?_ | ((first | refine Z.G0 rfl rfl rfl rfl rfl ?_ ?_ | refine Z.M0 rfl rfl rfl rfl rfl ?_ ?_) <;> (intro hg; simp only [hg, Bool.not_true, Bool.not_false]; simp only [Z.x0] at hg)) | (refine Z.V0 rfl ?_ ?_ <;> (intro hc; try simp only [hc]; simp only [Z.x0] at hc)))
                simp only [loopK]
                simp only [St.keep, St.get, reduceIte, Nat.reduceEqDiff]
                obtain ⟨k3, k4⟩ := Lay.grown (fr := idx 0 0 (st.take i)) (fr' := idx 0 0 (st.take i) ++ [(i : Int)]) l1 l2 l4 l5 l6 hfb (by simp)
                rw [← e] at k4
                refine ⟨n, by omega, i + 1, _, ?_, hK.trans k4, by omega, rfl⟩
                rw [e0]
                exact k3
              · have d5 : (st.getD i 0 == 0) = false := by simpa using hs
                rw [if_neg hs] at e0
                repeat' (first | ((first | refine Z.W0 ?_ | refine Z.X0 ?_); simp only [go_sem, seval, alen, aidx, aload, isAggD, d4, d5, l1, l2, gi, w1]; try (simp (disch := omega) only [Z.w0]; try simp only [go_sem, seval, alen, aidx, aload, isAggD, d4, d5, l1, l2, gi, w1])) | (refine hF _ _ ?_; clear hF F) | (refine Z.p0 ?_; simp only [St.put]) | refine Z.a0 ?_ | refine Z.b0 ?_ | refine Z.c0 ?_ | refine Z.d0 ?_ | refine Z.e0 ?_ | refine Z.f0 ?_ | refine Z.g0 ?_ | refine Z.h0 ?_ | refine Z.i0 rfl ?_ | refine Z.j0 ?_ | refine Z.k0 ?_ | refine Z.l0 ?_ | refine Z.m0 ?_ | refine Z.n0 ?_ | refine Z.o0 ?_ | refine Z.q0 rfl rfl fun F hF => ?_ | refine Z.r0 rfl rfl rfl rfl fun F hF => ?_ | refine Z.A0 rfl rfl rfl fun F hF => ?_ | refine Z.B0 rfl rfl rfl fun F hF => ?_ | refine Z.s0 rfl rfl rfl rfl ?_ | (refine Z.D0 ?_; simp only [St.put]) | refine Z.E0 rfl rfl rfl ?_ | refine Z.F0 rfl rfl rfl ?_ | (refine hF _ _ ?_ ?_ <;> clear hF F) | refine Z.T0 rfl ?_ | refine Z.U0 rfl ?_ | (refine Z.t0 rfl rfl rfl rfl ?_ ?_ <;> (intro hg; simp only [hg, Bool.not_true, Bool.not_false]; simp only [Z.x0] at hg)) | refine And.intro (by omega) ?_ | ((first | refine Z.G0 rfl rfl rfl rfl rfl ?_ ?_ | refine Z.M0 rfl rfl rfl rfl rfl ?_ ?_) <;> (intro hg; simp only [hg, Bool.not_true, Bool.not_false]; simp only [Z.x0] at hg)) | (refine Z.V0 rfl ?_ ?_ <;> (intro hc; try simp only [hc]; simp only [Z.x0] at hc)))
                simp only [loopK]
                simp only [St.keep, St.get, reduceIte, Nat.reduceEqDiff]
                exact ⟨n, by omega, i + 1, F, by rw [e0]; exact hL, hK, by omega, rfl⟩
        | succ n =>
          have hk : k < us.length := by omega
          have d3 : decide ((k : Int) < (us.length : Int)) = true := by simp; omega
          rw [List.drop_eq_getElem_cons hk, getD_of hk] at hg
          obtain ⟨p, hp1, hp2⟩ := hz2 H' hkp k hk
          generalize us.getD k 0 = u at *
          repeat' (first | ((first | refine Z.W0 ?_ | refine Z.X0 ?_); simp only [go_sem, seval, alen, aload, isAggD, d3]; try (simp (disch := omega) only [Z.w0]; try simp only [go_sem, seval, alen, aload, isAggD, d3])) | (refine hF _ _ ?_; clear hF F) | (refine Z.p0 ?_; simp only [St.put]) | refine Z.a0 ?_ | refine Z.b0 ?_ | refine Z.c0 ?_ | refine Z.d0 ?_ | refine Z.e0 ?_ | refine Z.f0 ?_ | refine Z.g0 ?_ | refine Z.h0 ?_ | refine Z.i0 rfl ?_ | refine Z.j0 ?_ | refine Z.k0 ?_ | refine Z.l0 ?_ | refine Z.m0 ?_ | refine Z.n0 ?_ | refine Z.o0 ?_ | refine Z.q0 rfl rfl fun F hF => ?_ | refine Z.r0 rfl rfl rfl rfl fun F hF => ?_ | refine Z.A0 rfl rfl rfl fun F hF => ?_ | refine Z.B0 rfl rfl rfl fun F hF => ?_ | refine Z.s0 rfl rfl rfl rfl ?_ | (refine Z.D0 ?_; simp only [St.put]) | refine Z.E0 rfl rfl rfl ?_ | refine Z.F0 rfl rfl rfl ?_ | (refine hF _ _ ?_ ?_ <;> clear hF F) | refine Z.T0 rfl ?_ | refine Z.U0 rfl ?_ | (refine Z.t0 rfl rfl rfl rfl ?_ ?_ <;> (intro hg; simp only [hg, Bool.not_true, Bool.not_false]; simp only [Z.x0] at hg)) | refine And.intro (by omega) ?_ | ((first | refine Z.G0 rfl rfl rfl rfl rfl ?_ ?_ | refine Z.M0 rfl rfl rfl rfl rfl ?_ ?_) <;> (intro hg; simp only [hg, Bool.not_true, Bool.not_false]; simp only [Z.x0] at hg)) | (refine Z.V0 rfl ?_ ?_ <;> (intro hc; try simp only [hc]; simp only [Z.x0] at hc)))
          refine hp1 _ ?_
          refine hF _ _ ?_
          clear hF F
          repeat' (first | ((first | refine Z.W0 ?_ | refine Z.X0 ?_); simp only [go_sem, seval, alen, isAggD, d3]; try (simp (disch := omega) only [Z.w0]; try simp only [go_sem, seval, alen, isAggD, d3])) | (refine hF _ _ ?_; clear hF F) | (refine Z.p0 ?_; simp only [St.put]) | refine Z.a0 ?_ | refine Z.b0 ?_ | refine Z.c0 ?_ | refine Z.d0 ?_ | refine Z.e0 ?_ | refine Z.f0 ?_ | refine Z.g0 ?_ | refine Z.h0 ?_ | refine Z.i0 rfl ?_ | refine Z.j0 ?_ | refine Z.k0 ?_ | refine Z.l0 ?_ | refine Z.m0 ?_ | refine Z.n0 ?_ | refine Z.o0 ?_ | refine Z.q0 rfl rfl fun F hF => ?_ | refine Z.r0 rfl rfl rfl rfl fun F hF => ?_ | refine Z.A0 rfl rfl rfl fun F hF => ?_ | refine Z.B0 rfl rfl rfl fun F hF => ?_ | refine Z.s0 rfl rfl rfl rfl ?_ | (refine Z.D0 ?_; simp only [St.put]) | refine Z.E0 rfl rfl rfl ?_ | refine Z.F0 rfl rfl rfl ?_ | (refine hF _ _ ?_ ?_ <;> clear hF F) | refine Z.T0 rfl ?_ | refine Z.U0 rfl ?_ | (refine Z.t0 rfl rfl rfl rfl ?_ ?_ <;> (intro hg; simp only [hg, Bool.not_true, Bool.not_false]; simp only [Z.x0] at hg)) | refine And.intro (by omega) ?_ | ((first | refine Z.G0 rfl rfl rfl rfl rfl ?_ ?_ | refine Z.M0 rfl rfl rfl rfl rfl ?_ ?_) <;> (intro hg; simp only [hg, Bool.not_true, Bool.not_false]; simp only [Z.x0] at hg)) | (refine Z.V0 rfl ?_ ?_ <;> (intro hc; try simp only [hc]; simp only [Z.x0] at hc)))
          refine hp2 _ ?_
          refine hF _ _ ?_
          clear hF F
          simp only [newGo] at hg
          by_cases hu : u < 0 ∨ (st.length : Int) ≤ u ∨ st.getD u.toNat 0 ≠ 0
          · rw [if_pos hu] at hg
            have hend : K (.tup [.v (.pointer none), .v (.int .i64 1)]) H' := h2 _ hg.symm ⟨fun q _ hq => hkp q hq, fun q hq => by cases hq⟩
            by_cases hu1 : u < 0
            · have d4 : decide (u < 0) = true := decide_eq_true hu1
              repeat' (first | ((first | refine Z.W0 ?_ | refine Z.X0 ?_); simp only [go_sem, seval, alen, aidx, aload, isAggD, d4]; try (simp (disch := omega) only [Z.w0]; try simp only [go_sem, seval, alen, aidx, aload, isAggD, d4])) | (refine hF _ _ ?_; clear hF F) | (refine Z.p0 ?_; simp only [St.put]) | refine Z.a0 ?_ | refine Z.b0 ?_ | refine Z.c0 ?_ | refine Z.d0 ?_ | refine Z.e0 ?_ | refine Z.f0 ?_ | refine Z.g0 ?_ | refine Z.h0 ?_ | refine Z.i0 rfl ?_ | refine Z.j0 ?_ | refine Z.k0 ?_ | refine Z.l0 ?_ | refine Z.m0 ?_ | refine Z.n0 ?_ | refine Z.o0 ?_ | refine Z.q0 rfl rfl fun F hF => ?_ | refine Z.r0 rfl rfl rfl rfl fun F hF => ?_ | refine Z.A0 rfl rfl rfl fun F hF => ?_ | refine Z.B0 rfl rfl rfl fun F hF => ?_ | refine Z.s0 rfl rfl rfl rfl ?_ | (refine Z.D0 ?_; simp only [St.put]) | refine Z.E0 rfl rfl rfl ?_ | refine Z.F0 rfl rfl rfl ?_ | (refine hF _ _ ?_ ?_ <;> clear hF F) | refine Z.T0 rfl ?_ | refine Z.U0 rfl ?_ | (refine Z.t0 rfl rfl rfl rfl ?_ ?_ <;> (intro hg; simp only [hg, Bool.not_true, Bool.not_false]; simp only [Z.x0] at hg)) | refine And.intro (by omega) ?_ | ((first | refine Z.G0 rfl rfl rfl rfl rfl ?_ ?_ | refine Z.M0 rfl rfl rfl rfl rfl ?_ ?_) <;> (intro hg; simp only [hg, Bool.not_true, Bool.not_false]; simp only [Z.x0] at hg)) | (refine Z.V0 rfl ?_ ?_ <;> (intro hc; try simp only [hc]; simp only [Z.x0] at hc)))
              simp only [retK, ares, pack, Try.results9, St.get, reduceIte, Nat.reduceEqDiff, aload, arow, List.toArray, Array.toList]
              exact hend
            · have d4 : decide (u < 0) = false := decide_eq_false hu1
              by_cases hu2 : u ≥ pages
              · have d5 : decide (u ≥ pages) = true := decide_eq_true hu2
                repeat' (first | ((first | refine Z.W0 ?_ | refine Z.X0 ?_); simp only [go_sem, seval, alen, aidx, aload, isAggD, d4, d5]; try (simp (disch := omega) only [Z.w0]; try simp only [go_sem, seval, alen, aidx, aload, isAggD, d4, d5])) | (refine hF _ _ ?_; clear hF F) | (refine Z.p0 ?_; simp only [St.put]) | refine Z.a0 ?_ | refine Z.b0 ?_ | refine Z.c0 ?_ | refine Z.d0 ?_ | refine Z.e0 ?_ | refine Z.f0 ?_ | refine Z.g0 ?_ | refine Z.h0 ?_ | refine Z.i0 rfl ?_ | refine Z.j0 ?_ | refine Z.k0 ?_ | refine Z.l0 ?_ | refine Z.m0 ?_ | refine Z.n0 ?_ | refine Z.o0 ?_ | refine Z.q0 rfl rfl fun F hF => ?_ | refine Z.r0 rfl rfl rfl rfl fun F hF => ?_ | refine Z.A0 rfl rfl rfl fun F hF => ?_ | refine Z.B0 rfl rfl rfl fun F hF => ?_ | refine Z.s0 rfl rfl rfl rfl ?_ | (refine Z.D0 ?_; simp only [St.put]) | refine Z.E0 rfl rfl rfl ?_ | refine Z.F0 rfl rfl rfl ?_ | (refine hF _ _ ?_ ?_ <;> clear hF F) | refine Z.T0 rfl ?_ | refine Z.U0 rfl ?_ | (refine Z.t0 rfl rfl rfl rfl ?_ ?_ <;> (intro hg; simp only [hg, Bool.not_true, Bool.not_false]; simp only [Z.x0] at hg)) | refine And.intro (by omega) ?_ | ((first | refine Z.G0 rfl rfl rfl rfl rfl ?_ ?_ | refine Z.M0 rfl rfl rfl rfl rfl ?_ ?_) <;> (intro hg; simp only [hg, Bool.not_true, Bool.not_false]; simp only [Z.x0] at hg)) | (refine Z.V0 rfl ?_ ?_ <;> (intro hc; try simp only [hc]; simp only [Z.x0] at hc)))
                simp only [retK, ares, pack, Try.results9, St.get, reduceIte, Nat.reduceEqDiff, aload, arow, List.toArray, Array.toList]
                exact hend
              · have d5 : decide (u ≥ pages) = false := decide_eq_false hu2
                have gi := bv_row (st := st) (k := u.toNat) (by omega)
                have d6 : (st.getD u.toNat 0 != 0) = true := by
                  rw [bne_iff_ne]
                  rcases hu with h | h | h
                  · exact absurd h hu1
                  · omega
                  · exact h
                repeat' (first | ((first | refine Z.W0 ?_ | refine Z.X0 ?_); simp only [go_sem, seval, alen, aidx, aload, isAggD, d4, d5, d6, g1, g2, gi]; try (simp (disch := omega) only [Z.w0]; try simp only [go_sem, seval, alen, aidx, aload, isAggD, d4, d5, d6, g1, g2, gi])) | (refine hF _ _ ?_; clear hF F) | (refine Z.p0 ?_; simp only [St.put]) | refine Z.a0 ?_ | refine Z.b0 ?_ | refine Z.c0 ?_ | refine Z.d0 ?_ | refine Z.e0 ?_ | refine Z.f0 ?_ | refine Z.g0 ?_ | refine Z.h0 ?_ | refine Z.i0 rfl ?_ | refine Z.j0 ?_ | refine Z.k0 ?_ | refine Z.l0 ?_ | refine Z.m0 ?_ | refine Z.n0 ?_ | refine Z.o0 ?_ | refine Z.q0 rfl rfl fun F hF => ?_ | refine Z.r0 rfl rfl rfl rfl fun F hF => ?_ | refine Z.A0 rfl rfl rfl fun F hF => ?_ | refine Z.B0 rfl rfl rfl fun F hF => ?_ | refine Z.s0 rfl rfl rfl rfl ?_ | (refine Z.D0 ?_; simp only [St.put]) | refine Z.E0 rfl rfl rfl ?_ | refine Z.F0 rfl rfl rfl ?_ | (refine hF _ _ ?_ ?_ <;> clear hF F) | refine Z.T0 rfl ?_ | refine Z.U0 rfl ?_ | (refine Z.t0 rfl rfl rfl rfl ?_ ?_ <;> (intro hg; simp only [hg, Bool.not_true, Bool.not_false]; simp only [Z.x0] at hg)) | refine And.intro (by omega) ?_ | ((first | refine Z.G0 rfl rfl rfl rfl rfl ?_ ?_ | refine Z.M0 rfl rfl rfl rfl rfl ?_ ?_) <;> (intro hg; simp only [hg, Bool.not_true, Bool.not_false]; simp only [Z.x0] at hg)) | (refine Z.V0 rfl ?_ ?_ <;> (intro hc; try simp only [hc]; simp only [Z.x0] at hc)))
                simp only [retK, ares, pack, Try.results9, St.get, reduceIte, Nat.reduceEqDiff, aload, arow, List.toArray, Array.toList]
                exact hend
          · rw [if_neg hu] at hg
            have hu1 : ¬ u < 0 := fun h => hu (.inl h)
            have hu2 : ¬ (st.length : Int) ≤ u := fun h => hu (.inr (.inl h))
            have hu3 : st.getD u.toNat 0 = 0 := Decidable.not_not.1 fun h => hu (.inr (.inr h))
            have d4 : decide (u < 0) = false := decide_eq_false hu1
            have d5 : decide (u ≥ pages) = false := by simp; omega
            have d6 : (st.getD u.toNat 0 != 0) = false := by rw [hu3]; rfl
            have gi := bv_row (st := st) (k := u.toNat) (by omega)
            have w1 : IntKind.i64.wrap ((k : Int) + 1) = ((k + 1 : Nat) : Int) := by rw [wrap_of] <;> omega
            repeat' (first | ((first | refine Z.W0 ?_ | refine Z.X0 ?_); simp only [go_sem, seval, alen, aidx, aload, isAggD, d4, d5, d6, g1, g2, gi, w1, bv_set]; try (simp (disch := omega) only [Z.w0]; try simp only [go_sem, seval, alen, aidx, aload, isAggD, d4, d5, d6, g1, g2, gi, w1, bv_set])) | (refine hF _ _ ?_; clear hF F) | (refine Z.p0 ?_; simp only [St.put]) | refine Z.a0 ?_ | refine Z.b0 ?_ | refine Z.c0 ?_ | refine Z.d0 ?_ | refine Z.e0 ?_ | refine Z.f0 ?_ | refine Z.g0 ?_ | refine Z.h0 ?_ | refine Z.i0 rfl ?_ | refine Z.j0 ?_ | refine Z.k0 ?_ | refine Z.l0 ?_ | refine Z.m0 ?_ | refine Z.n0 ?_ | refine Z.o0 ?_ | refine Z.q0 rfl rfl fun F hF => ?_ | refine Z.r0 rfl rfl rfl rfl fun F hF => ?_ | refine Z.A0 rfl rfl rfl fun F hF => ?_ | refine Z.B0 rfl rfl rfl fun F hF => ?_ | refine Z.s0 rfl rfl rfl rfl ?_ | (refine Z.D0 ?_; simp only [St.put]) | refine Z.E0 rfl rfl rfl ?_ | refine Z.F0 rfl rfl rfl ?_ | (refine hF _ _ ?_ ?_ <;> clear hF F) | refine Z.T0 rfl ?_ | refine Z.U0 rfl ?_ | (refine Z.t0 rfl rfl rfl rfl ?_ ?_ <;> (intro hg; simp only [hg, Bool.not_true, Bool.not_false]; simp only [Z.x0] at hg)) | refine And.intro (by omega) ?_ | ((first | refine Z.G0 rfl rfl rfl rfl rfl ?_ ?_ | refine Z.M0 rfl rfl rfl rfl rfl ?_ ?_) <;> (intro hg; simp only [hg, Bool.not_true, Bool.not_false]; simp only [Z.x0] at hg)) | (refine Z.V0 rfl ?_ ?_ <;> (intro hc; try simp only [hc]; simp only [Z.x0] at hc)))
            simp only [loopK]
            simp only [St.keep, St.get, reduceIte, Nat.reduceEqDiff]
            refine ⟨n, by omega, k + 1, st.set u.toNat 1, ⟨?_, AH.set_same .., fun q q1 q2 => ?_⟩, hg, by simp [hl], by omega, rfl⟩
            · rw [AH.set_ne _ _ hbb, g1]
            · rw [AH.set_ne _ _ q2, g3 q q1 q2]
end Go.Proofs.Ytcmakpkdliiigaa
