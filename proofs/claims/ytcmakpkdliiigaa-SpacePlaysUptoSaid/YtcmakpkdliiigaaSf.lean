/- A turn, and the lists of those in use. -/
import Derived.Test.YtcmakpkdliiigaaSe
namespace Go.Proofs.Ytcmakpkdliiigaa
set_option maxHeartbeats 8000000
set_option linter.all false
open Go Go.Fw
attribute [local irreducible] Reg RegD seqK blockK loopK retK
set_option maxRecDepth 10000

def turnS : Nat → Nat → List Int → List Int → Int → List Int × List Int × Int
  | 0, _, st, fr, m => (st, fr, m)
  | n + 1, i, st, fr, m => if st.getD i 0 = 2 then turnS n (i + 1) (st.set i 0) (push fr i) (m + 1) else turnS n (i + 1) st fr m
theorem turn_go {n i : Nat} {st fr : List Int} {m : Int} (h : st.getD i 0 = 2) : turnS (n + 1) i st fr m = turnS n (i + 1) (st.set i 0) (push fr i) (m + 1) := by simp only [turnS]; rw [if_pos h]
theorem turn_no {n i : Nat} {st fr : List Int} {m : Int} (h : ¬ st.getD i 0 = 2) : turnS (n + 1) i st fr m = turnS n (i + 1) st fr m := by simp only [turnS]; rw [if_neg h]
theorem push_len (fr : List Int) (n : Int) : (push fr n).length = fr.length + 1 := by simp [push, up_len]

theorem turn_ok {H : AH} {b b1 : Nat} {c1 : Option Nat} {F : List Nat} {st fr : List Int} {K : AV → AH → Prop} (h : Lay H b b1 c1 F st fr) (hbig : fr.length + st.length ≤ 100000000)
    (h1 : ∀ H' F', Lay H' b b1 c1 F' (turnS st.length 0 st fr 0).1 (turnS st.length 0 st fr 0).2.1 → Keeps H F H' F' → K (.v (.int .i64 (turnS st.length 0 st fr 0).2.2)) H') :
    CallOK Try.prog 15 [.ptr b 2 0 0] H K := by
  have hh := h
  obtain ⟨ob, y, hb, hb1, h3, h4, h5, h6, e⟩ := hh
  refine CallOK.of_body Try.func15 nm15 rfl ?_; simp only [Try.ntmps15, List.length_cons, List.length_nil, argSt, Nat.reduceAdd, Nat.reduceSub]
  repeat' (first | ((first | refine Z.W0 ?_ | refine Z.X0 ?_); simp only [go_sem, seval, alen, aidx, aload, isAggD, hb, hb1]; try (simp (disch := omega) only [Z.w0]; try simp only [go_sem, seval, alen, aidx, aload, isAggD, hb, hb1])) | (refine hF _ _ ?_; clear hF F) | (refine Z.p0 ?_; simp only [St.put]) | refine Z.a0 ?_ | refine Z.b0 ?_ | refine Z.c0 ?_ | refine Z.d0 ?_ | refine Z.e0 ?_ | refine Z.f0 ?_ | refine Z.g0 ?_ | refine Z.h0 ?_ | refine Z.i0 rfl ?_ | refine Z.j0 ?_ | refine Z.k0 ?_ | refine Z.l0 ?_ | refine Z.m0 ?_ | refine Z.n0 ?_ | refine Z.o0 ?_ | refine Z.q0 rfl rfl fun F hF => ?_ | refine Z.r0 rfl rfl rfl rfl fun F hF => ?_ | refine Z.A0 rfl rfl rfl fun F hF => ?_ | refine Z.B0 rfl rfl rfl fun F hF => ?_ | refine Z.s0 rfl rfl rfl rfl ?_ | (refine Z.D0 ?_; simp only [St.put]) | refine Z.E0 rfl rfl rfl ?_ | refine Z.F0 rfl rfl rfl ?_ | (refine hF _ _ ?_ ?_ <;> clear hF F) | refine Z.T0 rfl ?_ | refine Z.U0 rfl ?_ | (refine Z.t0 rfl rfl rfl rfl ?_ ?_ <;> (intro hg; simp only [hg, Bool.not_true, Bool.not_false]; simp only [Z.x0] at hg)) | refine And.intro (by omega) ?_ | ((first | refine Z.G0 rfl rfl rfl rfl rfl ?_ ?_ | refine Z.M0 rfl rfl rfl rfl rfl ?_ ?_) <;> (intro hg; simp only [hg, Bool.not_true, Bool.not_false]; simp only [Z.x0] at hg)) | (refine Z.V0 rfl ?_ ?_ <;> (intro hc; try simp only [hc]; simp only [Z.x0] at hc)))
  clear hb hb1 h3 h5 h6 e
  refine W_loop [0, 3, 9, 10, 11] (fun n s H' => ∃ (i : Nat) (st' fr' : List Int) (m : Int) (F' : List Nat), Lay H' b b1 c1 F' st' fr' ∧ Keeps H F H' F' ∧ turnS n i st' fr' m = turnS st.length 0 st fr 0 ∧ n + i = st.length ∧ st'.length = st.length ∧ fr'.length ≤ fr.length + i ∧ 0 ≤ m ∧ m ≤ i ∧
      s = [(0, .ptr b 2 0 0), (3, .v (.int .i64 m)), (9, .ov (some b1) 0 1 st.length c1), (10, .v (.int .i64 st.length)), (11, .v (.int .i64 i))]) st.length ?_ ?_
  · simp only [St.keep, St.get, reduceIte, Nat.reduceEqDiff]
    exact ⟨0, st, fr, 0, F, h, .refl _ _, rfl, by omega, rfl, by omega, by omega, by omega, rfl⟩
  · rintro n s H' ⟨i, st', fr', m, F', h', hk, ht, hn, hl, hf, hm, hmi, rfl⟩
    have hh := h'
    obtain ⟨ob, y, hb, hb1, h3, h4, h5, h6, e⟩ := hh
    cases n with
    | zero =>
      have d1 : decide ((i : Int) < (st.length : Int)) = false := by simp; omega
      repeat' (first | ((first | refine Z.W0 ?_ | refine Z.X0 ?_); simp only [go_sem, seval, alen, aidx, aload, isAggD, d1]; try (simp (disch := omega) only [Z.w0]; try simp only [go_sem, seval, alen, aidx, aload, isAggD, d1])) | (refine hF _ _ ?_; clear hF F) | (refine Z.p0 ?_; simp only [St.put]) | refine Z.a0 ?_ | refine Z.b0 ?_ | refine Z.c0 ?_ | refine Z.d0 ?_ | refine Z.e0 ?_ | refine Z.f0 ?_ | refine Z.g0 ?_ | refine Z.h0 ?_ | refine Z.i0 rfl ?_ | refine Z.j0 ?_ | refine Z.k0 ?_ | refine Z.l0 ?_ | refine Z.m0 ?_ | refine Z.n0 ?_ | refine Z.o0 ?_ | refine Z.q0 rfl rfl fun F hF => ?_ | refine Z.r0 rfl rfl rfl rfl fun F hF => ?_ | refine Z.A0 rfl rfl rfl fun F hF => ?_ | refine Z.B0 rfl rfl rfl fun F hF => ?_ | refine Z.s0 rfl rfl rfl rfl ?_ | (refine Z.D0 ?_; simp only [St.put]) | refine Z.E0 rfl rfl rfl ?_ | refine Z.F0 rfl rfl rfl ?_ | (refine hF _ _ ?_ ?_ <;> clear hF F) | refine Z.T0 rfl ?_ | refine Z.U0 rfl ?_ | (refine Z.t0 rfl rfl rfl rfl ?_ ?_ <;> (intro hg; simp only [hg, Bool.not_true, Bool.not_false]; simp only [Z.x0] at hg)) | refine And.intro (by omega) ?_ | ((first | refine Z.G0 rfl rfl rfl rfl rfl ?_ ?_ | refine Z.M0 rfl rfl rfl rfl rfl ?_ ?_) <;> (intro hg; simp only [hg, Bool.not_true, Bool.not_false]; simp only [Z.x0] at hg)) | (refine Z.V0 rfl ?_ ?_ <;> (intro hc; try simp only [hc]; simp only [Z.x0] at hc)))
      simp only [retK, ares, pack, Try.results15, St.get, reduceIte, Nat.reduceEqDiff, aload, arow, List.toArray, Array.toList]
      rw [← ht] at h1
      exact h1 _ _ h' hk
    | succ n =>
      have d1 : decide ((i : Int) < (st.length : Int)) = true := by simp; omega
      have gi := bv_row (st := st') (k := i) (by omega)
      have w1 : IntKind.i64.wrap ((i : Int) + 1) = ((i + 1 : Nat) : Int) := by rw [wrap_of] <;> omega
      by_cases h2 : st'.getD i 0 = 2
      · have d2 : (st'.getD i 0 == 2) = true := by rw [h2]; rfl
        rw [turn_go h2] at ht
        have hd : (i : Int) < (st'.length : Int) := by omega
        repeat' (first | ((first | refine Z.W0 ?_ | refine Z.X0 ?_); simp only [go_sem, seval, alen, aidx, aload, isAggD, d1, d2, hb, hb1, gi, w1, bv_set, h4, h4.symm, AH.set_ne, hd]; try (simp (disch := omega) only [Z.w0]; try simp only [go_sem, seval, alen, aidx, aload, isAggD, d1, d2, hb, hb1, gi, w1, bv_set, h4, h4.symm, AH.set_ne, hd])) | (refine hF _ _ ?_; clear hF F) | (refine Z.p0 ?_; simp only [St.put]) | refine Z.a0 ?_ | refine Z.b0 ?_ | refine Z.c0 ?_ | refine Z.d0 ?_ | refine Z.e0 ?_ | refine Z.f0 ?_ | refine Z.g0 ?_ | refine Z.h0 ?_ | refine Z.i0 rfl ?_ | refine Z.j0 ?_ | refine Z.k0 ?_ | refine Z.l0 ?_ | refine Z.m0 ?_ | refine Z.n0 ?_ | refine Z.o0 ?_ | refine Z.q0 rfl rfl fun F hF => ?_ | refine Z.r0 rfl rfl rfl rfl fun F hF => ?_ | refine Z.A0 rfl rfl rfl fun F hF => ?_ | refine Z.B0 rfl rfl rfl fun F hF => ?_ | refine Z.s0 rfl rfl rfl rfl ?_ | (refine Z.D0 ?_; simp only [St.put]) | refine Z.E0 rfl rfl rfl ?_ | refine Z.F0 rfl rfl rfl ?_ | (refine hF _ _ ?_ ?_ <;> clear hF F) | refine Z.T0 rfl ?_ | refine Z.U0 rfl ?_ | (refine Z.t0 rfl rfl rfl rfl ?_ ?_ <;> (intro hg; simp only [hg, Bool.not_true, Bool.not_false]; simp only [Z.x0] at hg)) | refine And.intro (by omega) ?_ | ((first | refine Z.G0 rfl rfl rfl rfl rfl ?_ ?_ | refine Z.M0 rfl rfl rfl rfl rfl ?_ ?_) <;> (intro hg; simp only [hg, Bool.not_true, Bool.not_false]; simp only [Z.x0] at hg)) | (refine Z.V0 rfl ?_ ?_ <;> (intro hc; try simp only [hc]; simp only [Z.x0] at hc)))
        obtain ⟨k1, k2⟩ := h'.states (st'.set i 0) (by simp)
        refine put_ok (H := H'.set b1 ⟨1, bv (st'.set i 0)⟩) (by rw [AH.set_ne _ _ h4]; exact hb) (h3.keep fun q hq => ?_) h5 (by omega) fun b' hb' => ?_
        · rw [AH.set_ne]; intro e; exact h6 (by rw [hq, e])
        · refine hF _ _ ?_
          clear hF F
          have w2 : IntKind.i64.wrap (m + 1) = m + 1 := by rw [wrap_of] <;> omega
          repeat' (first | ((first | refine Z.W0 ?_ | refine Z.X0 ?_); simp only [go_sem, seval, alen, aidx, aload, isAggD, w1, w2]; try (simp (disch := omega) only [Z.w0]; try simp only [go_sem, seval, alen, aidx, aload, isAggD, w1, w2])) | (refine hF _ _ ?_; clear hF F) | (refine Z.p0 ?_; simp only [St.put]) | refine Z.a0 ?_ | refine Z.b0 ?_ | refine Z.c0 ?_ | refine Z.d0 ?_ | refine Z.e0 ?_ | refine Z.f0 ?_ | refine Z.g0 ?_ | refine Z.h0 ?_ | refine Z.i0 rfl ?_ | refine Z.j0 ?_ | refine Z.k0 ?_ | refine Z.l0 ?_ | refine Z.m0 ?_ | refine Z.n0 ?_ | refine Z.o0 ?_ | refine Z.q0 rfl rfl fun F hF => ?_ | refine Z.r0 rfl rfl rfl rfl fun F hF => ?_ | refine Z.A0 rfl rfl rfl fun F hF => ?_ | refine Z.B0 rfl rfl rfl fun F hF => ?_ | refine Z.s0 rfl rfl rfl rfl ?_ | (refine Z.D0 ?_; simp only [St.put]) | refine Z.E0 rfl rfl rfl ?_ | refine Z.F0 rfl rfl rfl ?_ | (refine hF _ _ ?_ ?_ <;> clear hF F) | refine Z.T0 rfl ?_ | refine Z.U0 rfl ?_ | (refine Z.t0 rfl rfl rfl rfl ?_ ?_ <;> (intro hg; simp only [hg, Bool.not_true, Bool.not_false]; simp only [Z.x0] at hg)) | refine And.intro (by omega) ?_ | ((first | refine Z.G0 rfl rfl rfl rfl rfl ?_ ?_ | refine Z.M0 rfl rfl rfl rfl rfl ?_ ?_) <;> (intro hg; simp only [hg, Bool.not_true, Bool.not_false]; simp only [Z.x0] at hg)) | (refine Z.V0 rfl ?_ ?_ <;> (intro hc; try simp only [hc]; simp only [Z.x0] at hc)))
          simp only [loopK]
          simp only [St.keep, St.get, reduceIte, Nat.reduceEqDiff]
          obtain ⟨k3, k4⟩ := Lay.pushed (H := H'.set b1 ⟨1, bv (st'.set i 0)⟩) (st := st'.set i 0) (fr := fr') (n := i) (y := y) (c1 := c1) (by rw [AH.set_ne _ _ h4, hb]; simp) (AH.set_same ..) h4 h5 h6 hb'
          rw [← e] at k4
          refine ⟨n, by omega, i + 1, st'.set i 0, push fr' i, m + 1, _, ?_, (hk.trans k2).trans (by simpa [push] using k4), ht, by omega, by simp [hl], by rw [push_len]; omega, by omega, by omega, rfl⟩
          simpa [push] using k3
      · have d2 : (st'.getD i 0 == 2) = false := by simpa using h2
        rw [turn_no h2] at ht
        repeat' (first | ((first | refine Z.W0 ?_ | refine Z.X0 ?_); simp only [go_sem, seval, alen, aidx, aload, isAggD, d1, d2, hb, hb1, gi, w1]; try (simp (disch := omega) only [Z.w0]; try simp only [go_sem, seval, alen, aidx, aload, isAggD, d1, d2, hb, hb1, gi, w1])) | (refine hF _ _ ?_; clear hF F) | (refine Z.p0 ?_; simp only [St.put]) | refine Z.a0 ?_ | refine Z.b0 ?_ | refine Z.c0 ?_ | refine Z.d0 ?_ | refine Z.e0 ?_ | refine Z.f0 ?_ | refine Z.g0 ?_ | refine Z.h0 ?_ | refine Z.i0 rfl ?_ | refine Z.j0 ?_ | refine Z.k0 ?_ | refine Z.l0 ?_ | refine Z.m0 ?_ | refine Z.n0 ?_ | refine Z.o0 ?_ | refine Z.q0 rfl rfl fun F hF => ?_ | refine Z.r0 rfl rfl rfl rfl fun F hF => ?_ | refine Z.A0 rfl rfl rfl fun F hF => ?_ | refine Z.B0 rfl rfl rfl fun F hF => ?_ | refine Z.s0 rfl rfl rfl rfl ?_ | (refine Z.D0 ?_; simp only [St.put]) | refine Z.E0 rfl rfl rfl ?_ | refine Z.F0 rfl rfl rfl ?_ | (refine hF _ _ ?_ ?_ <;> clear hF F) | refine Z.T0 rfl ?_ | refine Z.U0 rfl ?_ | (refine Z.t0 rfl rfl rfl rfl ?_ ?_ <;> (intro hg; simp only [hg, Bool.not_true, Bool.not_false]; simp only [Z.x0] at hg)) | refine And.intro (by omega) ?_ | ((first | refine Z.G0 rfl rfl rfl rfl rfl ?_ ?_ | refine Z.M0 rfl rfl rfl rfl rfl ?_ ?_) <;> (intro hg; simp only [hg, Bool.not_true, Bool.not_false]; simp only [Z.x0] at hg)) | (refine Z.V0 rfl ?_ ?_ <;> (intro hc; try simp only [hc]; simp only [Z.x0] at hc)))
        simp only [loopK]
        simp only [St.keep, St.get, reduceIte, Nat.reduceEqDiff]
        exact ⟨n, by omega, i + 1, st', fr', m, F', h', hk, ht, by omega, hl, by omega, hm, by omega, rfl⟩

/-- Where it stands so. -/
def idx (v : Int) : Nat → List Int → List Int
  | _, [] => []
  | k, x :: r => if x = v then (k : Int) :: idx v (k + 1) r else idx v (k + 1) r
theorem idx_app (v : Int) (k : Nat) (a b : List Int) : idx v k (a ++ b) = idx v k a ++ idx v (k + a.length) b := by
  induction a generalizing k with
  | nil => simp [idx]
  | cons x r ih =>
    simp only [List.cons_append, idx, List.length_cons]
    rw [ih, show k + 1 + r.length = k + (r.length + 1) by omega]
    split <;> simp
theorem idx_take (v : Int) (i : Nat) (st : List Int) (h : i < st.length) : idx v 0 (st.take (i + 1)) = if st.getD i 0 = v then idx v 0 (st.take i) ++ [(i : Int)] else idx v 0 (st.take i) := by
  rw [List.take_succ_eq_append_getElem h, idx_app, getD_of h]
  simp only [idx, List.length_take, Nat.zero_add, Nat.min_eq_left (Nat.le_of_lt h)]
  split <;> simp
theorem idx_le (v : Int) (k : Nat) (st : List Int) : (idx v k st).length ≤ st.length := by
  induction st generalizing k with
  | nil => simp [idx]
  | cons x r ih => simp only [idx]; split <;> simp only [List.length_cons] <;> have := ih (k + 1) <;> omega

theorem VecA.fresh_set {H : AH} {y : AV} {ob : Option Nat} {fr : List Int} {b' : Nat} {o : AObj} (h : VecA H y ob fr) (hb : fresh H b') : VecA (H.set b' o) y ob fr := by
  rcases h with ⟨rfl, h⟩ | h
  · refine .inl ⟨rfl, ?_⟩
    cases ob with
    | none => exact h
    | some q =>
      obtain ⟨tl, h⟩ := h
      refine ⟨tl, ?_⟩
      rw [AH.set_ne, h]
      intro e; rw [← e] at hb; rw [hb] at h; cases h
  · exact .inr h

theorem delO_ne {H : AH} {ob : Option Nat} {q : Nat} (h : ob ≠ some q) : delO H ob q = H q := by
  cases ob with
  | none => rfl
  | some q' => simp only [delO]; rw [AH.del_ne]; intro e; exact h (by rw [e])
theorem fresh_ne {H : AH} {ob : Option Nat} {q b' : Nat} {o : AObj} (hq : H q = some o) (hne : ob ≠ some q) (hf : fresh (delO H ob) b') : q ≠ b' := by
  intro e; have := delO_ne (H := H) hne; rw [e, hf] at this; rw [e, ← this] at hq; cases hq

/-- A vector that has grown by one; another block is as it was. -/
theorem VecA.grown {H : AH} {ob : Option Nat} {fr : List Int} {b' : Nat} {v : Int} : VecA ((delO H ob).set b' ⟨1, iv (fr ++ [v])⟩) (.ov (some b') 0 1 (fr.length + 1) none) (some b') (fr ++ [v]) :=
  .inl ⟨by simp, [], by rw [AH.set_same, List.append_nil]⟩

/-- Two vectors that were made since. -/
def Own2 (H H' : AH) (oy oz : Option Nat) : Prop := (∀ q, (H q).isSome = true → H' q = H q) ∧ (∀ q, oy = some q → H q = none) ∧ (∀ q, oz = some q → H q = none) ∧ (∀ q, oy = some q → oz ≠ some q)
theorem Own2.symm {H H' : AH} {oy oz : Option Nat} (h : Own2 H H' oy oz) : Own2 H H' oz oy := ⟨h.1, h.2.2.1, h.2.1, fun q h1 h2 => h.2.2.2 q h2 h1⟩

theorem grow {H H' : AH} {z : AV} {oy oz : Option Nat} {A B : List Int} {b' : Nat} {v : Int} (hz : VecA H' z oz B) (hk : Own2 H H' oy oz) (hf : fresh (delO H' oy) b') :
    VecA ((delO H' oy).set b' ⟨1, iv (A ++ [v])⟩) z oz B ∧ Own2 H ((delO H' oy).set b' ⟨1, iv (A ++ [v])⟩) (some b') oz := by
  obtain ⟨k1, k2, k3, k4⟩ := hk
  have hq : ∀ q o, H' q = some o → oy ≠ some q → ((delO H' oy).set b' ⟨1, iv (A ++ [v])⟩) q = H' q := by
    intro q o hq hne
    rw [AH.set_ne _ _ (fresh_ne hq hne hf), delO_ne hne]
  have hb' : H b' = none := by
    by_cases e : oy = some b'
    · exact k2 _ e
    · have := delO_ne (H := H') e
      rw [hf] at this
      cases hb : H b' with
      | none => rfl
      | some o => rw [k1 b' (by rw [hb]; rfl), hb] at this; cases this
  refine ⟨?_, fun q hs => ?_, fun q e => ?_, k3, fun q e1 e2 => ?_⟩
  · rcases hz with ⟨rfl, h⟩ | h
    · refine .inl ⟨rfl, ?_⟩
      cases oz with
      | none => exact h
      | some q => obtain ⟨tl, h⟩ := h; exact ⟨tl, by rw [hq q _ h (fun e => k4 q e rfl), h]⟩
    · exact .inr h
  · have e := k1 q hs
    cases ho : H q with
    | none => rw [ho] at hs; cases hs
    | some o => rw [ho] at e; rw [hq q o e (fun e' => by rw [k2 q e'] at ho; cases ho), e]
  · cases e; exact hb'
  · cases e1
    rcases hz with ⟨rfl, h⟩ | ⟨_, h, _⟩
    · subst e2
      obtain ⟨tl, h⟩ := h
      exact fresh_ne h (fun e => k4 b' e rfl) hf rfl
    · rw [h] at e2; cases e2

theorem used_ok {H : AH} {b b1 : Nat} {c1 : Option Nat} {F : List Nat} {st fr : List Int} {K : AV → AH → Prop} (h : Lay H b b1 c1 F st fr) (hbig : st.length ≤ 100000000)
    (h1 : ∀ H' y z oy oz, VecA H' y oy (idx 1 0 st) → VecA H' z oz (idx 2 0 st) → Own2 H H' oy oz → K (.tup [y, z]) H') :
    CallOK Try.prog 12 [.ptr b 2 0 0] H K := by
  have hh := h
  obtain ⟨ob, y, hb, hb1, h3, h4, h5, h6, e⟩ := hh
  refine CallOK.of_body Try.func12 nm12 rfl ?_; simp only [Try.ntmps12, List.length_cons, List.length_nil, argSt, Nat.reduceAdd, Nat.reduceSub]
  repeat' (first | ((first | refine Z.W0 ?_ | refine Z.X0 ?_); simp only [go_sem, seval, alen, aidx, aload, isAggD, hb, hb1]; try (simp (disch := omega) only [Z.w0]; try simp only [go_sem, seval, alen, aidx, aload, isAggD, hb, hb1])) | (refine hF _ _ ?_; clear hF F) | (refine Z.p0 ?_; simp only [St.put]) | refine Z.a0 ?_ | refine Z.b0 ?_ | refine Z.c0 ?_ | refine Z.d0 ?_ | refine Z.e0 ?_ | refine Z.f0 ?_ | refine Z.g0 ?_ | refine Z.h0 ?_ | refine Z.i0 rfl ?_ | refine Z.j0 ?_ | refine Z.k0 ?_ | refine Z.l0 ?_ | refine Z.m0 ?_ | refine Z.n0 ?_ | refine Z.o0 ?_ | refine Z.q0 rfl rfl fun F hF => ?_ | refine Z.r0 rfl rfl rfl rfl fun F hF => ?_ | refine Z.A0 rfl rfl rfl fun F hF => ?_ | refine Z.B0 rfl rfl rfl fun F hF => ?_ | refine Z.s0 rfl rfl rfl rfl ?_ | (refine Z.D0 ?_; simp only [St.put]) | refine Z.E0 rfl rfl rfl ?_ | refine Z.F0 rfl rfl rfl ?_ | (refine hF _ _ ?_ ?_ <;> clear hF F) | refine Z.T0 rfl ?_ | refine Z.U0 rfl ?_ | (refine Z.t0 rfl rfl rfl rfl ?_ ?_ <;> (intro hg; simp only [hg, Bool.not_true, Bool.not_false]; simp only [Z.x0] at hg)) | refine And.intro (by omega) ?_ | ((first | refine Z.G0 rfl rfl rfl rfl rfl ?_ ?_ | refine Z.M0 rfl rfl rfl rfl rfl ?_ ?_) <;> (intro hg; simp only [hg, Bool.not_true, Bool.not_false]; simp only [Z.x0] at hg)) | (refine Z.V0 rfl ?_ ?_ <;> (intro hc; try simp only [hc]; simp only [Z.x0] at hc)))
  clear e
  refine W_loop [0, 4, 5, 11, 12, 13] (fun n s H' => ∃ (i : Nat) (y z : AV) (oy oz : Option Nat), VecA H' y oy (idx 1 0 (st.take i)) ∧ VecA H' z oz (idx 2 0 (st.take i)) ∧ Own2 H H' oy oz ∧ n + i = st.length ∧
      s = [(0, .ptr b 2 0 0), (4, y), (5, z), (11, .ov (some b1) 0 1 st.length c1), (12, .v (.int .i64 st.length)), (13, .v (.int .i64 i))]) st.length ?_ ?_
  · simp only [St.keep, St.get, reduceIte, Nat.reduceEqDiff]
    exact ⟨0, .v (.slice none 0 0), .v (.slice none 0 0), none, none, .inr ⟨rfl, rfl, rfl⟩, .inr ⟨rfl, rfl, rfl⟩, ⟨fun _ _ => rfl, (fun _ h => by cases h), (fun _ h => by cases h), (fun _ h => by cases h)⟩, by omega, rfl⟩
  · rintro n s H' ⟨i, y, z, oy, oz, hy, hz, hk, hn, rfl⟩
    have hb1' : H' b1 = some ⟨1, bv st⟩ := by rw [hk.1 b1 (by rw [hb1]; rfl), hb1]
    cases n with
    | zero =>
      have d1 : decide ((i : Int) < (st.length : Int)) = false := by simp; omega
      repeat' (first | ((first | refine Z.W0 ?_ | refine Z.X0 ?_); simp only [go_sem, seval, alen, aidx, aload, isAggD, d1]; try (simp (disch := omega) only [Z.w0]; try simp only [go_sem, seval, alen, aidx, aload, isAggD, d1])) | (refine hF _ _ ?_; clear hF F) | (refine Z.p0 ?_; simp only [St.put]) | refine Z.a0 ?_ | refine Z.b0 ?_ | refine Z.c0 ?_ | refine Z.d0 ?_ | refine Z.e0 ?_ | refine Z.f0 ?_ | refine Z.g0 ?_ | refine Z.h0 ?_ | refine Z.i0 rfl ?_ | refine Z.j0 ?_ | refine Z.k0 ?_ | refine Z.l0 ?_ | refine Z.m0 ?_ | refine Z.n0 ?_ | refine Z.o0 ?_ | refine Z.q0 rfl rfl fun F hF => ?_ | refine Z.r0 rfl rfl rfl rfl fun F hF => ?_ | refine Z.A0 rfl rfl rfl fun F hF => ?_ | refine Z.B0 rfl rfl rfl fun F hF => ?_ | refine Z.s0 rfl rfl rfl rfl ?_ | (refine Z.D0 ?_; simp only [St.put]) | refine Z.E0 rfl rfl rfl ?_ | refine Z.F0 rfl rfl rfl ?_ | (refine hF _ _ ?_ ?_ <;> clear hF F) | refine Z.T0 rfl ?_ | refine Z.U0 rfl ?_ | (refine Z.t0 rfl rfl rfl rfl ?_ ?_ <;> (intro hg; simp only [hg, Bool.not_true, Bool.not_false]; simp only [Z.x0] at hg)) | refine And.intro (by omega) ?_ | ((first | refine Z.G0 rfl rfl rfl rfl rfl ?_ ?_ | refine Z.M0 rfl rfl rfl rfl rfl ?_ ?_) <;> (intro hg; simp only [hg, Bool.not_true, Bool.not_false]; simp only [Z.x0] at hg)) | (refine Z.V0 rfl ?_ ?_ <;> (intro hc; try simp only [hc]; simp only [Z.x0] at hc)))
      simp only [retK, ares, pack, Try.results12, St.get, reduceIte, Nat.reduceEqDiff, aload, arow, List.toArray, Array.toList]
      rw [List.take_of_length_le (by omega)] at hy hz
      exact h1 _ _ _ _ _ hy hz hk
    | succ n =>
      have hi : i < st.length := by omega
      have d1 : decide ((i : Int) < (st.length : Int)) = true := by simp; omega
      have gi := bv_row (st := st) (k := i) (by omega)
      have w1 : IntKind.i64.wrap ((i : Int) + 1) = ((i + 1 : Nat) : Int) := by rw [wrap_of] <;> omega
      have e1 := idx_take 1 i st hi
      have e2 := idx_take 2 i st hi
      have l1 := idx_le 1 0 (st.take i)
      have l2 := idx_le 2 0 (st.take i)
      simp only [List.length_take] at l1 l2
      by_cases hs1 : st.getD i 0 = 1
      · have d2 : (st.getD i 0 == 1) = true := by rw [hs1]; rfl
        rw [hs1] at e1 e2
        simp only [if_true] at e1
        rw [if_neg (by omega)] at e2
        repeat' (first | ((first | refine Z.W0 ?_ | refine Z.X0 ?_); simp only [go_sem, seval, alen, aidx, aload, isAggD, d1, d2, hb1', gi, w1]; try (simp (disch := omega) only [Z.w0]; try simp only [go_sem, seval, alen, aidx, aload, isAggD, d1, d2, hb1', gi, w1])) | (refine hF _ _ ?_; clear hF F) | (refine Z.p0 ?_; simp only [St.put]) | refine Z.a0 ?_ | refine Z.b0 ?_ | refine Z.c0 ?_ | refine Z.d0 ?_ | refine Z.e0 ?_ | refine Z.f0 ?_ | refine Z.g0 ?_ | refine Z.h0 ?_ | refine Z.i0 rfl ?_ | refine Z.j0 ?_ | refine Z.k0 ?_ | refine Z.l0 ?_ | refine Z.m0 ?_ | refine Z.n0 ?_ | refine Z.o0 ?_ | refine Z.q0 rfl rfl fun F hF => ?_ | refine Z.r0 rfl rfl rfl rfl fun F hF => ?_ | refine Z.A0 rfl rfl rfl fun F hF => ?_ | refine Z.B0 rfl rfl rfl fun F hF => ?_ | refine Z.s0 rfl rfl rfl rfl ?_ | (refine Z.D0 ?_; simp only [St.put]) | refine Z.E0 rfl rfl rfl ?_ | refine Z.F0 rfl rfl rfl ?_ | (refine hF _ _ ?_ ?_ <;> clear hF F) | refine Z.T0 rfl ?_ | refine Z.U0 rfl ?_ | (refine Z.t0 rfl rfl rfl rfl ?_ ?_ <;> (intro hg; simp only [hg, Bool.not_true, Bool.not_false]; simp only [Z.x0] at hg)) | refine And.intro (by omega) ?_ | ((first | refine Z.G0 rfl rfl rfl rfl rfl ?_ ?_ | refine Z.M0 rfl rfl rfl rfl rfl ?_ ?_) <;> (intro hg; simp only [hg, Bool.not_true, Bool.not_false]; simp only [Z.x0] at hg)) | (refine Z.V0 rfl ?_ ?_ <;> (intro hc; try simp only [hc]; simp only [Z.x0] at hc)))
        refine app_int Try.underlying22 hy (by omega) fun b' hf => ?_
        refine hF _ _ ?_
        clear hF F
        repeat' (first | ((first | refine Z.W0 ?_ | refine Z.X0 ?_); simp only [go_sem, seval, alen, aidx, aload, isAggD, w1]; try (simp (disch := omega) only [Z.w0]; try simp only [go_sem, seval, alen, aidx, aload, isAggD, w1])) | (refine hF _ _ ?_; clear hF F) | (refine Z.p0 ?_; simp only [St.put]) | refine Z.a0 ?_ | refine Z.b0 ?_ | refine Z.c0 ?_ | refine Z.d0 ?_ | refine Z.e0 ?_ | refine Z.f0 ?_ | refine Z.g0 ?_ | refine Z.h0 ?_ | refine Z.i0 rfl ?_ | refine Z.j0 ?_ | refine Z.k0 ?_ | refine Z.l0 ?_ | refine Z.m0 ?_ | refine Z.n0 ?_ | refine Z.o0 ?_ | refine Z.q0 rfl rfl fun F hF => ?_ | refine Z.r0 rfl rfl rfl rfl fun F hF => ?_ | refine Z.A0 rfl rfl rfl fun F hF => ?_ | refine Z.B0 rfl rfl rfl fun F hF => ?_ | refine Z.s0 rfl rfl rfl rfl ?_ | (refine Z.D0 ?_; simp only [St.put]) | refine Z.E0 rfl rfl rfl ?_ | refine Z.F0 rfl rfl rfl ?_ | (refine hF _ _ ?_ ?_ <;> clear hF F) | refine Z.T0 rfl ?_ | refine Z.U0 rfl ?_ | (refine Z.t0 rfl rfl rfl rfl ?_ ?_ <;> (intro hg; simp only [hg, Bool.not_true, Bool.not_false]; simp only [Z.x0] at hg)) | refine And.intro (by omega) ?_ | ((first | refine Z.G0 rfl rfl rfl rfl rfl ?_ ?_ | refine Z.M0 rfl rfl rfl rfl rfl ?_ ?_) <;> (intro hg; simp only [hg, Bool.not_true, Bool.not_false]; simp only [Z.x0] at hg)) | (refine Z.V0 rfl ?_ ?_ <;> (intro hc; try simp only [hc]; simp only [Z.x0] at hc)))
        simp only [loopK]
        simp only [St.keep, St.get, reduceIte, Nat.reduceEqDiff]
        obtain ⟨g1, g2⟩ := grow (A := idx 1 0 (st.take i)) (v := i) hz hk hf
        refine ⟨n, by omega, i + 1, _, z, _, oz, ?_, ?_, g2, by omega, rfl⟩
        · rw [e1]; exact VecA.grown
        · rw [e2]; exact g1
      · have d2 : (st.getD i 0 == 1) = false := by simpa using hs1
        rw [if_neg hs1] at e1
        by_cases hs2 : st.getD i 0 = 2
        · have d3 : (st.getD i 0 == 2) = true := by rw [hs2]; rfl
          rw [if_pos hs2] at e2
          repeat' (first | ((first | refine Z.W0 ?_ | refine Z.X0 ?_); simp only [go_sem, seval, alen, aidx, aload, isAggD, d1, d2, d3, hb1', gi, w1]; try (simp (disch := omega) only [Z.w0]; try simp only [go_sem, seval, alen, aidx, aload, isAggD, d1, d2, d3, hb1', gi, w1])) | (refine hF _ _ ?_; clear hF F) | (refine Z.p0 ?_; simp only [St.put]) | refine Z.a0 ?_ | refine Z.b0 ?_ | refine Z.c0 ?_ | refine Z.d0 ?_ | refine Z.e0 ?_ | refine Z.f0 ?_ | refine Z.g0 ?_ | refine Z.h0 ?_ | refine Z.i0 rfl ?_ | refine Z.j0 ?_ | refine Z.k0 ?_ | refine Z.l0 ?_ | refine Z.m0 ?_ | refine Z.n0 ?_ | refine Z.o0 ?_ | refine Z.q0 rfl rfl fun F hF => ?_ | refine Z.r0 rfl rfl rfl rfl fun F hF => ?_ | refine Z.A0 rfl rfl rfl fun F hF => ?_ | refine Z.B0 rfl rfl rfl fun F hF => ?_ | refine Z.s0 rfl rfl rfl rfl ?_ | (refine Z.D0 ?_; simp only [St.put]) | refine Z.E0 rfl rfl rfl ?_ | refine Z.F0 rfl rfl rfl ?_ | (refine hF _ _ ?_ ?_ <;> clear hF F) | refine Z.T0 rfl ?_ | refine Z.U0 rfl ?_ | (refine Z.t0 rfl rfl rfl rfl ?_ ?_ <;> (intro hg; simp only [hg, Bool.not_true, Bool.not_false]; simp only [Z.x0] at hg)) | refine And.intro (by omega) ?_ | ((first | refine Z.G0 rfl rfl rfl rfl rfl ?_ ?_ | refine Z.M0 rfl rfl rfl rfl rfl ?_ ?_) <;> (intro hg; simp only [hg, Bool.not_true, Bool.not_false]; simp only [Z.x0] at hg)) | (refine Z.V0 rfl ?_ ?_ <;> (intro hc; try simp only [hc]; simp only [Z.x0] at hc)))
          refine app_int Try.underlying22 hz (by omega) fun b' hf => ?_
          refine hF _ _ ?_
          clear hF F
          repeat' (first | ((first | refine Z.W0 ?_ | refine Z.X0 ?_); simp only [go_sem, seval, alen, aidx, aload, isAggD, w1]; try (simp (disch := omega) only [Z.w0]; try simp only [go_sem, seval, alen, aidx, aload, isAggD, w1])) | (refine hF _ _ ?_; clear hF F) | (refine Z.p0 ?_; simp only [St.put]) | refine Z.a0 ?_ | refine Z.b0 ?_ | refine Z.c0 ?_ | refine Z.d0 ?_ | refine Z.e0 ?_ | refine Z.f0 ?_ | refine Z.g0 ?_ | refine Z.h0 ?_ | refine Z.i0 rfl ?_ | refine Z.j0 ?_ | refine Z.k0 ?_ | refine Z.l0 ?_ | refine Z.m0 ?_ | refine Z.n0 ?_ | refine Z.o0 ?_ | refine Z.q0 rfl rfl fun F hF => ?_ | refine Z.r0 rfl rfl rfl rfl fun F hF => ?_ | refine Z.A0 rfl rfl rfl fun F hF => ?_ | refine Z.B0 rfl rfl rfl fun F hF => ?_ | refine Z.s0 rfl rfl rfl rfl ?_ | (refine Z.D0 ?_; simp only [St.put]) | refine Z.E0 rfl rfl rfl ?_ | refine Z.F0 rfl rfl rfl ?_ | (refine hF _ _ ?_ ?_ <;> clear hF F) | refine Z.T0 rfl ?_ | refine Z.U0 rfl ?_ | (refine Z.t0 rfl rfl rfl rfl ?_ ?_ <;> (intro hg; simp only [hg, Bool.not_true, Bool.not_false]; simp only [Z.x0] at hg)) | refine And.intro (by omega) ?_ | ((first | refine Z.G0 rfl rfl rfl rfl rfl ?_ ?_ | refine Z.M0 rfl rfl rfl rfl rfl ?_ ?_) <;> (intro hg; simp only [hg, Bool.not_true, Bool.not_false]; simp only [Z.x0] at hg)) | (refine Z.V0 rfl ?_ ?_ <;> (intro hc; try simp only [hc]; simp only [Z.x0] at hc)))
          simp only [loopK]
          simp only [St.keep, St.get, reduceIte, Nat.reduceEqDiff]
          obtain ⟨g1, g2⟩ := grow (A := idx 2 0 (st.take i)) (v := i) hy hk.symm hf
          refine ⟨n, by omega, i + 1, y, _, oy, _, ?_, ?_, g2.symm, by omega, rfl⟩
          · rw [e1]; exact g1
          · rw [e2]; exact VecA.grown
        · have d3 : (st.getD i 0 == 2) = false := by simpa using hs2
          rw [if_neg hs2] at e2
          repeat' (first | ((first | refine Z.W0 ?_ | refine Z.X0 ?_); simp only [go_sem, seval, alen, aidx, aload, isAggD, d1, d2, d3, hb1', gi, w1]; try (simp (disch := omega) only [Z.w0]; try simp only [go_sem, seval, alen, aidx, aload, isAggD, d1, d2, d3, hb1', gi, w1])) | (refine hF _ _ ?_; clear hF F) | (refine Z.p0 ?_; simp only [St.put]) | refine Z.a0 ?_ | refine Z.b0 ?_ | refine Z.c0 ?_ | refine Z.d0 ?_ | refine Z.e0 ?_ | refine Z.f0 ?_ | refine Z.g0 ?_ | refine Z.h0 ?_ | refine Z.i0 rfl ?_ | refine Z.j0 ?_ | refine Z.k0 ?_ | refine Z.l0 ?_ | refine Z.m0 ?_ | refine Z.n0 ?_ | refine Z.o0 ?_ | refine Z.q0 rfl rfl fun F hF => ?_ | refine Z.r0 rfl rfl rfl rfl fun F hF => ?_ | refine Z.A0 rfl rfl rfl fun F hF => ?_ | refine Z.B0 rfl rfl rfl fun F hF => ?_ | refine Z.s0 rfl rfl rfl rfl ?_ | (refine Z.D0 ?_; simp only [St.put]) | refine Z.E0 rfl rfl rfl ?_ | refine Z.F0 rfl rfl rfl ?_ | (refine hF _ _ ?_ ?_ <;> clear hF F) | refine Z.T0 rfl ?_ | refine Z.U0 rfl ?_ | (refine Z.t0 rfl rfl rfl rfl ?_ ?_ <;> (intro hg; simp only [hg, Bool.not_true, Bool.not_false]; simp only [Z.x0] at hg)) | refine And.intro (by omega) ?_ | ((first | refine Z.G0 rfl rfl rfl rfl rfl ?_ ?_ | refine Z.M0 rfl rfl rfl rfl rfl ?_ ?_) <;> (intro hg; simp only [hg, Bool.not_true, Bool.not_false]; simp only [Z.x0] at hg)) | (refine Z.V0 rfl ?_ ?_ <;> (intro hc; try simp only [hc]; simp only [Z.x0] at hc)))
          simp only [loopK]
          simp only [St.keep, St.get, reduceIte, Nat.reduceEqDiff]
          rw [← e1] at hy
          rw [← e2] at hz
          exact ⟨n, by omega, i + 1, y, z, oy, oz, hy, hz, hk, by omega, rfl⟩
end Go.Proofs.Ytcmakpkdliiigaa
