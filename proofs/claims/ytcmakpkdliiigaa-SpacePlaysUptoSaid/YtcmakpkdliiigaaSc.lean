/- The heap of the free pages: what a take from it leaves. -/
import Derived.Test.YtcmakpkdliiigaaSb
namespace Go.Proofs.Ytcmakpkdliiigaa
set_option maxHeartbeats 8000000
set_option linter.all false
open Go Go.Fw
attribute [local irreducible] Reg RegD seqK blockK loopK retK
set_option maxRecDepth 10000

theorem iv_set (xs : List Int) (i : Nat) (v : Int) : (iv xs).set i [.v (.int .i64 v)] = iv (xs.set i v) := by simp [iv, List.map_set]

def swp (l : List Int) (i j : Nat) : List Int := (l.set i (l.getD j 0)).set j (l.getD i 0)
theorem swp_len (l : List Int) (i j : Nat) : (swp l i j).length = l.length := by simp [swp]

def kid (n i : Nat) (l : List Int) : Nat := if 2 * i + 2 < n ∧ l.getD (2 * i + 2) 0 < l.getD (2 * i + 1) 0 then 2 * i + 2 else 2 * i + 1

def down (n : Nat) : Nat → Nat → List Int → List Int
  | 0, _, l => l
  | f + 1, i, l => if 2 * i + 1 < n then (if l.getD i 0 ≤ l.getD (kid n i l) 0 then l else down n f (kid n i l) (swp l i (kid n i l))) else l

theorem down_end {n f i : Nat} {l : List Int} (h : ¬ 2 * i + 1 < n) : down n f i l = l := by
  cases f with
  | zero => rfl
  | succ f => simp only [down]; rw [if_neg h]
theorem down_stop {n f i : Nat} {l : List Int} (h2 : l.getD i 0 ≤ l.getD (kid n i l) 0) : down n f i l = l := by
  cases f with
  | zero => rfl
  | succ f => simp only [down]; rw [if_pos h2]; split <;> rfl
theorem down_go {n f i : Nat} {l : List Int} (h : 2 * i + 1 < n) (h2 : ¬ l.getD i 0 ≤ l.getD (kid n i l) 0) : down n (f + 1) i l = down n f (kid n i l) (swp l i (kid n i l)) := by
  simp only [down]; rw [if_pos h, if_neg h2]

theorem getD_of {l : List Int} {k : Nat} (h : k < l.length) : l[k] = l.getD k 0 := by simp [List.getD, h]

theorem least_ok {H : AH} {b b2 m : Nat} {xs : List Int} {x : AV} {K : AV → AH → Prop} (hb : H b = some ⟨2, [[x, .ov (some b2) 0 1 m none]]⟩) (h2 : H b2 = some ⟨1, iv xs⟩) (hne : b ≠ b2) (hm : 1 ≤ m) (hml : m ≤ xs.length) (hbig : m ≤ 1000000000)
    (hk : K (.v (.int .i64 (xs.getD 0 0))) ((H.set b2 ⟨1, iv (down (m - 1) (m - 1) 0 (xs.set 0 (xs.getD (m - 1) 0)))⟩).set b ⟨2, [[x, .ov (some b2) 0 1 (m - 1) none]]⟩)) :
    CallOK Try.prog 22 [.ptr b 2 0 1] H K := by
  refine CallOK.of_body Try.func22 nm22 rfl ?_; simp only [Try.ntmps22, List.length_cons, List.length_nil, argSt, Nat.reduceAdd, Nat.reduceSub]
  have g0 : (iv xs)[0]? = some [.v (.int .i64 (xs.getD 0 0))] := by rw [iv_get (by omega), getD_of]
  have g1 : (iv xs)[m - 1]? = some [.v (.int .i64 (xs.getD (m - 1) 0))] := by rw [iv_get (by omega), getD_of]
  have t1 : ((m : Int) - 1).toNat = m - 1 := by omega
  repeat' (first | ((first | refine Z.W0 ?_ | refine Z.X0 ?_); simp only [go_sem, seval, alen, aidx, aload, Try.underlying55, Try.underlying3, cl3, cl55, iv_len, isAggD, hb, h2, g0, g1, t1, iv_set]; try (simp (disch := omega) only [Z.w0]; try simp only [go_sem, seval, alen, aidx, aload, Try.underlying55, Try.underlying3, cl3, cl55, iv_len, isAggD, hb, h2, g0, g1, t1, iv_set])) | (refine hF _ _ ?_; clear hF F) | (refine Z.p0 ?_; simp only [St.put]) | refine Z.a0 ?_ | refine Z.b0 ?_ | refine Z.c0 ?_ | refine Z.d0 ?_ | refine Z.e0 ?_ | refine Z.f0 ?_ | refine Z.g0 ?_ | refine Z.h0 ?_ | refine Z.i0 rfl ?_ | refine Z.j0 ?_ | refine Z.k0 ?_ | refine Z.l0 ?_ | refine Z.m0 ?_ | refine Z.n0 ?_ | refine Z.o0 ?_ | refine Z.q0 rfl rfl fun F hF => ?_ | refine Z.r0 rfl rfl rfl rfl fun F hF => ?_ | refine Z.A0 rfl rfl rfl fun F hF => ?_ | refine Z.B0 rfl rfl rfl fun F hF => ?_ | refine Z.s0 rfl rfl rfl rfl ?_ | (refine Z.D0 ?_; simp only [St.put]) | refine Z.E0 rfl rfl rfl ?_ | refine Z.F0 rfl rfl rfl ?_ | refine W_drawn (id := 8) [0, 1, 0, 4, 15, 31, 63, 63, 191, 511, 1023, 63, 63, 6207, 14399, 32767, 65535] [.a 0, .a 1, .a 2, .a 3, .a 4, .a 5, .a 6, .a 7, .a 8, .a 9, .a 10, .a 11, .a 12, .a 13, .a 14, .a 15, .a 16] mixed (by decide +kernel) ?_ | refine W_drawn (id := 10) [0, 0, 3, 7, 0, 0, 48, 112, 255] [.a 0, .a 1, .a 2, .a 3, .a 4, .a 5, .a 6, .a 7, .a 8] mixed (by decide +kernel) ?_ | refine W_drawn (id := 11) [0, 0, 0, 0, 0, 0, 48, 112, 0, 0, 768, 1792, 4083, 8179, 16383, 32767] [.a 0, .a 1, .a 2, .a 3, .a 4, .a 5, .a 6, .a 7, .a 8, .a 9, .a 10, .a 11, .a 12, .e 13 [2, 3], .a 14, .e 15 []] mixed (by decide +kernel) ?_ | refine Z.C0 rfl rfl rfl fun F hF => ?_ | (refine hF _ _ ?_ ?_ <;> clear hF F) | refine Z.T0 rfl ?_ | refine Z.U0 rfl ?_ | (refine Z.t0 rfl rfl rfl rfl ?_ ?_ <;> (intro hg; simp only [hg, Bool.not_true, Bool.not_false]; simp only [Z.x0] at hg)) | refine And.intro (by omega) ?_ | ((first | refine Z.G0 rfl rfl rfl rfl rfl ?_ ?_ | refine Z.M0 rfl rfl rfl rfl rfl ?_ ?_) <;> (intro hg; simp only [hg, Bool.not_true, Bool.not_false]; simp only [Z.x0] at hg)) | (refine Z.V0 rfl ?_ ?_ <;> (intro hc; try simp only [hc]; simp only [Z.x0] at hc)))
  refine W_loop [0, 3, 4, 5] (fun n s H' => ∃ (i : Nat) (l : List Int), H' = H.set b2 ⟨1, iv l⟩ ∧ l.length = xs.length ∧ down (m - 1) n i l = down (m - 1) (m - 1) 0 (xs.set 0 (xs.getD (m - 1) 0)) ∧ m - 1 ≤ n + i ∧ 2 * i ≤ m + m ∧
      s = [(0, .ptr b 2 0 1), (3, .ov (some b2) 0 1 (m - 1) none), (4, .v (.int .i64 (xs.getD 0 0))), (5, .v (.int .i64 i))]) (m - 1) ?_ ?_
  · simp only [St.keep, St.get, reduceIte, Nat.reduceEqDiff]
    exact ⟨0, _, rfl, by simp, rfl, by omega, by omega, rfl⟩
  · rintro n s H' ⟨i, l, rfl, hl, hd, hn, hib, rfl⟩
    by_cases h1 : 2 * i + 1 < m - 1
    · have w1 : IntKind.i64.wrap (2 * (i : Int)) = ((2 * i : Nat) : Int) := by rw [wrap_of] <;> omega
      have w2 : IntKind.i64.wrap (((2 * i : Nat) : Int) + 1) = ((2 * i + 1 : Nat) : Int) := by rw [wrap_of] <;> omega
      have w3 : IntKind.i64.wrap (((2 * i + 1 : Nat) : Int) + 1) = ((2 * i + 2 : Nat) : Int) := by rw [wrap_of] <;> omega
      have d1 : decide (((2 * i + 1 : Nat) : Int) < ((m - 1 : Nat) : Int)) = true := by simp; omega
      have gi : (iv l)[i]? = some [.v (.int .i64 (l.getD i 0))] := by rw [iv_get (by omega), getD_of]
      have gk1 : (iv l)[2 * i + 1]? = some [.v (.int .i64 (l.getD (2 * i + 1) 0))] := by rw [iv_get (by omega), getD_of]
      obtain ⟨k, hkd⟩ : ∃ k, kid (m - 1) i l = k := ⟨_, rfl⟩
      have hkb : k < m - 1 := by rw [← hkd]; unfold kid; split <;> omega
      have gk : (iv l)[k]? = some [.v (.int .i64 (l.getD k 0))] := by rw [iv_get (by omega), getD_of]
      have hki : i < k := by rw [← hkd]; unfold kid; split <;> omega
      have gs : (iv (l.set i (l.getD k 0)))[k]? = some [.v (.int .i64 ((l.set i (l.getD k 0)).getD k 0))] := by rw [iv_get (by simp; omega), getD_of]
      by_cases h4 : 2 * i + 2 < m - 1
      · have d2 : decide (((2 * i + 2 : Nat) : Int) < ((m - 1 : Nat) : Int)) = true := by simp; omega
        have gk2 : (iv l)[2 * i + 2]? = some [.v (.int .i64 (l.getD (2 * i + 2) 0))] := by rw [iv_get (by omega), getD_of]
        by_cases h3 : l.getD (2 * i + 2) 0 < l.getD (2 * i + 1) 0
        · have d3 : decide (l.getD (2 * i + 2) 0 < l.getD (2 * i + 1) 0) = true := decide_eq_true h3
          have ek : k = 2 * i + 2 := by rw [← hkd]; unfold kid; rw [if_pos ⟨h4, h3⟩]
          subst ek
          repeat' (first | ((first | refine Z.W0 ?_ | refine Z.X0 ?_); simp only [go_sem, seval, alen, aidx, aload, Try.underlying55, Try.underlying3, cl3, cl55, iv_len, isAggD, hb, h2, hne, hne.symm, iv_set, w1, w2, w3, d1, gi, gk1, AH.set_ne, gk2, gs, d2, d3]; try (simp (disch := omega) only [Z.w0]; try simp only [go_sem, seval, alen, aidx, aload, Try.underlying55, Try.underlying3, cl3, cl55, iv_len, isAggD, hb, h2, hne, hne.symm, iv_set, w1, w2, w3, d1, gi, gk1, AH.set_ne, gk2, gs, d2, d3])) | (refine hF _ _ ?_; clear hF F) | (refine Z.p0 ?_; simp only [St.put]) | refine Z.a0 ?_ | refine Z.b0 ?_ | refine Z.c0 ?_ | refine Z.d0 ?_ | refine Z.e0 ?_ | refine Z.f0 ?_ | refine Z.g0 ?_ | refine Z.h0 ?_ | refine Z.i0 rfl ?_ | refine Z.j0 ?_ | refine Z.k0 ?_ | refine Z.l0 ?_ | refine Z.m0 ?_ | refine Z.n0 ?_ | refine Z.o0 ?_ | refine Z.q0 rfl rfl fun F hF => ?_ | refine Z.r0 rfl rfl rfl rfl fun F hF => ?_ | refine Z.A0 rfl rfl rfl fun F hF => ?_ | refine Z.B0 rfl rfl rfl fun F hF => ?_ | refine Z.s0 rfl rfl rfl rfl ?_ | (refine Z.D0 ?_; simp only [St.put]) | refine Z.E0 rfl rfl rfl ?_ | refine Z.F0 rfl rfl rfl ?_ | refine W_drawn (id := 8) [0, 1, 0, 4, 15, 31, 63, 63, 191, 511, 1023, 63, 63, 6207, 14399, 32767, 65535] [.a 0, .a 1, .a 2, .a 3, .a 4, .a 5, .a 6, .a 7, .a 8, .a 9, .a 10, .a 11, .a 12, .a 13, .a 14, .a 15, .a 16] mixed (by decide +kernel) ?_ | refine W_drawn (id := 10) [0, 0, 3, 7, 0, 0, 48, 112, 255] [.a 0, .a 1, .a 2, .a 3, .a 4, .a 5, .a 6, .a 7, .a 8] mixed (by decide +kernel) ?_ | refine W_drawn (id := 11) [0, 0, 0, 0, 0, 0, 48, 112, 0, 0, 768, 1792, 4083, 8179, 16383, 32767] [.a 0, .a 1, .a 2, .a 3, .a 4, .a 5, .a 6, .a 7, .a 8, .a 9, .a 10, .a 11, .a 12, .e 13 [2, 3], .a 14, .e 15 []] mixed (by decide +kernel) ?_ | refine Z.C0 rfl rfl rfl fun F hF => ?_ | (refine hF _ _ ?_ ?_ <;> clear hF F) | refine Z.T0 rfl ?_ | refine Z.U0 rfl ?_ | (refine Z.t0 rfl rfl rfl rfl ?_ ?_ <;> (intro hg; simp only [hg, Bool.not_true, Bool.not_false]; simp only [Z.x0] at hg)) | refine And.intro (by omega) ?_ | ((first | refine Z.G0 rfl rfl rfl rfl rfl ?_ ?_ | refine Z.M0 rfl rfl rfl rfl rfl ?_ ?_) <;> (intro hg; simp only [hg, Bool.not_true, Bool.not_false]; simp only [Z.x0] at hg)) | (refine Z.V0 rfl ?_ ?_ <;> (intro hc; try simp only [hc]; simp only [Z.x0] at hc)))
          · simp only [retK, ares, pack, Try.results22, St.get, reduceIte, Nat.reduceEqDiff, aload, arow, List.toArray, Array.toList]
            rw [down_stop (n := m - 1) (f := n) (i := i) (l := l) (by rw [hkd]; exact hc)] at hd
            rw [hd]; exact hk
          · simp only [loopK]
            simp only [St.keep, St.get, reduceIte, Nat.reduceEqDiff]
            cases n with
            | zero => omega
            | succ n =>
              rw [down_go h1 (by rw [hkd]; omega), hkd] at hd
              refine ⟨n, by omega, _, _, rfl, ?_, hd, by omega, by omega, rfl⟩
              simp [swp, hl]
        · have d3 : decide (l.getD (2 * i + 2) 0 < l.getD (2 * i + 1) 0) = false := decide_eq_false h3
          have ek : k = 2 * i + 1 := by rw [← hkd]; unfold kid; rw [if_neg fun h => h3 h.2]
          subst ek
          repeat' (first | ((first | refine Z.W0 ?_ | refine Z.X0 ?_); simp only [go_sem, seval, alen, aidx, aload, Try.underlying55, Try.underlying3, cl3, cl55, iv_len, isAggD, hb, h2, hne, hne.symm, iv_set, w1, w2, w3, d1, gi, gk1, AH.set_ne, gk2, gs, d2, d3]; try (simp (disch := omega) only [Z.w0]; try simp only [go_sem, seval, alen, aidx, aload, Try.underlying55, Try.underlying3, cl3, cl55, iv_len, isAggD, hb, h2, hne, hne.symm, iv_set, w1, w2, w3, d1, gi, gk1, AH.set_ne, gk2, gs, d2, d3])) | (refine hF _ _ ?_; clear hF F) | (refine Z.p0 ?_; simp only [St.put]) | refine Z.a0 ?_ | refine Z.b0 ?_ | refine Z.c0 ?_ | refine Z.d0 ?_ | refine Z.e0 ?_ | refine Z.f0 ?_ | refine Z.g0 ?_ | refine Z.h0 ?_ | refine Z.i0 rfl ?_ | refine Z.j0 ?_ | refine Z.k0 ?_ | refine Z.l0 ?_ | refine Z.m0 ?_ | refine Z.n0 ?_ | refine Z.o0 ?_ | refine Z.q0 rfl rfl fun F hF => ?_ | refine Z.r0 rfl rfl rfl rfl fun F hF => ?_ | refine Z.A0 rfl rfl rfl fun F hF => ?_ | refine Z.B0 rfl rfl rfl fun F hF => ?_ | refine Z.s0 rfl rfl rfl rfl ?_ | (refine Z.D0 ?_; simp only [St.put]) | refine Z.E0 rfl rfl rfl ?_ | refine Z.F0 rfl rfl rfl ?_ | refine W_drawn (id := 8) [0, 1, 0, 4, 15, 31, 63, 63, 191, 511, 1023, 63, 63, 6207, 14399, 32767, 65535] [.a 0, .a 1, .a 2, .a 3, .a 4, .a 5, .a 6, .a 7, .a 8, .a 9, .a 10, .a 11, .a 12, .a 13, .a 14, .a 15, .a 16] mixed (by decide +kernel) ?_ | refine W_drawn (id := 10) [0, 0, 3, 7, 0, 0, 48, 112, 255] [.a 0, .a 1, .a 2, .a 3, .a 4, .a 5, .a 6, .a 7, .a 8] mixed (by decide +kernel) ?_ | refine W_drawn (id := 11) [0, 0, 0, 0, 0, 0, 48, 112, 0, 0, 768, 1792, 4083, 8179, 16383, 32767] [.a 0, .a 1, .a 2, .a 3, .a 4, .a 5, .a 6, .a 7, .a 8, .a 9, .a 10, .a 11, .a 12, .e 13 [2, 3], .a 14, .e 15 []] mixed (by decide +kernel) ?_ | refine Z.C0 rfl rfl rfl fun F hF => ?_ | (refine hF _ _ ?_ ?_ <;> clear hF F) | refine Z.T0 rfl ?_ | refine Z.U0 rfl ?_ | (refine Z.t0 rfl rfl rfl rfl ?_ ?_ <;> (intro hg; simp only [hg, Bool.not_true, Bool.not_false]; simp only [Z.x0] at hg)) | refine And.intro (by omega) ?_ | ((first | refine Z.G0 rfl rfl rfl rfl rfl ?_ ?_ | refine Z.M0 rfl rfl rfl rfl rfl ?_ ?_) <;> (intro hg; simp only [hg, Bool.not_true, Bool.not_false]; simp only [Z.x0] at hg)) | (refine Z.V0 rfl ?_ ?_ <;> (intro hc; try simp only [hc]; simp only [Z.x0] at hc)))
          · simp only [retK, ares, pack, Try.results22, St.get, reduceIte, Nat.reduceEqDiff, aload, arow, List.toArray, Array.toList]
            rw [down_stop (n := m - 1) (f := n) (i := i) (l := l) (by rw [hkd]; exact hc)] at hd
            rw [hd]; exact hk
          · simp only [loopK]
            simp only [St.keep, St.get, reduceIte, Nat.reduceEqDiff]
            cases n with
            | zero => omega
            | succ n =>
              rw [down_go h1 (by rw [hkd]; omega), hkd] at hd
              refine ⟨n, by omega, _, _, rfl, ?_, hd, by omega, by omega, rfl⟩
              simp [swp, hl]
      · have d2 : decide (((2 * i + 2 : Nat) : Int) < ((m - 1 : Nat) : Int)) = false := by simp; omega
        have ek : k = 2 * i + 1 := by rw [← hkd]; unfold kid; rw [if_neg fun h => h4 h.1]
        subst ek
        repeat' (first | ((first | refine Z.W0 ?_ | refine Z.X0 ?_); simp only [go_sem, seval, alen, aidx, aload, Try.underlying55, Try.underlying3, cl3, cl55, iv_len, isAggD, hb, h2, hne, hne.symm, iv_set, w1, w2, w3, d1, gi, gk1, AH.set_ne, gs, d2]; try (simp (disch := omega) only [Z.w0]; try simp only [go_sem, seval, alen, aidx, aload, Try.underlying55, Try.underlying3, cl3, cl55, iv_len, isAggD, hb, h2, hne, hne.symm, iv_set, w1, w2, w3, d1, gi, gk1, AH.set_ne, gs, d2])) | (refine hF _ _ ?_; clear hF F) | (refine Z.p0 ?_; simp only [St.put]) | refine Z.a0 ?_ | refine Z.b0 ?_ | refine Z.c0 ?_ | refine Z.d0 ?_ | refine Z.e0 ?_ | refine Z.f0 ?_ | refine Z.g0 ?_ | refine Z.h0 ?_ | refine Z.i0 rfl ?_ | refine Z.j0 ?_ | refine Z.k0 ?_ | refine Z.l0 ?_ | refine Z.m0 ?_ | refine Z.n0 ?_ | refine Z.o0 ?_ | refine Z.q0 rfl rfl fun F hF => ?_ | refine Z.r0 rfl rfl rfl rfl fun F hF => ?_ | refine Z.A0 rfl rfl rfl fun F hF => ?_ | refine Z.B0 rfl rfl rfl fun F hF => ?_ | refine Z.s0 rfl rfl rfl rfl ?_ | (refine Z.D0 ?_; simp only [St.put]) | refine Z.E0 rfl rfl rfl ?_ | refine Z.F0 rfl rfl rfl ?_ | refine W_drawn (id := 8) [0, 1, 0, 4, 15, 31, 63, 63, 191, 511, 1023, 63, 63, 6207, 14399, 32767, 65535] [.a 0, .a 1, .a 2, .a 3, .a 4, .a 5, .a 6, .a 7, .a 8, .a 9, .a 10, .a 11, .a 12, .a 13, .a 14, .a 15, .a 16] mixed (by decide +kernel) ?_ | refine W_drawn (id := 10) [0, 0, 3, 7, 0, 0, 48, 112, 255] [.a 0, .a 1, .a 2, .a 3, .a 4, .a 5, .a 6, .a 7, .a 8] mixed (by decide +kernel) ?_ | refine W_drawn (id := 11) [0, 0, 0, 0, 0, 0, 48, 112, 0, 0, 768, 1792, 4083, 8179, 16383, 32767] [.a 0, .a 1, .a 2, .a 3, .a 4, .a 5, .a 6, .a 7, .a 8, .a 9, .a 10, .a 11, .a 12, .e 13 [2, 3], .a 14, .e 15 []] mixed (by decide +kernel) ?_ | refine Z.C0 rfl rfl rfl fun F hF => ?_ | (refine hF _ _ ?_ ?_ <;> clear hF F) | refine Z.T0 rfl ?_ | refine Z.U0 rfl ?_ | (refine Z.t0 rfl rfl rfl rfl ?_ ?_ <;> (intro hg; simp only [hg, Bool.not_true, Bool.not_false]; simp only [Z.x0] at hg)) | refine And.intro (by omega) ?_ | ((first | refine Z.G0 rfl rfl rfl rfl rfl ?_ ?_ | refine Z.M0 rfl rfl rfl rfl rfl ?_ ?_) <;> (intro hg; simp only [hg, Bool.not_true, Bool.not_false]; simp only [Z.x0] at hg)) | (refine Z.V0 rfl ?_ ?_ <;> (intro hc; try simp only [hc]; simp only [Z.x0] at hc)))
        · simp only [retK, ares, pack, Try.results22, St.get, reduceIte, Nat.reduceEqDiff, aload, arow, List.toArray, Array.toList]
          rw [down_stop (n := m - 1) (f := n) (i := i) (l := l) (by rw [hkd]; exact hc)] at hd
          rw [hd]; exact hk
        · simp only [loopK]
          simp only [St.keep, St.get, reduceIte, Nat.reduceEqDiff]
          cases n with
          | zero => omega
          | succ n =>
            rw [down_go h1 (by rw [hkd]; omega), hkd] at hd
            refine ⟨n, by omega, _, _, rfl, ?_, hd, by omega, by omega, rfl⟩
            simp [swp, hl]
    · have w1 : IntKind.i64.wrap (2 * (i : Int)) = ((2 * i : Nat) : Int) := by rw [wrap_of] <;> omega
      have w2 : IntKind.i64.wrap (((2 * i : Nat) : Int) + 1) = ((2 * i + 1 : Nat) : Int) := by rw [wrap_of] <;> omega
      have d1 : decide (((2 * i + 1 : Nat) : Int) < ((m - 1 : Nat) : Int)) = false := by simp; omega
      rw [down_end h1] at hd
      subst hd
      repeat' (first | ((first | refine Z.W0 ?_ | refine Z.X0 ?_); simp only [go_sem, seval, alen, aidx, aload, Try.underlying55, Try.underlying3, cl3, cl55, isAggD, hb, hne, hne.symm, w1, w2, d1, AH.set_ne]; try (simp (disch := omega) only [Z.w0]; try simp only [go_sem, seval, alen, aidx, aload, Try.underlying55, Try.underlying3, cl3, cl55, isAggD, hb, hne, hne.symm, w1, w2, d1, AH.set_ne])) | (refine hF _ _ ?_; clear hF F) | (refine Z.p0 ?_; simp only [St.put]) | refine Z.a0 ?_ | refine Z.b0 ?_ | refine Z.c0 ?_ | refine Z.d0 ?_ | refine Z.e0 ?_ | refine Z.f0 ?_ | refine Z.g0 ?_ | refine Z.h0 ?_ | refine Z.i0 rfl ?_ | refine Z.j0 ?_ | refine Z.k0 ?_ | refine Z.l0 ?_ | refine Z.m0 ?_ | refine Z.n0 ?_ | refine Z.o0 ?_ | refine Z.q0 rfl rfl fun F hF => ?_ | refine Z.r0 rfl rfl rfl rfl fun F hF => ?_ | refine Z.A0 rfl rfl rfl fun F hF => ?_ | refine Z.B0 rfl rfl rfl fun F hF => ?_ | refine Z.s0 rfl rfl rfl rfl ?_ | (refine Z.D0 ?_; simp only [St.put]) | refine Z.E0 rfl rfl rfl ?_ | refine Z.F0 rfl rfl rfl ?_ | refine W_drawn (id := 8) [0, 1, 0, 4, 15, 31, 63, 63, 191, 511, 1023, 63, 63, 6207, 14399, 32767, 65535] [.a 0, .a 1, .a 2, .a 3, .a 4, .a 5, .a 6, .a 7, .a 8, .a 9, .a 10, .a 11, .a 12, .a 13, .a 14, .a 15, .a 16] mixed (by decide +kernel) ?_ | refine W_drawn (id := 10) [0, 0, 3, 7, 0, 0, 48, 112, 255] [.a 0, .a 1, .a 2, .a 3, .a 4, .a 5, .a 6, .a 7, .a 8] mixed (by decide +kernel) ?_ | refine W_drawn (id := 11) [0, 0, 0, 0, 0, 0, 48, 112, 0, 0, 768, 1792, 4083, 8179, 16383, 32767] [.a 0, .a 1, .a 2, .a 3, .a 4, .a 5, .a 6, .a 7, .a 8, .a 9, .a 10, .a 11, .a 12, .e 13 [2, 3], .a 14, .e 15 []] mixed (by decide +kernel) ?_ | refine Z.C0 rfl rfl rfl fun F hF => ?_ | (refine hF _ _ ?_ ?_ <;> clear hF F) | refine Z.T0 rfl ?_ | refine Z.U0 rfl ?_ | (refine Z.t0 rfl rfl rfl rfl ?_ ?_ <;> (intro hg; simp only [hg, Bool.not_true, Bool.not_false]; simp only [Z.x0] at hg)) | refine And.intro (by omega) ?_ | ((first | refine Z.G0 rfl rfl rfl rfl rfl ?_ ?_ | refine Z.M0 rfl rfl rfl rfl rfl ?_ ?_) <;> (intro hg; simp only [hg, Bool.not_true, Bool.not_false]; simp only [Z.x0] at hg)) | (refine Z.V0 rfl ?_ ?_ <;> (intro hc; try simp only [hc]; simp only [Z.x0] at hc)))
      simp only [retK, ares, pack, Try.results22, St.get, reduceIte, Nat.reduceEqDiff, aload, arow, List.toArray, Array.toList]
      exact hk
end Go.Proofs.Ytcmakpkdliiigaa
