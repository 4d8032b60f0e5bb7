/- The heap of the free pages: what a put into it leaves. -/
import Derived.Test.YtcmakpkdliiigaaSc
namespace Go.Proofs.Ytcmakpkdliiigaa
set_option maxHeartbeats 8000000
set_option linter.all false
open Go Go.Fw
attribute [local irreducible] Reg RegD seqK blockK loopK retK
set_option maxRecDepth 10000

def up : Nat → Nat → List Int → List Int
  | 0, _, l => l
  | f + 1, i, l => if 0 < i ∧ l.getD i 0 < l.getD ((i - 1) / 2) 0 then up f ((i - 1) / 2) (swp l i ((i - 1) / 2)) else l
theorem up_stop {f i : Nat} {l : List Int} (h : ¬ (0 < i ∧ l.getD i 0 < l.getD ((i - 1) / 2) 0)) : up f i l = l := by
  cases f with
  | zero => rfl
  | succ f => simp only [up]; rw [if_neg h]
theorem up_go {f i : Nat} {l : List Int} (h : 0 < i) (h2 : l.getD i 0 < l.getD ((i - 1) / 2) 0) : up (f + 1) i l = up f ((i - 1) / 2) (swp l i ((i - 1) / 2)) := by
  simp only [up]; rw [if_pos ⟨h, h2⟩]

theorem iv_row {xs : List Int} {k : Nat} (h : k < xs.length) : (iv xs)[k]? = some [.v (.int .i64 (xs.getD k 0))] := by rw [iv_get h, getD_of]
theorem iv_snoc (xs : List Int) (x : Int) : iv xs ++ [[.v (.int .i64 x)]] = iv (xs ++ [x]) := by simp [iv]
theorem iv_take (xs : List Int) (k : Nat) : (iv xs).take k = iv (xs.take k) := by simp [iv, List.map_take]

def delO (H : AH) (ob : Option Nat) : AH := match ob with | none => H | some b => H.del b

/-- A vector of whole numbers: where it lies, and what is in it. -/
def Vec (H : AH) (ob : Option Nat) (fr : List Int) : Prop :=
  match ob with
  | none => fr = []
  | some b => ∃ tl, H b = some ⟨1, iv (fr ++ tl)⟩ 

/-- The same, or nil. -/
def VecA (H : AH) (y : AV) (ob : Option Nat) (fr : List Int) : Prop := (y = .ov ob 0 1 fr.length none ∧ Vec H ob fr) ∨ (y = .v (.slice none 0 0) ∧ ob = none ∧ fr = [])

theorem app_int {t : TypeId} {H : AH} {y : AV} {ob : Option Nat} {fr : List Int} {v : Int} {F : AV → AH → Prop} (ht : Try.prog.underlying t = some (.slice 3)) (h : VecA H y ob fr) (hbig : fr.length ≤ 1000000000)
    (G : ∀ b', fresh (delO H ob) b' → F (.ov (some b') 0 1 (fr.length + 1) none) ((delO H ob).set b' ⟨1, iv (fr ++ [v])⟩)) : aapp Try.prog #[t, t] y (.imm 1 [[.v (.int .i64 v)]]) H F := by
  rcases h with ⟨rfl, h2⟩ | ⟨rfl, rfl, rfl⟩
  · cases ob with
    | none =>
      simp only [Vec] at h2
      simp only [go_sem, seval, alen, aidx, aload, aapp, asrc, adst, h2, ht, ze3, cl3, by3, allCell]
      rintro ob h3 h4
      cases ob with
      | none => exact absurd rfl h4
      | some b' =>
        have := G b' (h3 _ rfl)
        simpa [h2, iv, delO, AH.own] using this
    | some b2 =>
      obtain ⟨tl, h2⟩ := h2
      have hl : ((iv (fr ++ tl)).take fr.length) = iv fr := by rw [iv_take, List.take_left]
      simp only [go_sem, seval, alen, aidx, aload, aapp, asrc, adst, h2, hl, iv_len, ht, ze3, cl3, by3, allCell]
      refine ⟨by simp, by omega, by omega, ?_⟩
      rintro ob h3 h4
      cases ob with
      | none => exact absurd (h4 rfl) (by simp)
      | some b' =>
        have := G b' (h3 _ rfl)
        simpa [delO, AH.own, iv_snoc] using this
  · simp only [go_sem, seval, alen, aidx, aload, aapp, asrc, adst, ht, ze3, cl3, by3, allCell]
    rintro ob h3 h4
    cases ob with
    | none => exact absurd rfl h4
    | some b' =>
      have := G b' (h3 _ rfl)
      simpa [iv, delO, AH.own] using this

theorem put_ok {H : AH} {b : Nat} {ob : Option Nat} {fr : List Int} {v : Int} {x y : AV} {K : AV → AH → Prop} (hb : H b = some ⟨2, [[x, y]]⟩) (h2 : VecA H y ob fr) (hne : ob ≠ some b) (hbig : fr.length ≤ 1000000000)
    (hk : ∀ b', fresh (delO H ob) b' → K (.tup []) (((delO H ob).set b' ⟨1, iv (up fr.length fr.length (fr ++ [v]))⟩).set b ⟨2, [[x, .ov (some b') 0 1 (fr.length + 1) none]]⟩)) :
    CallOK Try.prog 24 [.ptr b 2 0 1, .v (.int .i64 v)] H K := by
  refine CallOK.of_body Try.func24 nm24 rfl ?_; simp only [Try.ntmps24, List.length_cons, List.length_nil, argSt, Nat.reduceAdd, Nat.reduceSub]
  repeat' (first | ((first | refine Z.W0 ?_ | refine Z.X0 ?_); simp only [go_sem, seval, alen, aidx, aload, iv_len, isAggD, List.replicate, allCell, hb]; try (simp (disch := omega) only [Z.w0]; try simp only [go_sem, seval, alen, aidx, aload, iv_len, isAggD, List.replicate, allCell, hb])) | (refine hF _ _ ?_; clear hF F) | (refine Z.p0 ?_; simp only [St.put]) | refine Z.a0 ?_ | refine Z.b0 ?_ | refine Z.c0 ?_ | refine Z.d0 ?_ | refine Z.e0 ?_ | refine Z.f0 ?_ | refine Z.g0 ?_ | refine Z.h0 ?_ | refine Z.i0 rfl ?_ | refine Z.j0 ?_ | refine Z.k0 ?_ | refine Z.l0 ?_ | refine Z.m0 ?_ | refine Z.n0 ?_ | refine Z.o0 ?_ | refine Z.q0 rfl rfl fun F hF => ?_ | refine Z.r0 rfl rfl rfl rfl fun F hF => ?_ | refine Z.A0 rfl rfl rfl fun F hF => ?_ | refine Z.B0 rfl rfl rfl fun F hF => ?_ | refine Z.s0 rfl rfl rfl rfl ?_ | (refine Z.D0 ?_; simp only [St.put]) | refine Z.E0 rfl rfl rfl ?_ | refine Z.F0 rfl rfl rfl ?_ | refine W_drawn (id := 2) [0, 1, 3, 7, 7, 31, 63, 7, 7, 263, 775, 1927, 3975, 8191, 16383] [.a 0, .a 1, .a 2, .a 3, .a 4, .a 5, .a 6, .a 7, .a 8, .a 9, .a 10, .a 11, .a 12, .a 13, .a 14] mixed (by decide +kernel) ?_ | refine W_drawn (id := 4) [0, 0, 0, 0, 8, 24, 0, 0, 128, 384, 960, 1984, 0, 0, 12288, 28672, 65475, 131011, 262143, 524287] [.a 0, .a 1, .a 2, .a 3, .a 4, .a 5, .a 6, .a 7, .a 8, .a 9, .a 10, .a 11, .a 12, .a 13, .a 14, .a 15, .a 16, .e 17 [2, 3, 4, 5], .a 18, .e 19 []] mixed (by decide +kernel) ?_ | refine Z.C0 rfl rfl rfl fun F hF => ?_ | (refine hF _ _ ?_ ?_ <;> clear hF F) | refine Z.T0 rfl ?_ | refine Z.U0 rfl ?_ | (refine Z.t0 rfl rfl rfl rfl ?_ ?_ <;> (intro hg; simp only [hg, Bool.not_true, Bool.not_false]; simp only [Z.x0] at hg)) | refine And.intro (by omega) ?_ | ((first | refine Z.G0 rfl rfl rfl rfl rfl ?_ ?_ | refine Z.M0 rfl rfl rfl rfl rfl ?_ ?_) <;> (intro hg; simp only [hg, Bool.not_true, Bool.not_false]; simp only [Z.x0] at hg)) | (refine Z.V0 rfl ?_ ?_ <;> (intro hc; try simp only [hc]; simp only [Z.x0] at hc)))
  have hH1 : (delO H ob) b = some ⟨2, [[x, y]]⟩ := by
    cases ob with
    | none => exact hb
    | some b2 => simp only [delO]; rw [AH.del_ne]; exact hb; intro e; exact hne (by rw [e])
  have G : ∀ b', fresh (delO H ob) b' → F (.ov (some b') 0 1 (fr.length + 1) none) ((delO H ob).set b' ⟨1, iv (fr ++ [v])⟩) := by
    intro b' hb'
    refine hF _ _ ?_
    clear hF F
    have hk' := hk b' hb'
    clear hk hb h2 hne
    generalize delO H ob = H1 at *
    have hn : b ≠ b' := by intro e; rw [e, hb'] at hH1; cases hH1
    have w0 : IntKind.i64.wrap (((fr.length + 1 : Nat) : Int) - 1) = ((fr.length : Nat) : Int) := by rw [wrap_of] <;> omega
    repeat' (first | ((first | refine Z.W0 ?_ | refine Z.X0 ?_); simp only [go_sem, seval, alen, aidx, aload, iv_len, isAggD, List.replicate, allCell, w0]; try (simp (disch := omega) only [Z.w0]; try simp only [go_sem, seval, alen, aidx, aload, iv_len, isAggD, List.replicate, allCell, w0])) | (refine hF _ _ ?_; clear hF F) | (refine Z.p0 ?_; simp only [St.put]) | refine Z.a0 ?_ | refine Z.b0 ?_ | refine Z.c0 ?_ | refine Z.d0 ?_ | refine Z.e0 ?_ | refine Z.f0 ?_ | refine Z.g0 ?_ | refine Z.h0 ?_ | refine Z.i0 rfl ?_ | refine Z.j0 ?_ | refine Z.k0 ?_ | refine Z.l0 ?_ | refine Z.m0 ?_ | refine Z.n0 ?_ | refine Z.o0 ?_ | refine Z.q0 rfl rfl fun F hF => ?_ | refine Z.r0 rfl rfl rfl rfl fun F hF => ?_ | refine Z.A0 rfl rfl rfl fun F hF => ?_ | refine Z.B0 rfl rfl rfl fun F hF => ?_ | refine Z.s0 rfl rfl rfl rfl ?_ | (refine Z.D0 ?_; simp only [St.put]) | refine Z.E0 rfl rfl rfl ?_ | refine Z.F0 rfl rfl rfl ?_ | refine W_drawn (id := 2) [0, 1, 3, 7, 7, 31, 63, 7, 7, 263, 775, 1927, 3975, 8191, 16383] [.a 0, .a 1, .a 2, .a 3, .a 4, .a 5, .a 6, .a 7, .a 8, .a 9, .a 10, .a 11, .a 12, .a 13, .a 14] mixed (by decide +kernel) ?_ | refine W_drawn (id := 4) [0, 0, 0, 0, 8, 24, 0, 0, 128, 384, 960, 1984, 0, 0, 12288, 28672, 65475, 131011, 262143, 524287] [.a 0, .a 1, .a 2, .a 3, .a 4, .a 5, .a 6, .a 7, .a 8, .a 9, .a 10, .a 11, .a 12, .a 13, .a 14, .a 15, .a 16, .e 17 [2, 3, 4, 5], .a 18, .e 19 []] mixed (by decide +kernel) ?_ | refine Z.C0 rfl rfl rfl fun F hF => ?_ | (refine hF _ _ ?_ ?_ <;> clear hF F) | refine Z.T0 rfl ?_ | refine Z.U0 rfl ?_ | (refine Z.t0 rfl rfl rfl rfl ?_ ?_ <;> (intro hg; simp only [hg, Bool.not_true, Bool.not_false]; simp only [Z.x0] at hg)) | refine And.intro (by omega) ?_ | ((first | refine Z.G0 rfl rfl rfl rfl rfl ?_ ?_ | refine Z.M0 rfl rfl rfl rfl rfl ?_ ?_) <;> (intro hg; simp only [hg, Bool.not_true, Bool.not_false]; simp only [Z.x0] at hg)) | (refine Z.V0 rfl ?_ ?_ <;> (intro hc; try simp only [hc]; simp only [Z.x0] at hc)))
    refine W_loop [0, 4, 5] (fun n s H' => ∃ (i : Nat) (l : List Int), H' = H1.set b' ⟨1, iv l⟩ ∧ l.length = fr.length + 1 ∧ up n i l = up fr.length fr.length (fr ++ [v]) ∧ i ≤ n ∧ i ≤ fr.length ∧
      s = [(0, .ptr b 2 0 1), (4, .ov (some b') 0 1 (fr.length + 1) none), (5, .v (.int .i64 i))]) fr.length ?_ ?_
    · simp only [St.keep, St.get, reduceIte, Nat.reduceEqDiff]
      exact ⟨_, _, rfl, by simp, rfl, by omega, by omega, rfl⟩
    · rintro n s H' ⟨i, l, rfl, hl, hu, hin, hif, rfl⟩
      by_cases h1 : 0 < i
      · have d1 : decide ((i : Int) > 0) = true := by simp; omega
        have w1 : IntKind.i64.wrap ((i : Int) - 1) = ((i - 1 : Nat) : Int) := by rw [wrap_of] <;> omega
        have w2 : IntKind.i64.wrap (((i - 1 : Nat) : Int).tdiv 2) = (((i - 1) / 2 : Nat) : Int) := by rw [show ((i - 1 : Nat) : Int).tdiv 2 = (((i - 1) / 2 : Nat) : Int) from rfl, wrap_of] <;> omega
        have gi := iv_row (xs := l) (k := i) (by omega)
        have gp := iv_row (xs := l) (k := (i - 1) / 2) (by omega)
        have gs := iv_row (xs := l.set i (l.getD ((i - 1) / 2) 0)) (k := (i - 1) / 2) (by simp; omega)
        by_cases h2 : l.getD i 0 < l.getD ((i - 1) / 2) 0
        · have d2 : decide (l.getD i 0 < l.getD ((i - 1) / 2) 0) = true := decide_eq_true h2
          repeat' (first | ((first | refine Z.W0 ?_ | refine Z.X0 ?_); simp only [go_sem, seval, alen, aidx, aload, iv_len, isAggD, hH1, hn, hn.symm, d1, w1, w2, gi, gp, gs, iv_set, Int.reduceEq, AH.set_ne, d2]; try (simp (disch := omega) only [Z.w0]; try simp only [go_sem, seval, alen, aidx, aload, iv_len, isAggD, hH1, hn, hn.symm, d1, w1, w2, gi, gp, gs, iv_set, Int.reduceEq, AH.set_ne, d2])) | (refine hF _ _ ?_; clear hF F) | (refine Z.p0 ?_; simp only [St.put]) | refine Z.a0 ?_ | refine Z.b0 ?_ | refine Z.c0 ?_ | refine Z.d0 ?_ | refine Z.e0 ?_ | refine Z.f0 ?_ | refine Z.g0 ?_ | refine Z.h0 ?_ | refine Z.i0 rfl ?_ | refine Z.j0 ?_ | refine Z.k0 ?_ | refine Z.l0 ?_ | refine Z.m0 ?_ | refine Z.n0 ?_ | refine Z.o0 ?_ | refine Z.q0 rfl rfl fun F hF => ?_ | refine Z.r0 rfl rfl rfl rfl fun F hF => ?_ | refine Z.A0 rfl rfl rfl fun F hF => ?_ | refine Z.B0 rfl rfl rfl fun F hF => ?_ | refine Z.s0 rfl rfl rfl rfl ?_ | (refine Z.D0 ?_; simp only [St.put]) | refine Z.E0 rfl rfl rfl ?_ | refine Z.F0 rfl rfl rfl ?_ | refine W_drawn (id := 2) [0, 1, 3, 7, 7, 31, 63, 7, 7, 263, 775, 1927, 3975, 8191, 16383] [.a 0, .a 1, .a 2, .a 3, .a 4, .a 5, .a 6, .a 7, .a 8, .a 9, .a 10, .a 11, .a 12, .a 13, .a 14] mixed (by decide +kernel) ?_ | refine W_drawn (id := 4) [0, 0, 0, 0, 8, 24, 0, 0, 128, 384, 960, 1984, 0, 0, 12288, 28672, 65475, 131011, 262143, 524287] [.a 0, .a 1, .a 2, .a 3, .a 4, .a 5, .a 6, .a 7, .a 8, .a 9, .a 10, .a 11, .a 12, .a 13, .a 14, .a 15, .a 16, .e 17 [2, 3, 4, 5], .a 18, .e 19 []] mixed (by decide +kernel) ?_ | refine Z.C0 rfl rfl rfl fun F hF => ?_ | (refine hF _ _ ?_ ?_ <;> clear hF F) | refine Z.T0 rfl ?_ | refine Z.U0 rfl ?_ | (refine Z.t0 rfl rfl rfl rfl ?_ ?_ <;> (intro hg; simp only [hg, Bool.not_true, Bool.not_false]; simp only [Z.x0] at hg)) | refine And.intro (by omega) ?_ | ((first | refine Z.G0 rfl rfl rfl rfl rfl ?_ ?_ | refine Z.M0 rfl rfl rfl rfl rfl ?_ ?_) <;> (intro hg; simp only [hg, Bool.not_true, Bool.not_false]; simp only [Z.x0] at hg)) | (refine Z.V0 rfl ?_ ?_ <;> (intro hc; try simp only [hc]; simp only [Z.x0] at hc)))
          cases n with
          | zero => omega
          | succ n =>
            rw [up_go h1 h2] at hu
            simp only [loopK]
            simp only [St.keep, St.get, reduceIte, Nat.reduceEqDiff]
            refine ⟨n, by omega, _, _, rfl, ?_, hu, by omega, by omega, rfl⟩
            simp [swp, hl]
        · have d2 : decide (l.getD i 0 < l.getD ((i - 1) / 2) 0) = false := decide_eq_false h2
          repeat' (first | ((first | refine Z.W0 ?_ | refine Z.X0 ?_); simp only [go_sem, seval, alen, aidx, aload, iv_len, isAggD, hH1, hn, hn.symm, d1, w1, w2, gi, gp, gs, iv_set, Int.reduceEq, AH.set_ne, d2]; try (simp (disch := omega) only [Z.w0]; try simp only [go_sem, seval, alen, aidx, aload, iv_len, isAggD, hH1, hn, hn.symm, d1, w1, w2, gi, gp, gs, iv_set, Int.reduceEq, AH.set_ne, d2])) | (refine hF _ _ ?_; clear hF F) | (refine Z.p0 ?_; simp only [St.put]) | refine Z.a0 ?_ | refine Z.b0 ?_ | refine Z.c0 ?_ | refine Z.d0 ?_ | refine Z.e0 ?_ | refine Z.f0 ?_ | refine Z.g0 ?_ | refine Z.h0 ?_ | refine Z.i0 rfl ?_ | refine Z.j0 ?_ | refine Z.k0 ?_ | refine Z.l0 ?_ | refine Z.m0 ?_ | refine Z.n0 ?_ | refine Z.o0 ?_ | refine Z.q0 rfl rfl fun F hF => ?_ | refine Z.r0 rfl rfl rfl rfl fun F hF => ?_ | refine Z.A0 rfl rfl rfl fun F hF => ?_ | refine Z.B0 rfl rfl rfl fun F hF => ?_ | refine Z.s0 rfl rfl rfl rfl ?_ | (refine Z.D0 ?_; simp only [St.put]) | refine Z.E0 rfl rfl rfl ?_ | refine Z.F0 rfl rfl rfl ?_ | refine W_drawn (id := 2) [0, 1, 3, 7, 7, 31, 63, 7, 7, 263, 775, 1927, 3975, 8191, 16383] [.a 0, .a 1, .a 2, .a 3, .a 4, .a 5, .a 6, .a 7, .a 8, .a 9, .a 10, .a 11, .a 12, .a 13, .a 14] mixed (by decide +kernel) ?_ | refine W_drawn (id := 4) [0, 0, 0, 0, 8, 24, 0, 0, 128, 384, 960, 1984, 0, 0, 12288, 28672, 65475, 131011, 262143, 524287] [.a 0, .a 1, .a 2, .a 3, .a 4, .a 5, .a 6, .a 7, .a 8, .a 9, .a 10, .a 11, .a 12, .a 13, .a 14, .a 15, .a 16, .e 17 [2, 3, 4, 5], .a 18, .e 19 []] mixed (by decide +kernel) ?_ | refine Z.C0 rfl rfl rfl fun F hF => ?_ | (refine hF _ _ ?_ ?_ <;> clear hF F) | refine Z.T0 rfl ?_ | refine Z.U0 rfl ?_ | (refine Z.t0 rfl rfl rfl rfl ?_ ?_ <;> (intro hg; simp only [hg, Bool.not_true, Bool.not_false]; simp only [Z.x0] at hg)) | refine And.intro (by omega) ?_ | ((first | refine Z.G0 rfl rfl rfl rfl rfl ?_ ?_ | refine Z.M0 rfl rfl rfl rfl rfl ?_ ?_) <;> (intro hg; simp only [hg, Bool.not_true, Bool.not_false]; simp only [Z.x0] at hg)) | (refine Z.V0 rfl ?_ ?_ <;> (intro hc; try simp only [hc]; simp only [Z.x0] at hc)))
          simp only [retK, ares, pack, Try.results24, St.get, reduceIte, Nat.reduceEqDiff, aload, arow, List.toArray, Array.toList]
          rw [up_stop (fun h => h2 h.2)] at hu
          rw [hu]
          exact hk'
      · have d1 : decide ((i : Int) > 0) = false := by simp; omega
        repeat' (first | ((first | refine Z.W0 ?_ | refine Z.X0 ?_); simp only [go_sem, seval, alen, aidx, aload, iv_len, isAggD, hH1, hn, hn.symm, d1, iv_set]; try (simp (disch := omega) only [Z.w0]; try simp only [go_sem, seval, alen, aidx, aload, iv_len, isAggD, hH1, hn, hn.symm, d1, iv_set])) | (refine hF _ _ ?_; clear hF F) | (refine Z.p0 ?_; simp only [St.put]) | refine Z.a0 ?_ | refine Z.b0 ?_ | refine Z.c0 ?_ | refine Z.d0 ?_ | refine Z.e0 ?_ | refine Z.f0 ?_ | refine Z.g0 ?_ | refine Z.h0 ?_ | refine Z.i0 rfl ?_ | refine Z.j0 ?_ | refine Z.k0 ?_ | refine Z.l0 ?_ | refine Z.m0 ?_ | refine Z.n0 ?_ | refine Z.o0 ?_ | refine Z.q0 rfl rfl fun F hF => ?_ | refine Z.r0 rfl rfl rfl rfl fun F hF => ?_ | refine Z.A0 rfl rfl rfl fun F hF => ?_ | refine Z.B0 rfl rfl rfl fun F hF => ?_ | refine Z.s0 rfl rfl rfl rfl ?_ | (refine Z.D0 ?_; simp only [St.put]) | refine Z.E0 rfl rfl rfl ?_ | refine Z.F0 rfl rfl rfl ?_ | refine W_drawn (id := 2) [0, 1, 3, 7, 7, 31, 63, 7, 7, 263, 775, 1927, 3975, 8191, 16383] [.a 0, .a 1, .a 2, .a 3, .a 4, .a 5, .a 6, .a 7, .a 8, .a 9, .a 10, .a 11, .a 12, .a 13, .a 14] mixed (by decide +kernel) ?_ | refine W_drawn (id := 4) [0, 0, 0, 0, 8, 24, 0, 0, 128, 384, 960, 1984, 0, 0, 12288, 28672, 65475, 131011, 262143, 524287] [.a 0, .a 1, .a 2, .a 3, .a 4, .a 5, .a 6, .a 7, .a 8, .a 9, .a 10, .a 11, .a 12, .a 13, .a 14, .a 15, .a 16, .e 17 [2, 3, 4, 5], .a 18, .e 19 []] mixed (by decide +kernel) ?_ | refine Z.C0 rfl rfl rfl fun F hF => ?_ | (refine hF _ _ ?_ ?_ <;> clear hF F) | refine Z.T0 rfl ?_ | refine Z.U0 rfl ?_ | (refine Z.t0 rfl rfl rfl rfl ?_ ?_ <;> (intro hg; simp only [hg, Bool.not_true, Bool.not_false]; simp only [Z.x0] at hg)) | refine And.intro (by omega) ?_ | ((first | refine Z.G0 rfl rfl rfl rfl rfl ?_ ?_ | refine Z.M0 rfl rfl rfl rfl rfl ?_ ?_) <;> (intro hg; simp only [hg, Bool.not_true, Bool.not_false]; simp only [Z.x0] at hg)) | (refine Z.V0 rfl ?_ ?_ <;> (intro hc; try simp only [hc]; simp only [Z.x0] at hc)))
        simp only [retK, ares, pack, Try.results24, St.get, reduceIte, Nat.reduceEqDiff, aload, arow, List.toArray, Array.toList]
        rw [up_stop (fun h => h1 h.1)] at hu
        rw [hu]
        exact hk'
  exact app_int Try.underlying55 h2 hbig G
end Go.Proofs.Ytcmakpkdliiigaa
