/- The walks and the plain laws that the row rests on, part 3: Wl Wm Vf Wn Wo Vg Wx Wy Vh Vi Vj Ya Yb Yd Ye. -/
import Derived.Test.YtboojmppmaepmaaDoorQ2
import Derived.Test.YtboojmppmaepmaaDoorRows
import Derived.Lib.LaidU8T
import Derived.PinnedBridge
import Derived.Deep.DeepHandedRow
/- A document as bytes: fields and bodies. -/
namespace Go.Proofs.YtboojmppmaepmaaDoor
set_option maxHeartbeats 8000000
set_option linter.all false
open Go Go.Fw
attribute [local irreducible] Reg RegD seqK blockK loopK retK
set_option maxRecDepth 10000

variable {H : AH} {K : AV → AH → Prop} {J : Value → AH → Prop}

theorem src_str (s : Bs) (G : List (List AV) → Prop) : asrc (.v (.string (bs s))) H 1 G = G (rowsB s) := by
  simp [asrc, rowsB]
theorem app30 {H0 : AH} {l a : Bs} {x z : AV} {F : AV → AH → Prop} (hx : On H0 1 (rowsB l) H x) (hz : ∀ G : List (List AV) → Prop, asrc z H 1 G = G (rowsB a)) (hb : l.length + a.length ≤ 2000000000) (hF : ∀ x' H', On H0 1 (rowsB (l ++ a)) H' x' → F x' H') : aapp Tryd.prog #[30, 30] x z H F :=
  hx.app vt30 rfl rfl Tryd.underlying30 nint30 hz (by simp; omega) fun x' H' h => hF x' H' (by rw [rowsB_append]; exact h)
theorem app9 {H0 : AH} {l a : Bs} {x z : AV} {F : AV → AH → Prop} (hx : On H0 1 (rowsB l) H x) (hz : ∀ G : List (List AV) → Prop, asrc z H 1 G = G (rowsB a)) (hb : l.length + a.length ≤ 2000000000) (hF : ∀ x' H', On H0 1 (rowsB (l ++ a)) H' x' → F x' H') : aapp Tryd.prog #[30, 9] x z H F :=
  hx.app vt30 rfl rfl Tryd.underlying9 nintS hz (by simp; omega) fun x' H' h => hF x' H' (by rw [rowsB_append]; exact h)
theorem src_one (c : UInt8) (G : List (List AV) → Prop) : asrc (.imm 1 [[.v (.int .u8 c.toNat)]]) H 1 G = G (rowsB [c]) := by simp [asrc, rowsB]
theorem src_zero (G : List (List AV) → Prop) : asrc (.imm 1 [[.v (.int .u8 0)]]) H 1 G = G (rowsB [0]) := by simp [asrc, rowsB]

theorem kind_at {k : Int} (h : 1 ≤ k ∧ k ≤ 11) : ({ data := #[0, 255, 10, 18, 2, 3, 4, 5, 7, 8, 9, 127] } : ByteArray)[k.toNat]? = some (kindB k) := by
  have : k = 1 ∨ k = 2 ∨ k = 3 ∨ k = 4 ∨ k = 5 ∨ k = 6 ∨ k = 7 ∨ k = 8 ∨ k = 9 ∨ k = 10 ∨ k = 11 := by omega
  rcases this with h | h | h | h | h | h | h | h | h | h | h <;> subst h <;> rfl

def FieldC (m : Nat) : Prop := ∀ (v : Val) (nm : Bs) (cs : List AV) (l : Bs) (x : AV) (H0 H : AH) (deep : Nat) (K : AV → AH → Prop) (J : Value → AH → Prop), SizeOf.sizeOf v < m → RdV H0 v cs → chkV deep v = 0 → On H0 1 (rowsB l) H x → l.length + (encF nm v).length ≤ 1000000000 →
  (∀ x' H' H1, Le H0 H1 → On H1 1 (rowsB (l ++ encF nm v)) H' x' → K x' H') → CallX Tryd.prog 54 [x, .v (.string (bs nm)), .agg cs] H K J
def BodyC (m : Nat) : Prop := ∀ (v : Val) (cs : List AV) (l : Bs) (x : AV) (H0 H : AH) (deep : Nat) (K : AV → AH → Prop) (J : Value → AH → Prop), SizeOf.sizeOf v < m → v.kind = 5 ∨ v.kind = 6 → RdV H0 v cs → chkV deep v = 0 → On H0 1 (rowsB l) H x → l.length + (encV v).length ≤ 1000000000 →
  (∀ x' H' H1, Le H0 H1 → On H1 1 (rowsB (l ++ encV v)) H' x' → K x' H') → CallX Tryd.prog 45 [x, .agg cs] H K J

theorem field_of {m : Nat} (body : BodyC m) : FieldC m := by
  intro v nm cs l x H0 H deep K J hm hv hc hx hlen hk
  obtain ⟨k1, i1, t1, l1, d1, p, q, la, da, rfl, h1, h2, h3, h4⟩ := hv.out
  obtain ⟨hw, hcl, hcd⟩ := chk_in hc
  have hkind := wrong_kind hw
  have hka := kind_at hkind
  have he := encV_eq v
  have hl0 : (encF nm v).length = 2 + nm.length + (encV v).length := by simp [encF]; omega
  have k0 : (0 : Int) ≤ v.kind := by omega
  refine CallX.of_body Tryd.func54 nm54 rfl ?_; simp only [Tryd.ntmps54, List.length_cons, List.length_nil, argSt, Nat.reduceAdd, Nat.reduceSub]
  repeat' (first | ((first | refine Z.W0 ?_ | refine Z.X0 ?_); simp only [go_sem, seval, h1.cell, h2.cell]) | refine Z.a0 ?_ | refine Z.b0 ?_ | refine Z.q0 rfl rfl fun F hF => ?_)
  (refine box_go2 fun b H1 e1 n1 o1 => ?_; refine hF _ _ ?_; clear hF F)
  obtain ⟨H2, hx2, e2⟩ := hx.grow e1
  repeat' (first | ((first | refine Z.W0 ?_ | refine Z.X0 ?_); simp only [go_sem, seval, o1, k0, hka]) | (refine hF _ _ ?_; clear hF F) | (refine Z.p0 ?_; simp only [St.put]) | refine Z.a0 ?_ | refine Z.b0 ?_ | refine Z.c0 ?_ | refine Z.h0 ?_ | refine Z.q0 rfl rfl fun F hF => ?_)
  have hne : x.blk ≠ some b := fun e => by have := hx.ow.atb e; rw [n1] at this; cases this
  have o2 := (hx2.same hne).symm.trans o1
  refine app30 hx2 (src_one _) (by simp; omega) fun x1 H3 hx3 => ?_
  (refine hF _ _ ?_; clear hF F)
  have o3 := hx3.le _ _ o2
  repeat' (first | ((first | refine Z.W0 ?_ | refine Z.X0 ?_); simp only [go_sem, seval, o3]) | (refine hF _ _ ?_; clear hF F) | (refine Z.p0 ?_; simp only [St.put]) | refine Z.a0 ?_ | refine Z.b0 ?_ | refine Z.c0 ?_ | refine Z.h0 ?_ | refine Z.q0 rfl rfl fun F hF => ?_)
  refine app9 hx3 (src_str nm) (by simp; omega) fun x2 H4 hx4 => ?_
  (refine hF _ _ ?_; clear hF F)
  have o4 := hx4.le _ _ o2
  repeat' (first | ((first | refine Z.W0 ?_ | refine Z.X0 ?_); simp only [go_sem, seval, o4]) | (refine hF _ _ ?_; clear hF F) | refine Z.h0 ?_ | refine Z.q0 rfl rfl fun F hF => ?_)
  refine app30 hx4 src_zero (by simp; omega) fun x3 H5 hx5 => ?_
  (refine hF _ _ ?_; clear hF F)
  have o5 := hx5.le _ _ o2
  obtain ⟨L, hL⟩ : ∃ L, L = l ++ [kindB v.kind] ++ nm ++ [0] := ⟨_, rfl⟩
  have hLl : L.length = l.length + nm.length + 2 := by rw [hL]; simp; omega
  have hfin : l ++ encF nm v = L ++ encV v := by rw [hL, encF]; simp
  rw [hfin] at hk
  rw [← hL] at hx5
  by_cases k3 : v.kind = 3 ∨ v.kind = 10
  · rw [if_pos k3] at he
    have hlen8 : (encV v).length = 8 := by rw [he]; simp
    rcases k3 with k3 | k3
    all_goals
      repeat' (first | ((first | refine Z.W0 ?_ | refine Z.X0 ?_); simp only [go_sem, seval, o5, k3]) | (refine hF _ _ ?_; clear hF F) | (refine Z.p0 ?_; simp only [St.put]) | refine Z.a0 ?_ | refine Z.b0 ?_ | refine Z.c0 ?_ | refine Z.h0 ?_ | refine Z.l0 ?_ | refine Z.m0 ?_ | refine Z.q0 rfl rfl fun F hF => ?_ | refine Z.T0 rfl ?_ | refine Z.U0 rfl ?_)
      refine bput_ok (many := 8) hx5 (by omega) (by omega) i1 fun x4 H6 hx6 => ?_
      (refine hF _ _ ?_; clear hF F)
      repeat' (first | ((first | refine Z.W0 ?_ | refine Z.X0 ?_); simp only [go_sem, seval]) | (refine hF _ _ ?_; clear hF F) | (refine Z.p0 ?_; simp only [St.put]) | refine Z.c0 ?_ | refine Z.d0 ?_ | refine Z.g0 ?_ | refine Z.h0 ?_ | refine Z.n0 ?_ | refine Z.q0 rfl rfl fun F hF => ?_)
      simp only [retK, ares, pack, Tryd.results54, St.get, reduceIte, Nat.reduceEqDiff, aload, arow, List.toArray, Array.toList]
      rw [leS_8, ← he] at hx6
      exact hk _ _ _ e2 hx6
  rw [if_neg k3] at he
  have b3 : (v.kind == 3) = false := beq_eq_false_iff_ne.2 fun e => k3 (.inl e)
  have b10 : (v.kind == 10) = false := beq_eq_false_iff_ne.2 fun e => k3 (.inr e)
  by_cases k4 : v.kind = 4
  · rw [if_pos k4] at he
    have hlen4 : (encV v).length = 5 + v.text.length := by rw [he]; simp; omega
    have w4 : IntKind.i64.wrap ((v.text.length : Int) + 1) = ((v.text.length + 1 : Nat) : Int) := by rw [wrap_of] <;> omega
    repeat' (first | ((first | refine Z.W0 ?_ | refine Z.X0 ?_); simp only [go_sem, seval, o5, b3, b10, k4, w4]) | (refine hF _ _ ?_; clear hF F) | (refine Z.p0 ?_; simp only [St.put]) | refine Z.a0 ?_ | refine Z.b0 ?_ | refine Z.c0 ?_ | refine Z.h0 ?_ | refine Z.l0 ?_ | refine Z.q0 rfl rfl fun F hF => ?_ | refine Z.A0 rfl rfl rfl fun F hF => ?_ | refine W_drawn (id := 8) [0, 0, 2, 6, 14, 31, 0, 64, 255, 0, 1023, 2047] [.a 0, .a 1, .a 2, .a 3, .a 4, .a 6, .a 7, .a 9, .e 5 [6, 7, 9], .e 8 [9], .e 10 [], .e 11 []] mixed (by decide +kernel) ?_ | refine Z.C0 rfl rfl rfl fun F hF => ?_ | refine Z.T0 rfl ?_ | refine Z.U0 rfl ?_)
    refine bput_ok (n := ((v.text.length + 1 : Nat) : Int)) (many := 4) hx5 (by omega) (by omega) (by omega) fun x4 H6 hx6 => ?_
    have o6 := hx6.le _ _ o2
    rw [leS_nat] at hx6
    (refine hF _ _ ?_ ?_ <;> clear hF F)
    · repeat' (first | ((first | refine Z.W0 ?_ | refine Z.X0 ?_); simp only [go_sem, seval, o6]) | fail)
    repeat' (first | ((first | refine Z.W0 ?_ | refine Z.X0 ?_); simp only [go_sem, seval, o6]) | refine Z.C0 rfl rfl rfl fun F hF => ?_)
    refine app9 hx6 (src_str v.text) (by simp; omega) fun x5 H7 hx7 => ?_
    have o7 := hx7.le _ _ o2
    (refine hF _ _ ?_ ?_ <;> clear hF F)
    · repeat' (first | ((first | refine Z.W0 ?_ | refine Z.X0 ?_); simp only [go_sem, seval, o7]) | fail)
    repeat' (first | ((first | refine Z.W0 ?_ | refine Z.X0 ?_); simp only [go_sem, seval, o7]) | refine Z.B0 rfl rfl rfl fun F hF => ?_)
    refine app30 hx7 src_zero (by simp; omega) fun x6 H8 hx8 => ?_
    (refine hF _ _ ?_; clear hF F)
    repeat' (first | ((first | refine Z.W0 ?_ | refine Z.X0 ?_); simp only [go_sem, seval]) | (refine hF _ _ ?_; clear hF F) | refine Z.c0 ?_ | refine Z.d0 ?_ | refine Z.g0 ?_ | refine Z.h0 ?_ | refine Z.n0 ?_ | refine Z.B0 rfl rfl rfl fun F hF => ?_ | (refine Z.D0 ?_; simp only [St.put]))
    simp only [retK, ares, pack, Tryd.results54, St.get, reduceIte, Nat.reduceEqDiff, aload, arow, List.toArray, Array.toList]
    refine hk _ _ _ e2 ?_
    rw [he, ← List.append_assoc, ← List.append_assoc]
    exact hx8
  rw [if_neg k4] at he
  have b4 : (v.kind == 4) = false := beq_eq_false_iff_ne.2 k4
  by_cases k7 : v.kind = 7
  · rw [if_pos k7] at he
    have hlen7 : (encV v).length = 5 + v.text.length := by rw [he]; simp; omega
    repeat' (first | ((first | refine Z.W0 ?_ | refine Z.X0 ?_); simp only [go_sem, seval, o5, b3, b10, b4, k7]) | (refine hF _ _ ?_; clear hF F) | (refine Z.p0 ?_; simp only [St.put]) | refine Z.a0 ?_ | refine Z.b0 ?_ | refine Z.c0 ?_ | refine Z.h0 ?_ | refine Z.l0 ?_ | refine Z.q0 rfl rfl fun F hF => ?_ | refine Z.A0 rfl rfl rfl fun F hF => ?_ | refine W_drawn (id := 10) [0, 0, 2, 6, 15, 0, 63, 0, 128, 511, 1023] [.a 0, .a 1, .a 2, .a 3, .a 5, .a 7, .a 8, .e 4 [5, 7, 8], .e 6 [7, 8], .e 9 [], .e 10 []] mixed (by decide +kernel) ?_ | refine Z.C0 rfl rfl rfl fun F hF => ?_ | refine Z.T0 rfl ?_ | refine Z.U0 rfl ?_)
    refine bput_ok (n := (v.text.length : Int)) (many := 4) hx5 (by omega) (by omega) (by omega) fun x4 H6 hx6 => ?_
    have o6 := hx6.le _ _ o2
    rw [leS_nat] at hx6
    (refine hF _ _ ?_ ?_ <;> clear hF F)
    · repeat' (first | ((first | refine Z.W0 ?_ | refine Z.X0 ?_); simp only [go_sem, seval, o6]) | fail)
    repeat' (first | ((first | refine Z.W0 ?_ | refine Z.X0 ?_); simp only [go_sem, seval, o6]) | refine Z.C0 rfl rfl rfl fun F hF => ?_)
    refine app30 hx6 src_zero (by simp; omega) fun x5 H7 hx7 => ?_
    have o7 := hx7.le _ _ o2
    (refine hF _ _ ?_ ?_ <;> clear hF F)
    · repeat' (first | ((first | refine Z.W0 ?_ | refine Z.X0 ?_); simp only [go_sem, seval, o7]) | fail)
    repeat' (first | ((first | refine Z.W0 ?_ | refine Z.X0 ?_); simp only [go_sem, seval, o7]) | refine Z.B0 rfl rfl rfl fun F hF => ?_)
    refine app9 hx7 (src_str v.text) (by simp; omega) fun x6 H8 hx8 => ?_
    (refine hF _ _ ?_; clear hF F)
    repeat' (first | ((first | refine Z.W0 ?_ | refine Z.X0 ?_); simp only [go_sem, seval]) | (refine hF _ _ ?_; clear hF F) | refine Z.c0 ?_ | refine Z.d0 ?_ | refine Z.g0 ?_ | refine Z.h0 ?_ | refine Z.n0 ?_ | refine Z.B0 rfl rfl rfl fun F hF => ?_ | (refine Z.D0 ?_; simp only [St.put]))
    simp only [retK, ares, pack, Tryd.results54, St.get, reduceIte, Nat.reduceEqDiff, aload, arow, List.toArray, Array.toList]
    refine hk _ _ _ e2 ?_
    rw [he, ← List.append_assoc, ← List.append_assoc]
    exact hx8
  rw [if_neg k7] at he
  have b7 : (v.kind == 7) = false := beq_eq_false_iff_ne.2 k7
  by_cases k8 : v.kind = 8
  · rw [if_pos k8] at he
    rw [he] at hk hl0
    repeat' (first | ((first | refine Z.W0 ?_ | refine Z.X0 ?_); simp only [go_sem, seval, o5, b3, b10, b4, b7, k8]) | (refine hF _ _ ?_; clear hF F) | (refine Z.p0 ?_; simp only [St.put]) | refine Z.a0 ?_ | refine Z.b0 ?_ | refine Z.c0 ?_ | refine Z.h0 ?_ | refine Z.l0 ?_ | refine Z.q0 rfl rfl fun F hF => ?_ | refine Z.T0 rfl ?_ | refine Z.U0 rfl ?_)
    refine app9 hx5 (src_str v.text) (by omega) fun x6 H8 hx8 => ?_
    (refine hF _ _ ?_; clear hF F)
    repeat' (first | ((first | refine Z.W0 ?_ | refine Z.X0 ?_); simp only [go_sem, seval]) | (refine hF _ _ ?_; clear hF F) | (refine Z.p0 ?_; simp only [St.put]) | refine Z.c0 ?_ | refine Z.d0 ?_ | refine Z.g0 ?_ | refine Z.h0 ?_ | refine Z.n0 ?_ | refine Z.q0 rfl rfl fun F hF => ?_)
    simp only [retK, ares, pack, Tryd.results54, St.get, reduceIte, Nat.reduceEqDiff, aload, arow, List.toArray, Array.toList]
    exact hk _ _ _ e2 hx8
  rw [if_neg k8] at he
  have b8 : (v.kind == 8) = false := beq_eq_false_iff_ne.2 k8
  by_cases k9 : v.kind = 9
  · rw [if_pos k9] at he
    have hb9 : (AV.v (.int .u8 (IntKind.u8.wrap v.int))) = .v (.int .u8 ((UInt8.ofNat (v.int % 256).toNat).toNat : Int)) := by
      rw [IntKind.wrap_u8, u8_ofNat]
      have h3 : (((v.int % 256).toNat % 256 : Nat) : Int) = v.int % 256 := by omega
      rw [h3]
    rw [he] at hk hl0
    repeat' (first | ((first | refine Z.W0 ?_ | refine Z.X0 ?_); simp only [go_sem, seval, o5, b3, b10, b4, b7, b8, k9]) | (refine hF _ _ ?_; clear hF F) | (refine Z.p0 ?_; simp only [St.put]) | refine Z.a0 ?_ | refine Z.b0 ?_ | refine Z.c0 ?_ | refine Z.h0 ?_ | refine Z.l0 ?_ | refine Z.q0 rfl rfl fun F hF => ?_ | refine Z.T0 rfl ?_ | refine Z.U0 rfl ?_)
    rw [hb9]
    refine app30 hx5 (src_one _) (by simp; omega) fun x6 H8 hx8 => ?_
    (refine hF _ _ ?_; clear hF F)
    repeat' (first | ((first | refine Z.W0 ?_ | refine Z.X0 ?_); simp only [go_sem, seval]) | (refine hF _ _ ?_; clear hF F) | (refine Z.p0 ?_; simp only [St.put]) | refine Z.c0 ?_ | refine Z.d0 ?_ | refine Z.g0 ?_ | refine Z.h0 ?_ | refine Z.n0 ?_ | refine Z.q0 rfl rfl fun F hF => ?_)
    simp only [retK, ares, pack, Tryd.results54, St.get, reduceIte, Nat.reduceEqDiff, aload, arow, List.toArray, Array.toList]
    exact hk _ _ _ e2 hx8
  rw [if_neg k9] at he
  have b9 : (v.kind == 9) = false := beq_eq_false_iff_ne.2 k9
  by_cases k56 : v.kind = 5 ∨ v.kind = 6
  · have fin : ∀ (F : AV → AH → Prop) (J : Value → AH → Prop), (∀ x' H' H1, Le H2 H1 → On H1 1 (rowsB (L ++ encV v)) H' x' → F x' H') → CallX Tryd.prog 45 [x3, .agg [.v (.int .i64 v.kind), .v (.int .i64 v.int), .v (.string (bs v.text)), p, q]] H5 F J :=
      fun F J h => body v _ L x3 H2 H5 deep F J hm k56 (hv.mono e2) hc hx5 (by omega) h
    have h56 : ((v.kind == 5) = true ∧ (v.kind == 6) = false) ∨ ((v.kind == 5) = false ∧ (v.kind == 6) = true) := by
      rcases k56 with k | k
      · exact .inl ⟨beq_iff_eq.2 k, beq_eq_false_iff_ne.2 (by omega)⟩
      · exact .inr ⟨beq_eq_false_iff_ne.2 (by omega), beq_iff_eq.2 k⟩
    rcases h56 with ⟨b5, b6⟩ | ⟨b5, b6⟩
    all_goals
      repeat' (first | ((first | refine Z.W0 ?_ | refine Z.X0 ?_); simp only [go_sem, seval, o5, b3, b10, b4, b7, b8, b9, b5, b6]) | (refine hF _ _ ?_; clear hF F) | (refine Z.p0 ?_; simp only [St.put]) | refine Z.a0 ?_ | refine Z.b0 ?_ | refine Z.c0 ?_ | refine Z.h0 ?_ | refine Z.l0 ?_ | refine Z.m0 ?_ | refine Z.q0 rfl rfl fun F hF => ?_ | refine Z.T0 rfl ?_ | refine Z.U0 rfl ?_)
      refine fin _ _ fun x6 H8 H9 e9 hx8 => ?_
      (refine hF _ _ ?_; clear hF F)
      repeat' (first | ((first | refine Z.W0 ?_ | refine Z.X0 ?_); simp only [go_sem, seval]) | (refine hF _ _ ?_; clear hF F) | (refine Z.p0 ?_; simp only [St.put]) | refine Z.c0 ?_ | refine Z.d0 ?_ | refine Z.g0 ?_ | refine Z.h0 ?_ | refine Z.n0 ?_ | refine Z.q0 rfl rfl fun F hF => ?_)
      simp only [retK, ares, pack, Tryd.results54, St.get, reduceIte, Nat.reduceEqDiff, aload, arow, List.toArray, Array.toList]
      exact hk _ _ _ (e2.trans e9) hx8
  rw [if_neg k56] at he
  have b5 : (v.kind == 5) = false := beq_eq_false_iff_ne.2 fun e => k56 (.inl e)
  have b6 : (v.kind == 6) = false := beq_eq_false_iff_ne.2 fun e => k56 (.inr e)
  repeat' (first | ((first | refine Z.W0 ?_ | refine Z.X0 ?_); simp only [go_sem, seval, o5, b3, b10, b4, b7, b8, b9, b5, b6]) | (refine hF _ _ ?_; clear hF F) | (refine Z.p0 ?_; simp only [St.put]) | refine Z.a0 ?_ | refine Z.b0 ?_ | refine Z.c0 ?_ | refine Z.f0 ?_ | refine Z.h0 ?_ | refine Z.l0 ?_ | refine Z.m0 ?_ | refine Z.n0 ?_ | refine Z.q0 rfl rfl fun F hF => ?_ | refine Z.U0 rfl ?_)
  simp only [retK, ares, pack, Tryd.results54, St.get, reduceIte, Nat.reduceEqDiff, aload, arow, List.toArray, Array.toList]
  rw [he, List.append_nil] at hk
  exact hk _ _ _ e2 hx5
end Go.Proofs.YtboojmppmaepmaaDoor
/- A document as bytes: bodies. -/
namespace Go.Proofs.YtboojmppmaepmaaDoor
set_option maxHeartbeats 8000000
set_option linter.all false
open Go Go.Fw
attribute [local irreducible] Reg RegD seqK blockK loopK retK
set_option maxRecDepth 10000

variable {H : AH} {K : AV → AH → Prop} {J : Value → AH → Prop}

theorem body_of {m : Nat} (field : FieldC m) : BodyC (m + 1) := by
  intro v cs l x H0 H deep K J hm hkind hv hc hx hlen hk
  obtain ⟨k1, i1, t1, l1, d1, p, q, la, da, rfl, h1, h2, h3, h4⟩ := hv.out
  obtain ⟨hw, hcl, hcd⟩ := chk_in hc
  have he := encV_eq v
  rw [if_neg (by omega), if_neg (by omega), if_neg (by omega), if_neg (by omega), if_neg (by omega), if_pos hkind] at he
  have hlenV : (encV v).length = 5 + (encD v.doc).length + (encL 0 v.list).length := by rw [he]; simp; omega
  have hxl := lenB hx.rd
  refine CallX.of_body Tryd.func45 nm45 rfl ?_; simp only [Tryd.ntmps45, List.length_cons, List.length_nil, argSt, Nat.reduceAdd, Nat.reduceSub]
  repeat' (first | ((first | refine Z.W0 ?_ | refine Z.X0 ?_); simp only [go_sem, seval, h1.cell, h2.cell]) | refine Z.a0 ?_ | refine Z.b0 ?_ | refine Z.q0 rfl rfl fun F hF => ?_)
  (refine box_go2 fun b H1 e1 n1 o1 => ?_; refine hF _ _ ?_; clear hF F)
  have hne : x.blk ≠ some b := fun e => by have := hx.ow.atb e; rw [n1] at this; cases this
  obtain ⟨H2, hx2, e2⟩ := hx.grow e1
  have o2 := (hx2.same hne).symm.trans o1
  repeat' (first | ((first | refine Z.W0 ?_ | refine Z.X0 ?_); simp only [go_sem, seval, hxl]) | (refine hF _ _ ?_; clear hF F) | (refine Z.p0 ?_; simp only [St.put]) | refine Z.a0 ?_ | refine Z.b0 ?_ | refine Z.c0 ?_ | refine Z.h0 ?_ | refine Z.q0 rfl rfl fun F hF => ?_)
  refine app30 (a := [0, 0, 0, 0]) hx2 (fun G => by simp [asrc, rowsB]) (by simp; omega) fun x1 H3 hx3 => ?_
  (refine hF _ _ ?_; clear hF F)
  have o3 := hx3.le _ _ o2
  have hlq := (h2.mono (e2.trans hx3.le)).len vt23
  rw [h4.len] at hlq
  repeat' (first | ((first | refine Z.W0 ?_ | refine Z.X0 ?_); simp only [go_sem, seval, o3, hlq]) | (refine hF _ _ ?_; clear hF F) | (refine Z.p0 ?_; simp only [St.put]) | refine Z.a0 ?_ | refine Z.b0 ?_ | refine Z.c0 ?_ | refine Z.h0 ?_ | refine Z.l0 ?_ | refine Z.q0 rfl rfl fun F hF => ?_)
  refine W_loop [0, 3, 5, 16, 17, 18] (fun n s H' => ∃ (k : Nat) (z : AV) (H1 : AH), n + k = v.doc.length ∧ Le H0 H1 ∧ H1 b = some ⟨5, [[.v (.int .i64 v.kind), .v (.int .i64 v.int), .v (.string (bs v.text)), p, q]]⟩ ∧ On H1 1 (rowsB (l ++ [0, 0, 0, 0] ++ encD (v.doc.take k))) H' z ∧
    s = [(0, z), (3, .ptr b 5 0 0), (5, .v (.int .i64 l.length)), (16, q), (17, .v (.int .i64 v.doc.length)), (18, .v (.int .i64 k))]) v.doc.length ?_ ?_
  · simp only [St.keep, St.get, reduceIte, Nat.reduceEqDiff]
    exact ⟨0, x1, H2, by omega, e2, o2, by simpa [encD] using hx3, rfl⟩
  clear hx3 o3 hlq hx2 o2 o1 e2 e1 n1 hne
  rintro n s H4 ⟨k, z, H5, hnk, e5, o5, hz, rfl⟩
  cases n with
  | succ n =>
    have hlt : k < v.doc.length := by omega
    have d : decide ((k : Int) < (v.doc.length : Int)) = true := by simp; omega
    obtain ⟨c, p0, p1, p2, hnm, hce, E⟩ := elF (h2.mono (e5.trans hz.le)) h4 hlt
    obtain ⟨_, _, _, _, _, xx, yy, _, _, rfl, g1, g2, _⟩ := hce.out
    have htk := encD_take hlt
    have hfull := encD_le v.doc (k + 1)
    rw [htk, List.length_append] at hfull
    repeat' (first | ((first | refine Z.W0 ?_ | refine Z.X0 ?_); simp only [go_sem, seval, d, E.idx, E.all]) | (refine hF _ _ ?_; clear hF F) | (refine Z.p0 ?_; simp only [St.put]) | refine Z.a0 ?_ | refine Z.b0 ?_ | refine Z.c0 ?_ | refine Z.h0 ?_ | refine Z.l0 ?_ | refine Z.m0 ?_ | refine Z.q0 rfl rfl fun F hF => ?_ | refine Z.T0 rfl ?_)
    (refine box_go2 fun q4 H6 e6 n6 o6 => ?_; refine hF _ _ ?_; clear hF F)
    repeat' (first | ((first | refine Z.W0 ?_ | refine Z.X0 ?_); simp only [go_sem, seval, o6, g1.cell, g2.cell]) | (refine hF _ _ ?_; clear hF F) | (refine Z.p0 ?_; simp only [St.put]) | refine Z.b0 ?_ | refine Z.c0 ?_ | refine Z.h0 ?_ | refine Z.q0 rfl rfl fun F hF => ?_)
    generalize hq : AH.set H6 q4 _ = H7; have e7 : Le H4 H7 := (by rw [← hq]; exact e6.set' n6); have o7 := (congrFun hq q4).symm; rw [AH.set_same] at o7; clear hq
    skip
    obtain ⟨H8, hz8, e8⟩ := hz.grow e7
    refine field _ _ _ _ _ H8 H7 (deep + 1) _ _ (Nat.lt_of_lt_of_le (Val.doc_lt (List.getElem_mem hlt)) (by omega)) (hce.mono (e5.trans e8)) (chkD_all hcd k hlt).1 hz8 (by simp; omega) fun x9 H9 H10 e10 hx9 => ?_
    (refine hF _ _ ?_; clear hF F)
    have wk : IntKind.i64.wrap ((k : Int) + 1) = ((k + 1 : Nat) : Int) := by rw [wrap_of] <;> omega
    repeat' (first | ((first | refine Z.W0 ?_ | refine Z.X0 ?_); simp only [go_sem, seval, wk]) | (refine hF _ _ ?_; clear hF F) | (refine Z.p0 ?_; simp only [St.put]) | refine Z.b0 ?_ | refine Z.c0 ?_ | refine Z.f0 ?_ | refine Z.h0 ?_ | refine Z.q0 rfl rfl fun F hF => ?_)
    simp only [loopK]
    simp only [St.keep, St.get, reduceIte, Nat.reduceEqDiff]
    exact ⟨n, by omega, k + 1, x9, H10, by omega, (e5.trans e8).trans e10, e10 _ _ (e8 _ _ o5), by rw [htk, ← List.append_assoc]; exact hx9, rfl⟩
  | zero =>
    have d : decide ((k : Int) < (v.doc.length : Int)) = false := by simp; omega
    rw [List.take_of_length_le (by omega)] at hz
    have o6 := hz.le _ _ o5
    have hlq := (h1.mono (e5.trans hz.le)).len vt22
    rw [h3.len] at hlq
    repeat' (first | ((first | refine Z.W0 ?_ | refine Z.X0 ?_); simp only [go_sem, seval, d, o6, hlq]) | (refine hF _ _ ?_; clear hF F) | (refine Z.p0 ?_; simp only [St.put]) | refine Z.a0 ?_ | refine Z.b0 ?_ | refine Z.c0 ?_ | refine Z.e0 ?_ | refine Z.h0 ?_ | refine Z.k0 ?_ | refine Z.l0 ?_ | refine Z.o0 ?_ | refine Z.q0 rfl rfl fun F hF => ?_ | refine Z.U0 rfl ?_)
    refine W_loop [0, 5, 30, 31, 32] (fun n s H' => ∃ (k : Nat) (z : AV) (H1 : AH), n + k = v.list.length ∧ Le H0 H1 ∧ On H1 1 (rowsB (l ++ [0, 0, 0, 0] ++ encD v.doc ++ encL 0 (v.list.take k))) H' z ∧
      s = [(0, z), (5, .v (.int .i64 l.length)), (30, p), (31, .v (.int .i64 v.list.length)), (32, .v (.int .i64 k))]) v.list.length ?_ ?_
    · simp only [St.keep, St.get, reduceIte, Nat.reduceEqDiff]
      exact ⟨0, z, H5, by omega, e5, by simpa [encL] using hz, rfl⟩
    clear hz o6 hlq o5 e5 d hnk
    rintro n s H4 ⟨k, z, H5, hnk, e5, hz, rfl⟩
    cases n with
    | succ n =>
      have hlt : k < v.list.length := by omega
      have d : decide ((k : Int) < (v.list.length : Int)) = true := by simp; omega
      obtain ⟨c, p0, hce, E⟩ := elV (h1.mono (e5.trans hz.le)) h3 hlt
      obtain ⟨_, _, _, _, _, xx, yy, _, _, rfl, g1, g2, _⟩ := hce.out
      have htk := encL_take hlt
      have hfull := encL_le v.list (k + 1)
      rw [htk, List.length_append] at hfull
      have hit := itoa_short (k := k) (by omega)
      repeat' (first | ((first | refine Z.W0 ?_ | refine Z.X0 ?_); simp only [go_sem, seval, d, E.idx, E.load]) | (refine hF _ _ ?_; clear hF F) | (refine Z.p0 ?_; simp only [St.put]) | refine Z.a0 ?_ | refine Z.b0 ?_ | refine Z.c0 ?_ | refine Z.h0 ?_ | refine Z.l0 ?_ | refine Z.m0 ?_ | refine Z.q0 rfl rfl fun F hF => ?_ | refine Z.T0 rfl ?_)
      (refine box_go2 fun q4 H6 e6 n6 o6 => ?_; refine hF _ _ ?_; clear hF F)
      repeat' (first | ((first | refine Z.W0 ?_ | refine Z.X0 ?_); simp only [go_sem, seval, o6, g1.cell, g2.cell]) | (refine hF _ _ ?_; clear hF F) | (refine Z.p0 ?_; simp only [St.put]) | refine Z.c0 ?_ | refine Z.h0 ?_ | refine Z.q0 rfl rfl fun F hF => ?_ | refine Z.A0 rfl rfl rfl fun F hF => ?_ | refine W_drawn (id := 11) [0, 0, 2, 0, 15, 31] [.a 0, .a 1, .a 3, .e 2 [0, 3], .e 4 [], .e 5 []] mixed (by decide +kernel) ?_ | refine Z.C0 rfl rfl rfl fun F hF => ?_)
      generalize hq : AH.set H6 q4 _ = H7; have e7 : Le H4 H7 := (by rw [← hq]; exact e6.set' n6); have o7 := (congrFun hq q4).symm; rw [AH.set_same] at o7; clear hq
      refine itoa_ok (by omega) (by omega) ?_
      (refine hF _ _ ?_ ?_ <;> clear hF F)
      · repeat' (first | ((first | refine Z.W0 ?_ | refine Z.X0 ?_); simp only [go_sem, seval, o7]) | fail)
      repeat' (first | ((first | refine Z.W0 ?_ | refine Z.X0 ?_); simp only [go_sem, seval, o7]) | refine Z.B0 rfl rfl rfl fun F hF => ?_)
      obtain ⟨H8, hz8, e8⟩ := hz.grow e7
      refine field _ _ _ _ _ H8 H7 (deep + 1) _ _ (Nat.lt_of_lt_of_le (Val.list_lt (List.getElem_mem hlt)) (by omega)) (hce.mono (e5.trans e8)) (chkL_all hcl k hlt) hz8 (by simp; omega) fun x9 H9 H10 e10 hx9 => ?_
      (refine hF _ _ ?_; clear hF F)
      have wk : IntKind.i64.wrap ((k : Int) + 1) = ((k + 1 : Nat) : Int) := by rw [wrap_of] <;> omega
      repeat' (first | ((first | refine Z.W0 ?_ | refine Z.X0 ?_); simp only [go_sem, seval, wk]) | (refine hF _ _ ?_; clear hF F) | (refine Z.p0 ?_; simp only [St.put]) | refine Z.b0 ?_ | refine Z.c0 ?_ | refine Z.f0 ?_ | refine Z.h0 ?_ | refine Z.q0 rfl rfl fun F hF => ?_ | refine Z.B0 rfl rfl rfl fun F hF => ?_ | (refine Z.D0 ?_; simp only [St.put]))
      simp only [loopK]
      simp only [St.keep, St.get, reduceIte, Nat.reduceEqDiff]
      exact ⟨n, by omega, k + 1, x9, H10, by omega, (e5.trans e8).trans e10, by rw [htk, ← List.append_assoc]; exact hx9, rfl⟩
    | zero =>
      have d : decide ((k : Int) < (v.list.length : Int)) = false := by simp; omega
      rw [List.take_of_length_le (by omega)] at hz
      repeat' (first | ((first | refine Z.W0 ?_ | refine Z.X0 ?_); simp only [go_sem, seval, d]) | (refine hF _ _ ?_; clear hF F) | (refine Z.p0 ?_; simp only [St.put]) | refine Z.a0 ?_ | refine Z.b0 ?_ | refine Z.c0 ?_ | refine Z.e0 ?_ | refine Z.h0 ?_ | refine Z.k0 ?_ | refine Z.o0 ?_ | refine Z.q0 rfl rfl fun F hF => ?_ | refine Z.U0 rfl ?_)
      refine app30 hz src_zero (by simp; omega) fun x6 H6 hx6 => ?_
      (refine hF _ _ ?_; clear hF F)
      repeat' (first | ((first | refine Z.W0 ?_ | refine Z.X0 ?_); simp only [go_sem, seval]) | (refine hF _ _ ?_; clear hF F) | (refine Z.p0 ?_; simp only [St.put]) | refine Z.a0 ?_ | refine Z.c0 ?_ | refine Z.h0 ?_ | refine Z.q0 rfl rfl fun F hF => ?_)
      obtain ⟨suf, hsuf⟩ : ∃ suf, suf = encD v.doc ++ encL 0 v.list ++ [0] := ⟨_, rfl⟩
      have hrows : l ++ [0, 0, 0, 0] ++ encD v.doc ++ encL 0 v.list ++ [0] = l ++ [0, 0, 0, 0] ++ suf := by rw [hsuf]; simp only [List.append_assoc]
      have hsl : suf.length = (encD v.doc).length + (encL 0 v.list).length + 1 := by rw [hsuf]; simp; omega
      rw [hrows] at hx6
      obtain ⟨bz, hbz, rfl, rfl⟩ := hx6.inv (by simp [rowsB])
      have hN : (rowsB (l ++ [0, 0, 0, 0] ++ suf)).length = l.length + 4 + suf.length := by simp; omega
      rw [hN]
      refine W_cap (t := 0) rfl fun c hc => ?_
      repeat' (first | ((first | refine Z.W0 ?_ | refine Z.X0 ?_); simp only [go_sem, seval]) | (refine hF _ _ ?_; clear hF F) | refine Z.b0 ?_ | refine Z.h0 ?_ | refine Z.q0 rfl rfl fun F hF => ?_)
      refine ov_cut0 vt30 rfl rfl (by omega) hc ?_
      (refine hF _ _ ?_; clear hF F)
      repeat' (first | ((first | refine Z.W0 ?_ | refine Z.X0 ?_); simp only [go_sem, seval]; try (simp (disch := omega) only [Z.w0]; try simp only [go_sem, seval])) | (refine hF _ _ ?_; clear hF F) | refine Z.h0 ?_ | refine Z.q0 rfl rfl fun F hF => ?_)
      refine bput_in (pre := l) (mid := [0, 0, 0, 0]) (suf := suf) (many := 4) (AH.set_same _ _ _) rfl (by omega) (by omega) (by omega) fun x' H' hq hb' => ?_
      (refine hF _ _ ?_; clear hF F)
      repeat' (first | (refine Z.p0 ?_; simp only [St.put]) | refine Z.a0 ?_ | refine Z.c0 ?_)
      refine W_uncap (t := 0) rfl ?_
      repeat' (first | ((first | refine Z.W0 ?_ | refine Z.X0 ?_); simp only [go_sem, seval]) | (refine hF _ _ ?_; clear hF F) | (refine Z.p0 ?_; simp only [St.put]) | refine Z.b0 ?_ | refine Z.c0 ?_ | refine Z.h0 ?_ | refine Z.n0 ?_ | refine Z.q0 rfl rfl fun F hF => ?_)
      simp only [retK, ares, pack, Tryd.results45, St.get, reduceIte, Nat.reduceEqDiff, aload, arow, List.toArray, Array.toList]
      have hnum : ((l.length + 4 + suf.length : Nat) : Int) - (l.length : Int) = (((encD v.doc).length + (encL 0 v.list).length + 5 : Nat) : Int) := by omega
      have hrow : l ++ leS 4 (((l.length + 4 + suf.length : Nat) : Int) - (l.length : Int)) ++ suf = l ++ encV v := by
        rw [hnum, leS_nat, he, hsuf]
        simp only [List.append_assoc]
      rw [hrow] at hb'
      have hH : H' = H5.set bz ⟨1, rowsB (l ++ encV v)⟩ := by
        funext q
        by_cases e : q = bz
        · subst e
          rw [hb', AH.set_same]
        · rw [hq q e, AH.set_ne _ _ e, AH.set_ne _ _ e]
      have hlast := On.ov (H0 := H5) (es := 1) bz (rowsB (l ++ encV v)) hbz (by decide)
      have hL : (rowsB (l ++ encV v)).length = l.length + 4 + suf.length := by simp; omega
      rw [hL, ← hH] at hlast
      exact hk _ _ _ e5 hlast

theorem field_ok : ∀ m, FieldC m
  | 0 => fun v nm cs l x H0 H deep K J h => by omega
  | m + 1 => field_of (body_of (field_ok m))
theorem body_ok (m : Nat) : BodyC m := match m with
  | 0 => fun v cs l x H0 H deep K J h => by omega
  | m + 1 => body_of (field_ok m)
end Go.Proofs.YtboojmppmaepmaaDoor
/- As many bytes as a value has. -/
namespace Go.Fw
set_option maxHeartbeats 8000000
set_option linter.all false
open Go

theorem encD_len : ∀ (l : List (Bs × Val)), (∀ f ∈ l, (encV f.2).length = sizeV f.2) → (encD l).length = sizeD l
  | [], _ => rfl
  | (n, v) :: r, h => by
    have h1 := h (n, v) (by simp)
    have h2 := encD_len r fun f hf => h f (by simp [hf])
    simp only [encD, sizeD, List.length_append, List.length_cons, List.length_nil]
    simp only at h1
    omega
theorem encL_len : ∀ (l : List Val) (i : Nat), (∀ f ∈ l, (encV f).length = sizeV f) → (encL i l).length = sizeL i l
  | [], _, _ => rfl
  | v :: r, i, h => by
    have h1 := h v (by simp)
    have h2 := encL_len r (i + 1) fun f hf => h f (by simp [hf])
    simp only [encL, sizeL, List.length_append, List.length_cons, List.length_nil]
    omega
theorem wrong_more {v : Val} (h : wrongV v = false) : (v.kind ≠ 5 → v.doc = []) ∧ (v.kind ≠ 6 → v.list = []) ∧ (v.kind = 8 → v.text.length = 12) := by
  simp only [wrongV, Bool.or_eq_false_iff, Bool.and_eq_false_iff, decide_eq_false_iff_not] at h
  obtain ⟨⟨⟨⟨⟨_, h5⟩, h6⟩, _⟩, h8⟩, _⟩ := h
  refine ⟨fun e => ?_, fun e => ?_, fun e => ?_⟩
  · rcases h5 with h5 | h5
    · exact absurd e (by simpa using h5)
    · simpa using h5
  · rcases h6 with h6 | h6
    · exact absurd e (by simpa using h6)
    · simpa using h6
  · rcases h8 with h8 | h8
    · exact absurd e h8
    · simpa using h8
theorem encV_len : ∀ (m : Nat) (v : Val) (deep : Nat), SizeOf.sizeOf v < m → chkV deep v = 0 → (encV v).length = sizeV v := by
  intro m
  induction m with
  | zero => intro v deep h; omega
  | succ m ih =>
    intro v deep hm hc
    obtain ⟨hw, hl, hd⟩ := chk_in hc
    obtain ⟨w1, w2, w3⟩ := wrong_more hw
    have hD : (encD v.doc).length = sizeD v.doc := encD_len _ fun f hf => by
      obtain ⟨k, hk, rfl⟩ := List.getElem_of_mem hf
      exact ih _ _ (Nat.lt_of_lt_of_le (Val.doc_lt hf) (by omega)) (chkD_all hd k hk).1
    have hL : (encL 0 v.list).length = sizeL 0 v.list := encL_len _ _ fun f hf => by
      obtain ⟨k, hk, rfl⟩ := List.getElem_of_mem hf
      exact ih _ _ (Nat.lt_of_lt_of_le (Val.list_lt hf) (by omega)) (chkL_all hl k hk)
    rw [encV_eq, sizeV_eq]
    by_cases k3 : v.kind = 3 ∨ v.kind = 10
    · rw [if_pos k3, if_pos k3]; simp
    rw [if_neg k3, if_neg k3]
    by_cases k4 : v.kind = 4
    · rw [if_pos k4, if_pos (.inl k4)]; simp; omega
    rw [if_neg k4]
    by_cases k7 : v.kind = 7
    · rw [if_pos k7, if_pos (.inr k7)]; simp; omega
    rw [if_neg k7, if_neg (show ¬ (v.kind = 4 ∨ v.kind = 7) from by omega)]
    by_cases k8 : v.kind = 8
    · rw [if_pos k8, if_pos k8]; exact w3 k8
    rw [if_neg k8, if_neg k8]
    by_cases k9 : v.kind = 9
    · rw [if_pos k9, if_pos k9]; rfl
    rw [if_neg k9, if_neg k9]
    by_cases k5 : v.kind = 5
    · rw [if_pos (.inl k5), if_pos k5]
      have : encL 0 v.list = [] := by rw [w2 (by omega)]; rfl
      rw [this]
      simp; omega
    rw [if_neg k5]
    by_cases k6 : v.kind = 6
    · rw [if_pos (.inr k6), if_pos k6]
      have : encD v.doc = [] := by rw [w1 (by omega)]; rfl
      rw [this]
      simp; omega
    rw [if_neg (show ¬ (v.kind = 5 ∨ v.kind = 6) from by omega), if_neg k6]
    rfl
end Go.Fw
/- A document as bytes, or why not; a message's frame. -/
namespace Go.Proofs.YtboojmppmaepmaaDoor
set_option maxHeartbeats 8000000
set_option linter.all false
open Go Go.Fw
attribute [local irreducible] Reg RegD seqK blockK loopK retK
set_option maxRecDepth 10000

variable {H : AH} {K : AV → AH → Prop} {J : Value → AH → Prop}

/-- How a document comes out as bytes, or not. -/
def encErr (v : Val) : Int := if v.kind ≠ 5 then 1 else right v
theorem right_len {v : Val} (h : right v = 0) : chkV 1 v = 0 ∧ sizeV v ≤ 65536 ∧ (encV v).length = sizeV v := by
  unfold right at h
  split at h
  · cases h
  · exact ⟨h, by omega, encV_len _ v 1 (Nat.lt_succ_self _) h⟩

theorem encode_ok {v : Val} {cs : List AV} (hv : RdV H v cs) (hk0 : ∀ H', Le H H' → encErr v ≠ 0 → K (.tup [.v (.slice none 0 0), .v (.int .i64 (encErr v))]) H')
    (hk1 : ∀ H' H1 x, Le H H1 → encErr v = 0 → On H1 1 (rowsB (encV v)) H' x → K (.tup [x, .v (.int .i64 0)]) H') : CallX Tryd.prog 32 [.agg cs] H K J := by
  obtain ⟨k1, i1, t1, l1, d1, p, q, la, da, rfl, h1, h2, h3, h4⟩ := hv.out
  refine CallX.of_body Tryd.func32 nm32 rfl ?_; simp only [Tryd.ntmps32, List.length_cons, List.length_nil, argSt, Nat.reduceAdd, Nat.reduceSub]
  repeat' (first | ((first | refine Z.W0 ?_ | refine Z.X0 ?_); simp only [go_sem, seval, h1.cell, h2.cell]) | refine Z.a0 ?_ | refine Z.b0 ?_ | refine Z.q0 rfl rfl fun F hF => ?_)
  (refine box_go2 fun b H1 e1 n1 o1 => ?_; refine hF _ _ ?_; clear hF F)
  by_cases k5 : v.kind = 5
  · have b5 : (v.kind != 5) = false := by simp [k5]
    have ee : encErr v = right v := by unfold encErr; rw [if_neg (by simp [k5])]
    repeat' (first | ((first | refine Z.W0 ?_ | refine Z.X0 ?_); simp only [go_sem, seval, o1, b5]) | (refine hF _ _ ?_; clear hF F) | (refine Z.p0 ?_; simp only [St.put]) | refine Z.a0 ?_ | refine Z.b0 ?_ | refine Z.c0 ?_ | refine Z.h0 ?_ | refine Z.m0 ?_ | refine Z.q0 rfl rfl fun F hF => ?_ | refine Z.U0 rfl ?_)
    refine right_ok (hv.mono e1) fun H2 e2 => ?_
    (refine hF _ _ ?_; clear hF F)
    have o2 := e2 _ _ o1
    have e12 := e1.trans e2
    by_cases hr : right v = 0
    · obtain ⟨r1, r2, r3⟩ := right_len hr
      have z : (right v != 0) = false := by simp [hr]
      repeat' (first | ((first | refine Z.W0 ?_ | refine Z.X0 ?_); simp only [go_sem, seval, o2, z]) | (refine hF _ _ ?_; clear hF F) | (refine Z.p0 ?_; simp only [St.put]) | refine Z.a0 ?_ | refine Z.b0 ?_ | refine Z.c0 ?_ | refine Z.h0 ?_ | refine Z.m0 ?_ | refine Z.q0 rfl rfl fun F hF => ?_ | refine Z.U0 rfl ?_)
      refine body_ok _ v _ [] _ H2 H2 1 _ _ (Nat.lt_succ_self _) (.inl k5) (hv.mono e12) r1 .nil (by simp; omega) fun x H3 H4 e4 hx => ?_
      (refine hF _ _ ?_; clear hF F)
      repeat' (first | ((first | refine Z.W0 ?_ | refine Z.X0 ?_); simp only [go_sem, seval]) | (refine hF _ _ ?_; clear hF F) | (refine Z.p0 ?_; simp only [St.put]) | refine Z.c0 ?_ | refine Z.h0 ?_ | refine Z.n0 ?_ | refine Z.q0 rfl rfl fun F hF => ?_)
      simp only [retK, ares, pack, Tryd.results32, St.get, reduceIte, Nat.reduceEqDiff, aload, arow, List.toArray, Array.toList]
      exact hk1 _ _ _ (e12.trans e4) (by rw [ee]; exact hr) (by simpa using hx)
    · have z : (right v != 0) = true := by simp [hr]
      repeat' (first | ((first | refine Z.W0 ?_ | refine Z.X0 ?_); simp only [go_sem, seval, o2, z]) | (refine hF _ _ ?_; clear hF F) | (refine Z.p0 ?_; simp only [St.put]) | refine Z.a0 ?_ | refine Z.b0 ?_ | refine Z.c0 ?_ | refine Z.d0 ?_ | refine Z.h0 ?_ | refine Z.n0 ?_ | refine Z.q0 rfl rfl fun F hF => ?_ | refine Z.T0 rfl ?_)
      simp only [retK, ares, pack, Tryd.results32, St.get, reduceIte, Nat.reduceEqDiff, aload, arow, List.toArray, Array.toList]
      rw [ee] at hk0
      exact hk0 _ e12 hr
  · have b5 : (v.kind != 5) = true := by simp [k5]
    have ee : encErr v = 1 := by unfold encErr; rw [if_pos k5]
    repeat' (first | ((first | refine Z.W0 ?_ | refine Z.X0 ?_); simp only [go_sem, seval, o1, b5]) | (refine hF _ _ ?_; clear hF F) | (refine Z.p0 ?_; simp only [St.put]) | refine Z.a0 ?_ | refine Z.b0 ?_ | refine Z.c0 ?_ | refine Z.d0 ?_ | refine Z.h0 ?_ | refine Z.n0 ?_ | refine Z.q0 rfl rfl fun F hF => ?_ | refine Z.T0 rfl ?_)
    simp only [retK, ares, pack, Tryd.results32, St.get, reduceIte, Nat.reduceEqDiff, aload, arow, List.toArray, Array.toList]
    rw [ee] at hk0
    exact hk0 _ e1 (by decide)

/-- These seven cells are that message. -/
def RdM (H : AH) (id tw : Int) (v : Val) (cs : List AV) : Prop := (-9223372036854775808 ≤ id ∧ id ≤ 9223372036854775807) ∧ (-9223372036854775808 ≤ tw ∧ tw ≤ 9223372036854775807) ∧ ∃ c, cs = .v (.int .i64 id) :: .v (.int .i64 tw) :: c ∧ RdV H v c
theorem RdM.mono {H H' : AH} {id tw : Int} {v : Val} {cs : List AV} (h : RdM H id tw v cs) (hle : Le H H') : RdM H' id tw v cs := by
  obtain ⟨h1, h2, c, h3, h4⟩ := h
  exact ⟨h1, h2, c, h3, h4.mono hle⟩
def frame (id tw : Nat) (v : Val) : Bs := le 4 (21 + (encV v).length) ++ le 4 id ++ le 4 tw ++ le 4 2013 ++ le 4 0 ++ [0] ++ encV v
def makeErr (id tw : Int) (v : Val) : Int := if mayN id = false ∨ mayN tw = false then 1 else encErr v

theorem make_ok {id tw : Int} {v : Val} {cs : List AV} (hm : RdM H id tw v cs) (hk0 : ∀ H', Le H H' → makeErr id tw v ≠ 0 → K (.tup [.v (.slice none 0 0), .v (.int .i64 (makeErr id tw v))]) H')
    (hk1 : ∀ H' H1 x, Le H H1 → makeErr id tw v = 0 → On H1 1 (rowsB (frame id.toNat tw.toNat v)) H' x → K (.tup [x, .v (.int .i64 0)]) H') : CallX Tryd.prog 11 [.agg cs] H K J := by
  obtain ⟨r1, r2, c, rfl, hv⟩ := hm
  obtain ⟨k1, i1, t1, l1, d1, p, q, la, da, rfl, h1, h2, h3, h4⟩ := hv.out
  refine CallX.of_body Tryd.func11 nm11 rfl ?_; simp only [Tryd.ntmps11, List.length_cons, List.length_nil, argSt, Nat.reduceAdd, Nat.reduceSub]
  repeat' (first | ((first | refine Z.W0 ?_ | refine Z.X0 ?_); simp only [go_sem, seval, h1.cell, h2.cell]) | refine Z.a0 ?_ | refine Z.b0 ?_ | refine Z.q0 rfl rfl fun F hF => ?_)
  (refine box_go2 fun b H1 e1 n1 o1 => ?_; refine hF _ _ ?_; clear hF F)
  repeat' (first | ((first | refine Z.W0 ?_ | refine Z.X0 ?_); simp only [go_sem, seval, o1]) | (refine hF _ _ ?_; clear hF F) | (refine Z.p0 ?_; simp only [St.put]) | refine Z.a0 ?_ | refine Z.b0 ?_ | refine Z.c0 ?_ | refine Z.h0 ?_ | refine Z.q0 rfl rfl fun F hF => ?_)
  refine may_ok ?_
  (refine hF _ _ ?_; clear hF F)
  cases m1 : mayN id
  · have ee : makeErr id tw v = 1 := by unfold makeErr; rw [if_pos (.inl m1)]
    repeat' (first | ((first | refine Z.W0 ?_ | refine Z.X0 ?_); simp only [go_sem, seval, o1]) | (refine hF _ _ ?_; clear hF F) | (refine Z.p0 ?_; simp only [St.put]) | refine Z.a0 ?_ | refine Z.b0 ?_ | refine Z.c0 ?_ | refine Z.d0 ?_ | refine Z.h0 ?_ | refine Z.n0 ?_ | refine Z.q0 rfl rfl fun F hF => ?_ | refine Z.s0 rfl rfl rfl rfl ?_ | refine Z.T0 rfl ?_)
    simp only [retK, ares, pack, Tryd.results11, St.get, reduceIte, Nat.reduceEqDiff, aload, arow, List.toArray, Array.toList]
    rw [ee] at hk0
    exact hk0 _ e1 (by decide)
  repeat' (first | ((first | refine Z.W0 ?_ | refine Z.X0 ?_); simp only [go_sem, seval, o1]) | (refine hF _ _ ?_; clear hF F) | refine Z.h0 ?_ | refine Z.q0 rfl rfl fun F hF => ?_ | refine Z.r0 rfl rfl rfl rfl fun F hF => ?_)
  refine may_ok ?_
  (refine hF _ _ ?_; clear hF F)
  cases m2 : mayN tw
  · have ee : makeErr id tw v = 1 := by unfold makeErr; rw [if_pos (.inr m2)]
    repeat' (first | ((first | refine Z.W0 ?_ | refine Z.X0 ?_); simp only [go_sem, seval, o1]) | (refine hF _ _ ?_; clear hF F) | (refine Z.p0 ?_; simp only [St.put]) | refine Z.a0 ?_ | refine Z.b0 ?_ | refine Z.c0 ?_ | refine Z.d0 ?_ | refine Z.h0 ?_ | refine Z.n0 ?_ | refine Z.q0 rfl rfl fun F hF => ?_ | refine Z.r0 rfl rfl rfl rfl fun F hF => ?_ | refine Z.T0 rfl ?_)
    simp only [retK, ares, pack, Tryd.results11, St.get, reduceIte, Nat.reduceEqDiff, aload, arow, List.toArray, Array.toList]
    rw [ee] at hk0
    exact hk0 _ e1 (by decide)
  have ee : makeErr id tw v = encErr v := by unfold makeErr; rw [if_neg (by simp [m1, m2])]
  rw [ee] at hk0 hk1
  have b1 : 0 ≤ id ∧ id ≤ 4294967295 := by simpa [mayN] using m1
  have b2 : 0 ≤ tw ∧ tw ≤ 4294967295 := by simpa [mayN] using m2
  obtain ⟨i, rfl⟩ : ∃ i : Nat, id = i := ⟨id.toNat, by omega⟩
  obtain ⟨j, rfl⟩ : ∃ j : Nat, tw = j := ⟨tw.toNat, by omega⟩
  simp only [Int.toNat_natCast] at hk1
  repeat' (first | ((first | refine Z.W0 ?_ | refine Z.X0 ?_); simp only [go_sem, seval, o1]) | (refine hF _ _ ?_; clear hF F) | (refine Z.p0 ?_; simp only [St.put]) | refine Z.a0 ?_ | refine Z.b0 ?_ | refine Z.c0 ?_ | refine Z.h0 ?_ | refine Z.m0 ?_ | refine Z.q0 rfl rfl fun F hF => ?_ | refine Z.r0 rfl rfl rfl rfl fun F hF => ?_ | refine Z.U0 rfl ?_)
  refine encode_ok (hv.mono e1) (fun H2 e2 hne => ?_) (fun H2 H3 x e3 he hx => ?_)
  · (refine hF _ _ ?_; clear hF F)
    have z : (encErr v != 0) = true := by simp [hne]
    repeat' (first | ((first | refine Z.W0 ?_ | refine Z.X0 ?_); simp only [go_sem, seval, z]) | (refine hF _ _ ?_; clear hF F) | (refine Z.p0 ?_; simp only [St.put]) | refine Z.a0 ?_ | refine Z.b0 ?_ | refine Z.c0 ?_ | refine Z.d0 ?_ | refine Z.h0 ?_ | refine Z.n0 ?_ | refine Z.q0 rfl rfl fun F hF => ?_ | refine Z.T0 rfl ?_)
    simp only [retK, ares, pack, Tryd.results11, St.get, reduceIte, Nat.reduceEqDiff, aload, arow, List.toArray, Array.toList]
    exact hk0 _ (e1.trans e2) hne
  · (refine hF _ _ ?_; clear hF F)
    have hr : right v = 0 := by
      unfold encErr at he
      split at he
      · cases he
      · exact he
    obtain ⟨g1, g2, g3⟩ := right_len hr
    have o2 := hx.le _ _ (e3 _ _ o1)
    have hlx := lenB hx.rd
    have w1 : IntKind.i64.wrap (21 + ((encV v).length : Int)) = ((21 + (encV v).length : Nat) : Int) := by rw [wrap_of] <;> omega
    repeat' (first | ((first | refine Z.W0 ?_ | refine Z.X0 ?_); simp only [go_sem, seval, hlx, w1]) | (refine hF _ _ ?_; clear hF F) | (refine Z.p0 ?_; simp only [St.put]) | refine Z.a0 ?_ | refine Z.b0 ?_ | refine Z.c0 ?_ | refine Z.h0 ?_ | refine Z.m0 ?_ | refine Z.q0 rfl rfl fun F hF => ?_ | refine Z.U0 rfl ?_)
    refine put_ok (H0 := H2) (l := []) (n := 21 + (encV v).length) .nil (by simp) (by omega) fun x1 H4 H5 e5 hx1 => ?_
    (refine hF _ _ ?_; clear hF F)
    have o4 := hx1.le _ _ (e5 _ _ o2)
    repeat' (first | ((first | refine Z.W0 ?_ | refine Z.X0 ?_); simp only [go_sem, seval, o4]) | (refine hF _ _ ?_; clear hF F) | (refine Z.p0 ?_; simp only [St.put]) | refine Z.a0 ?_ | refine Z.c0 ?_ | refine Z.h0 ?_ | refine Z.q0 rfl rfl fun F hF => ?_ | refine Z.A0 rfl rfl rfl fun F hF => ?_ | refine W_drawn (id := 7) [0, 0, 2, 7, 0, 16, 63, 127, 255, 511] [.a 0, .a 1, .a 2, .a 4, .a 5, .e 3 [4, 5], .e 6 [], .e 7 [], .e 8 [], .e 9 []] mixed (by decide +kernel) ?_ | refine Z.C0 rfl rfl rfl fun F hF => ?_)
    refine put_ok (n := i) hx1 (by simp) (by omega) fun x2 H6 H7 e7 hx2 => ?_
    have o6 := hx2.le _ _ (e7 _ _ (e5 _ _ o2))
    (refine hF _ _ ?_ ?_ <;> clear hF F)
    · repeat' (first | ((first | refine Z.W0 ?_ | refine Z.X0 ?_); simp only [go_sem, seval, o6]) | fail)
    repeat' (first | ((first | refine Z.W0 ?_ | refine Z.X0 ?_); simp only [go_sem, seval, o6]) | refine Z.B0 rfl rfl rfl fun F hF => ?_)
    refine put_ok (n := j) hx2 (by simp) (by omega) fun x3 H8 H9 e9 hx3 => ?_
    (refine hF _ _ ?_; clear hF F)
    repeat' (first | ((first | refine Z.W0 ?_ | refine Z.X0 ?_); simp only [go_sem, seval]) | refine Z.B0 rfl rfl rfl fun F hF => ?_)
    refine put_ok (n := 2013) hx3 (by simp) (by omega) fun x4 H10 H11 e11 hx4 => ?_
    (refine hF _ _ ?_; clear hF F)
    repeat' (first | ((first | refine Z.W0 ?_ | refine Z.X0 ?_); simp only [go_sem, seval]) | refine Z.B0 rfl rfl rfl fun F hF => ?_)
    refine put_ok (n := 0) hx4 (by simp) (by omega) fun x5 H12 H13 e13 hx5 => ?_
    (refine hF _ _ ?_; clear hF F)
    repeat' (first | ((first | refine Z.W0 ?_ | refine Z.X0 ?_); simp only [go_sem, seval]) | (refine hF _ _ ?_; clear hF F) | refine Z.a0 ?_ | refine Z.b0 ?_ | refine Z.c0 ?_ | refine Z.h0 ?_ | refine Z.q0 rfl rfl fun F hF => ?_ | refine Z.B0 rfl rfl rfl fun F hF => ?_ | (refine Z.D0 ?_; simp only [St.put]))
    refine app30 hx5 src_zero (by simp) fun x6 H14 hx6 => ?_
    (refine hF _ _ ?_; clear hF F)
    repeat' (first | ((first | refine Z.W0 ?_ | refine Z.X0 ?_); simp only [go_sem, seval]) | (refine hF _ _ ?_; clear hF F) | refine Z.h0 ?_ | refine Z.q0 rfl rfl fun F hF => ?_)
    have e2n : Le H2 H13 := (((e5.trans e7).trans e9).trans e11).trans e13
    refine app30 hx6 (hx.rd.mono (e2n.trans hx6.le)).src (by simp; omega) fun x7 H15 hx7 => ?_
    (refine hF _ _ ?_; clear hF F)
    repeat' (first | ((first | refine Z.W0 ?_ | refine Z.X0 ?_); simp only [go_sem, seval]) | (refine hF _ _ ?_; clear hF F) | (refine Z.p0 ?_; simp only [St.put]) | refine Z.c0 ?_ | refine Z.h0 ?_ | refine Z.n0 ?_ | refine Z.q0 rfl rfl fun F hF => ?_)
    simp only [retK, ares, pack, Tryd.results11, St.get, reduceIte, Nat.reduceEqDiff, aload, arow, List.toArray, Array.toList]
    refine hk1 _ _ _ (((e1.trans e3).trans hx.le).trans e2n) he ?_
    simpa [frame] using hx7
end Go.Proofs.YtboojmppmaepmaaDoor
/- Messages: are they the same; the document's example. -/
namespace Go.Proofs.YtboojmppmaepmaaDoor
set_option maxHeartbeats 8000000
set_option linter.all false
open Go Go.Fw
attribute [local irreducible] Reg RegD seqK blockK loopK retK
set_option maxRecDepth 10000

variable {H : AH} {K : AV → AH → Prop} {J : Value → AH → Prop}

def sameM (a b : Int × Int × Val) : Prop := a = b
theorem msame_ok {i1 i2 j1 j2 : Int} {v w : Val} {ca cb : List AV} (ha : RdM H i1 j1 v ca) (hb : RdM H i2 j2 w cb) (hk : ∀ H', Le H H' → K (.v (.bool (sameV v w && decide (i1 = i2) && decide (j1 = j2)))) H') : CallX Tryd.prog 19 [.agg ca, .agg cb] H K J := by
  obtain ⟨_, _, c, rfl, hv⟩ := ha
  obtain ⟨_, _, d, rfl, hw⟩ := hb
  obtain ⟨_, _, _, _, _, x, y, _, _, rfl, h1, h2, _⟩ := hv.out
  obtain ⟨_, _, _, _, _, z, u, _, _, rfl, g1, g2, _⟩ := hw.out
  refine CallX.of_body Tryd.func19 nm19 rfl ?_; simp only [Tryd.ntmps19, List.length_cons, List.length_nil, argSt, Nat.reduceAdd, Nat.reduceSub]
  repeat' (first | ((first | refine Z.W0 ?_ | refine Z.X0 ?_); simp only [go_sem, seval, h1.cell, h2.cell]) | refine Z.a0 ?_ | refine Z.b0 ?_ | refine Z.q0 rfl rfl fun F hF => ?_)
  (refine box_go2 fun p H1 e1 n1 o1 => ?_; refine hF _ _ ?_; clear hF F)
  repeat' (first | ((first | refine Z.W0 ?_ | refine Z.X0 ?_); simp only [go_sem, seval, g1.cell, g2.cell]) | refine Z.q0 rfl rfl fun F hF => ?_)
  (refine box_go2 fun q H2 e2 n2 o2 => ?_; refine hF _ _ ?_; clear hF F)
  have o1 := e2 _ _ o1
  have e12 := e1.trans e2
  repeat' (first | ((first | refine Z.W0 ?_ | refine Z.X0 ?_); simp only [go_sem, seval, o1, o2]) | (refine hF _ _ ?_; clear hF F) | (refine Z.p0 ?_; simp only [St.put]) | refine Z.a0 ?_ | refine Z.b0 ?_ | refine Z.c0 ?_ | refine Z.h0 ?_ | refine Z.q0 rfl rfl fun F hF => ?_)
  refine same_ok _ v w _ _ _ _ _ (Nat.lt_succ_self _) (hv.mono e12) (hw.mono e12) fun H3 e3 => ?_
  (refine hF _ _ ?_; clear hF F)
  have o1 := e3 _ _ o1
  have o2 := e3 _ _ o2
  have b1 : (i1 == i2) = decide (i1 = i2) := by by_cases h : i1 = i2 <;> simp [h]
  have b2 : (j1 == j2) = decide (j1 = j2) := by by_cases h : j1 = j2 <;> simp [h]
  cases s1 : sameV v w <;> cases s2 : decide (i1 = i2)
  all_goals
    rw [s2] at b1
    repeat' (first | ((first | refine Z.W0 ?_ | refine Z.X0 ?_); simp only [go_sem, seval, o1, o2, b1, b2]) | (refine hF _ _ ?_; clear hF F) | (refine Z.p0 ?_; simp only [St.put]) | refine Z.a0 ?_ | refine Z.b0 ?_ | refine Z.c0 ?_ | refine Z.h0 ?_ | refine Z.n0 ?_ | refine Z.q0 rfl rfl fun F hF => ?_ | refine Z.r0 rfl rfl rfl rfl fun F hF => ?_ | refine Z.s0 rfl rfl rfl rfl ?_)
    simp only [retK, ares, pack, Tryd.results19, St.get, reduceIte, Nat.reduceEqDiff, aload, arow, List.toArray, Array.toList]
    have := hk _ (e12.trans e3)
    rw [s1, s2] at this
    simpa using this

def plainV : Val := .mk 5 0 [] [] [([97], .mk 3 1 [] [] [])]
theorem plain_ok (hk : ∀ H' cs, Le H H' → RdM H' 7 0 plainV cs → K (.agg cs) H') : CallX Tryd.prog 30 [] H K J := by
  refine CallX.of_body Tryd.func30 nm30 rfl ?_; simp only [Tryd.ntmps30, List.length_cons, List.length_nil, argSt, Nat.reduceAdd, Nat.reduceSub]
  repeat' (first | ((first | refine Z.W0 ?_ | refine Z.X0 ?_); simp only [go_sem, seval]) | refine Z.a0 ?_ | refine Z.b0 ?_ | refine Z.q0 rfl rfl fun F hF => ?_)
  (refine box_go2 fun p H1 e1 n1 o1 => ?_; refine hF _ _ ?_; clear hF F)
  repeat' (first | ((first | refine Z.W0 ?_ | refine Z.X0 ?_); simp only [go_sem, seval, o1]) | (refine hF _ _ ?_; clear hF F) | (refine Z.p0 ?_; simp only [St.put]) | refine Z.a0 ?_ | refine Z.b0 ?_ | refine Z.c0 ?_ | refine Z.h0 ?_ | refine Z.n0 ?_ | refine Z.q0 rfl rfl fun F hF => ?_)
  simp only [retK, ares, pack, Tryd.results30, St.get, reduceIte, Nat.reduceEqDiff, aload, arow, List.toArray, Array.toList]
  simp only [AH.set_same, acut, Tryd.underlying27, Tryd.underlying26, isAggD, cl27, if_true, true_and, List.getElem?_cons_zero, Option.some.injEq, exists_eq_left', List.drop_zero, List.take_succ_cons, List.take_zero, List.length_cons, List.length_nil, ne_eq]
  refine ⟨by decide, by decide, ?_⟩
  refine hk _ _ (e1.set' n1) ⟨by decide, by decide, _, rfl, ?_⟩
  refine RdV.mk (rl := []) (rd := [[.v (.string (bs [97])), .v (.int .i64 3), .v (.int .i64 1), .v (.string (bs [])), .v (.slice none 0 0), .v (.slice none 0 0)]]) (by decide) (by decide) (by simp) (by simp) (by simp) .nil (.imm _) rfl ?_
  refine ⟨[.v (.int .i64 3), .v (.int .i64 1), .v (.string (bs [])), .v (.slice none 0 0), .v (.slice none 0 0)], [], rfl, by simp, ?_, rfl⟩
  exact RdV.mk (rl := []) (rd := []) (by decide) (by decide) (by simp) (by simp) (by simp) .nil .nil rfl rfl
end Go.Proofs.YtboojmppmaepmaaDoor
/- Reading: which faults there are, and where it ends. -/
namespace Go.Fw
set_option maxHeartbeats 8000000
set_option linter.all false
open Go

/-- A fault's number. -/
def Err20 {α : Type} (r : Rd α) : Prop := ∀ y, r = .error y → 20 ≤ y.1
theorem err_ite {α : Type} {p : Prop} [Decidable p] {a b : Rd α} (h1 : Err20 a) (h2 : Err20 b) : Err20 (if p then a else b) := by split <;> assumption
theorem err_fail {α : Type} {e : Int} {at_ : Nat} (h : 20 ≤ e) : Err20 (fail e at_ : Rd α) := fun y hy => by
  simp only [fail, Except.error.injEq] at hy
  subst hy; exact h
theorem err_ok {α : Type} {x : α} : Err20 (.ok x : Rd α) := fun y hy => by cases hy
theorem err_match {α β : Type} {r : Rd α} {f : α → Rd β} (h : Err20 r) (hf : ∀ x, Err20 (f x)) : Err20 (match r with | .ok x => f x | .error y => .error y) := by
  cases r with
  | ok x => exact hf x
  | error y =>
    intro z hz
    simp only [Except.error.injEq] at hz
    subst hz
    exact h _ rfl
theorem err_same {α : Type} {r : Rd α} (h : Err20 r) {y : Int × Int} (hy : r = .error y) {β : Type} : Err20 (.error y : Rd β) := fun z hz => by
  simp only [Except.error.injEq] at hz
  subst hz
  exact h _ hy

theorem decV_err {rec : Nat → Nat → Bool → Rd (List (Bs × Val) × Nat)} (hr : ∀ a l t, Err20 (rec a l t)) (b : Bs) (k at_ last : Nat) : Err20 (decV rec b k at_ last) := by
  unfold decV
  refine err_ite ?_ (err_ite ?_ ?_)
  · split
    · exact err_ok
    · exact err_same (hr _ _ _) (by assumption)
  · split
    · exact err_ok
    · exact err_same (hr _ _ _) (by assumption)
  repeat' (first | exact err_ok | exact err_fail (by decide) | apply err_ite)
theorem decLoop_err {rec : Nat → Nat → Bool → Rd (List (Bs × Val) × Nat)} (hr : ∀ a l t, Err20 (rec a l t)) (b : Bs) (last : Nat) (list : Bool) : ∀ (n at_ : Nat) (out : List (Bs × Val)), Err20 (decLoop rec b last list n at_ out) := by
  intro n
  induction n with
  | zero =>
    intro at_ out
    unfold decLoop
    repeat' (first | exact err_ok | exact err_fail (by decide) | apply err_ite)
  | succ n ih =>
    intro at_ out
    unfold decLoop
    refine err_ite (err_ite (err_fail (by decide)) ?_) (err_ite (err_fail (by decide)) err_ok)
    split
    · exact err_fail (by decide)
    split
    · exact err_fail (by decide)
    refine err_ite (err_fail (by decide)) ?_
    split
    · exact ih _ _
    · exact err_same (decV_err hr _ _ _ _) (by assumption)
theorem decF_err (b : Bs) : ∀ (d at_ last : Nat) (list : Bool), Err20 (decF b d at_ last list) := by
  intro d
  induction d with
  | zero => intro at_ last list; exact err_fail (by decide)
  | succ d ih =>
    intro at_ last list
    unfold decF
    exact err_ite (err_fail (by decide)) (err_ite (err_fail (by decide)) (err_ite (err_fail (by decide)) (decLoop_err ih _ _ _ _ _ _)))
end Go.Fw
/- Reading a document: bytes that are just one; a frame. -/
namespace Go.Proofs.YtboojmppmaepmaaDoor
set_option maxHeartbeats 8000000
set_option linter.all false
open Go Go.Fw
attribute [local irreducible] Reg RegD seqK blockK loopK retK panK
set_option maxRecDepth 10000

variable {H : AH} {K : AV → AH → Prop} {J : Value → AH → Prop}

theorem ld2 {q : Nat} {cs : List AV} (hb : H q = some ⟨2, [cs]⟩) (hl : cs.length = 2) (F : AV → Prop) : aload Tryd.prog 73 (.ptr q 2 0 0) H F = F (.agg cs) := by
  simp only [aload, arow, hb, acut, Tryd.underlying73, isAggD, cl73, if_true, true_and, List.getElem?_cons_zero, Option.some.injEq, exists_eq_left', List.drop_zero, ne_eq]
  rw [List.take_of_length_le (by omega)]
  simp [hl]

theorem decode_ok {x : AV} {b : Bs} (hx : RdS H 1 (rowsB b) x) (hb : b.length ≤ 1000000000)
    (hk0 : ∀ v H' Hv cs, Fw.decode b = .ok v → Le H H' → Apart H Hv → Le Hv H' → RdV Hv v cs → K (.tup [.agg cs, .agg [.v (.int .i64 0), .v (.int .i64 0)]]) H')
    (hk1 : ∀ y H', Fw.decode b = .error y → y.1 ≠ 0 → Le H H' → K (.tup [.agg zero5, .agg [.v (.int .i64 y.1), .v (.int .i64 y.2)]]) H') :
    CallX Tryd.prog 38 [x] H K J := by
  have lb := lenB hx
  refine CallX.of_body Tryd.func38 nm38 rfl ?_; simp only [Tryd.ntmps38, List.length_cons, List.length_nil, argSt, Nat.reduceAdd, Nat.reduceSub]
  repeat' (first | ((first | refine Z.W0 ?_ | refine Z.X0 ?_); simp only [go_sem, seval]) | refine Z.a0 ?_ | refine Z.b0 ?_ | refine Z.q0 rfl rfl fun F hF => ?_)
  (refine box_go2 fun r2 H1 e1 n1 o1 => ?_; refine hF _ _ ?_; clear hF F)
  repeat' (first | ((first | refine Z.W0 ?_ | refine Z.X0 ?_); simp only [go_sem, seval]) | refine Z.q0 rfl rfl fun F hF => ?_)
  (refine box_go2 fun r3 H2 e2 n2 o2 => ?_; refine hF _ _ ?_; clear hF F)
  have n23 : r2 ≠ r3 := fun e => by rw [← e, o1] at n2; cases n2
  have e12 := e1.trans e2
  have o1 := e2 _ _ o1
  have n3 := e1.none n2
  have lb2 := lenB (hx.mono e12)
  by_cases c1 : 65536 < b.length
  · have hd : Fw.decode b = .error (2, -1) := by unfold Fw.decode; rw [if_pos c1]
    have d1 : decide ((b.length : Int) > 65536) = true := by simp; omega
    repeat' (first | ((first | refine Z.W0 ?_ | refine Z.X0 ?_); simp only [go_sem, seval, lb2, d1, o1, o2, n23, Ne.symm n23]) | (refine hF _ _ ?_; clear hF F) | (refine Z.p0 ?_; simp only [St.put]) | refine Z.a0 ?_ | refine Z.b0 ?_ | refine Z.c0 ?_ | refine Z.d0 ?_ | refine Z.h0 ?_ | refine Z.n0 ?_ | refine Z.q0 rfl rfl fun F hF => ?_ | refine Z.T0 rfl ?_)
    simp only [retK, ares, pack, Tryd.results38, St.get, reduceIte, Nat.reduceEqDiff, List.toArray, Array.toList]
    rw [ld5 (by rw [AH.set_ne _ _ n23, AH.set_same]) rfl, ld2 (AH.set_same _ _ _) rfl]
    exact hk1 (2, -1) _ hd (by decide) ((e12.set' n1).set' n3)
  have d1 : decide ((b.length : Int) > 65536) = false := by simp; omega
  have hdec : Fw.decode b = match decF b 20 0 b.length false with | .error x => .error x | .ok (d, e) => if e < b.length then .error (26, e) else .ok (.mk 5 0 [] [] d) := by
    unfold Fw.decode; rw [if_neg c1]; rfl
  repeat' (first | ((first | refine Z.W0 ?_ | refine Z.X0 ?_); simp only [go_sem, seval, lb2, d1]) | (refine hF _ _ ?_; clear hF F) | (refine Z.p0 ?_; simp only [St.put]) | refine Z.a0 ?_ | refine Z.b0 ?_ | refine Z.c0 ?_ | refine Z.h0 ?_ | refine Z.m0 ?_ | refine Z.q0 rfl rfl fun F hF => ?_ | refine Z.U0 rfl ?_)
  refine read1_ok (hx.mono e12) hb (Nat.zero_le _) (fun ds e H3 Hv cs g1 g2 e3 a3 le3 rv => ?_) (fun y H3 g1 e3 => ?_)
  · rw [g1] at hdec
    simp only at hdec
    obtain ⟨_, _, _, _, _, xx, yy, _, _, hcs, f1, f2, _⟩ := rv.out
    simp only [Val.kind, Val.int, Val.text] at hcs
    (refine hF _ _ ?_; clear hF F)
    subst hcs
    repeat' (first | ((first | refine Z.W0 ?_ | refine Z.X0 ?_); simp only [go_sem, seval]) | (refine hF _ _ ?_; clear hF F) | refine Z.h0 ?_ | refine Z.q0 rfl rfl fun F hF => ?_)
    (refine box_go2 fun r4 H4 e4 n4 o4 => ?_; refine hF _ _ ?_; clear hF F)
    repeat' (first | ((first | refine Z.W0 ?_ | refine Z.X0 ?_); simp only [go_sem, seval]) | refine Z.q0 rfl rfl fun F hF => ?_)
    (refine box_go2 fun r6 H5 e5 n5 o5 => ?_; refine hF _ _ ?_; clear hF F)
    have n46 : r4 ≠ r6 := fun e => by rw [← e, o4] at n5; cases n5
    have o4 := e5 _ _ o4
    have e35 := e4.trans e5
    have q1 := e35 _ _ (e3 _ _ o1)
    have q2 := e35 _ _ (e3 _ _ o2)
    have lb5 := lenB (hx.mono ((e12.trans e3).trans e35))
    have m42 : r4 ≠ r2 := fun e => by rw [e, e3 _ _ o1] at n4; cases n4
    have m43 : r4 ≠ r3 := fun e => by rw [e, e3 _ _ o2] at n4; cases n4
    have m62 : r6 ≠ r2 := fun e => by rw [e, e4 _ _ (e3 _ _ o1)] at n5; cases n5
    have m63 : r6 ≠ r3 := fun e => by rw [e, e4 _ _ (e3 _ _ o2)] at n5; cases n5
    have hle5 : Le H H5 := (e12.trans e3).trans e35
    have n4H : H r4 = none := (e12.trans e3).none n4
    have n6H : H r6 = none := ((e12.trans e3).trans e4).none n5
    by_cases c2 : e < b.length
    · rw [if_pos c2] at hdec
      have d2 : decide ((e : Int) < (b.length : Int)) = true := by simp; omega
      repeat' (first | ((first | refine Z.W0 ?_ | refine Z.X0 ?_); simp only [go_sem, seval, lb5, d2, o4, o5, q1, q2, n23, Ne.symm n23, n46, Ne.symm n46, m42, m43, m62, m63, Ne.symm m42, Ne.symm m43, Ne.symm m62, Ne.symm m63, f1.cell, f2.cell]) | (refine hF _ _ ?_; clear hF F) | (refine Z.p0 ?_; simp only [St.put]) | refine Z.a0 ?_ | refine Z.b0 ?_ | refine Z.c0 ?_ | refine Z.d0 ?_ | refine Z.h0 ?_ | refine Z.n0 ?_ | refine Z.q0 rfl rfl fun F hF => ?_ | refine Z.r0 rfl rfl rfl rfl fun F hF => ?_ | refine Z.T0 rfl ?_)
      simp only [retK, ares, pack, Tryd.results38, St.get, reduceIte, Nat.reduceEqDiff, List.toArray, Array.toList]
      rw [ld5 (by rw [AH.set_ne _ _ n23, AH.set_same]) rfl, ld2 (AH.set_same _ _ _) rfl]
      exact hk1 (26, e) _ hdec (show (26 : Int) ≠ 0 by decide) ((((hle5.set' n4H).set' n6H).set' n1).set' n3)
    · rw [if_neg c2] at hdec
      have d2 : decide ((e : Int) < (b.length : Int)) = false := by simp; omega
      repeat' (first | ((first | refine Z.W0 ?_ | refine Z.X0 ?_); simp only [go_sem, seval, lb5, d2, o4, o5, q1, q2, n23, Ne.symm n23, n46, Ne.symm n46, m42, m43, m62, m63, Ne.symm m42, Ne.symm m43, Ne.symm m62, Ne.symm m63, f1.cell, f2.cell]) | (refine hF _ _ ?_; clear hF F) | (refine Z.p0 ?_; simp only [St.put]) | refine Z.a0 ?_ | refine Z.b0 ?_ | refine Z.c0 ?_ | refine Z.h0 ?_ | refine Z.m0 ?_ | refine Z.n0 ?_ | refine Z.q0 rfl rfl fun F hF => ?_ | refine Z.r0 rfl rfl rfl rfl fun F hF => ?_ | refine Z.A0 rfl rfl rfl fun F hF => ?_ | refine Z.B0 rfl rfl rfl fun F hF => ?_ | (refine Z.D0 ?_; simp only [St.put]) | refine W_drawn (id := 6) [0, 0, 1, 7] [.a 0, .a 1, .e 2 [1], .e 3 []] mixed (by decide +kernel) ?_ | refine Z.C0 rfl rfl rfl fun F hF => ?_ | (refine hF _ _ ?_ ?_ <;> clear hF F) | refine Z.U0 rfl ?_)
      simp only [retK, ares, pack, Tryd.results38, St.get, reduceIte, Nat.reduceEqDiff, List.toArray, Array.toList]
      rw [ld5 (by rw [AH.set_ne _ _ n23, AH.set_same]) rfl, ld2 (AH.set_same _ _ _) rfl]
      have v4 : Hv r4 = none := le3.none n4
      have v6 : Hv r6 = none := (le3.trans e4).none n5
      exact hk0 _ _ Hv _ hdec ((((hle5.set' n4H).set' n6H).set' n1).set' n3) (fun c o hc => a3 c o (e12 c o hc)) (((((le3.trans e35).set' v4).set' v6).set' (a3 _ _ o1)).set' (a3 _ _ o2)) rv
  · rw [g1] at hdec
    simp only at hdec
    have hy := decF_err b 20 0 b.length false y g1
    have dz : (y.1 == 0) = false := beq_eq_false_iff_ne.2 (by omega)
    unfold zero5
    (refine hF _ _ ?_; clear hF F)
    repeat' (first | ((first | refine Z.W0 ?_ | refine Z.X0 ?_); simp only [go_sem, seval]) | (refine hF _ _ ?_; clear hF F) | refine Z.h0 ?_ | refine Z.q0 rfl rfl fun F hF => ?_)
    (refine box_go2 fun r4 H4 e4 n4 o4 => ?_; refine hF _ _ ?_; clear hF F)
    repeat' (first | ((first | refine Z.W0 ?_ | refine Z.X0 ?_); simp only [go_sem, seval]) | refine Z.q0 rfl rfl fun F hF => ?_)
    (refine box_go2 fun r6 H5 e5 n5 o5 => ?_; refine hF _ _ ?_; clear hF F)
    have n46 : r4 ≠ r6 := fun e => by rw [← e, o4] at n5; cases n5
    have o4 := e5 _ _ o4
    have e35 := e4.trans e5
    have q1 := e35 _ _ (e3 _ _ o1)
    have q2 := e35 _ _ (e3 _ _ o2)
    have m42 : r4 ≠ r2 := fun e => by rw [e, e3 _ _ o1] at n4; cases n4
    have m43 : r4 ≠ r3 := fun e => by rw [e, e3 _ _ o2] at n4; cases n4
    have m62 : r6 ≠ r2 := fun e => by rw [e, e4 _ _ (e3 _ _ o1)] at n5; cases n5
    have m63 : r6 ≠ r3 := fun e => by rw [e, e4 _ _ (e3 _ _ o2)] at n5; cases n5
    have hle5 : Le H H5 := (e12.trans e3).trans e35
    have n4H : H r4 = none := (e12.trans e3).none n4
    have n6H : H r6 = none := ((e12.trans e3).trans e4).none n5
    repeat' (first | ((first | refine Z.W0 ?_ | refine Z.X0 ?_); simp only [go_sem, seval, dz, o4, o5, q1, q2, n23, Ne.symm n23, n46, Ne.symm n46, m42, m43, m62, m63, Ne.symm m42, Ne.symm m43, Ne.symm m62, Ne.symm m63]) | (refine hF _ _ ?_; clear hF F) | (refine Z.p0 ?_; simp only [St.put]) | refine Z.a0 ?_ | refine Z.b0 ?_ | refine Z.c0 ?_ | refine Z.h0 ?_ | refine Z.m0 ?_ | refine Z.n0 ?_ | refine Z.q0 rfl rfl fun F hF => ?_ | refine Z.A0 rfl rfl rfl fun F hF => ?_ | refine Z.B0 rfl rfl rfl fun F hF => ?_ | refine Z.s0 rfl rfl rfl rfl ?_ | (refine Z.D0 ?_; simp only [St.put]) | refine W_drawn (id := 6) [0, 0, 1, 7] [.a 0, .a 1, .e 2 [1], .e 3 []] mixed (by decide +kernel) ?_ | refine Z.C0 rfl rfl rfl fun F hF => ?_ | (refine hF _ _ ?_ ?_ <;> clear hF F) | refine Z.U0 rfl ?_)
    simp only [retK, ares, pack, Tryd.results38, St.get, reduceIte, Nat.reduceEqDiff, List.toArray, Array.toList]
    rw [ld5 (by rw [AH.set_ne _ _ n23, AH.set_same]) rfl, ld2 (AH.set_same _ _ _) rfl]
    exact hk1 y _ hdec (by omega) ((((hle5.set' n4H).set' n6H).set' n1).set' n3)
end Go.Proofs.YtboojmppmaepmaaDoor
/- Reading a frame. -/
namespace Go.Proofs.YtboojmppmaepmaaDoor
set_option maxHeartbeats 8000000
set_option linter.all false
open Go Go.Fw
attribute [local irreducible] Reg RegD seqK blockK loopK retK panK
set_option maxRecDepth 10000

variable {H : AH} {K : AV → AH → Prop} {J : Value → AH → Prop}

def zeroV : Val := .mk 0 0 [] [] []
def parse (b : Bs) : (Int × Int × Val) × Int :=
  if lenOk b.length = false ∨ num b 0 4 ≠ b.length then ((0, 0, zeroV), 220)
  else if num b 12 4 ≠ 2013 then ((num b 4 4, num b 8 4, zeroV), 221)
  else if num b 16 4 ≠ 0 then ((num b 4 4, num b 8 4, zeroV), 222)
  else if b.getD 20 0 ≠ 0 then ((num b 4 4, num b 8 4, zeroV), 223)
  else match Fw.decode (b.drop 21) with
    | .error y => ((num b 4 4, num b 8 4, zeroV), y.1)
    | .ok v => ((num b 4 4, num b 8 4, v), 0)

theorem ld7 {q : Nat} {cs : List AV} (hb : H q = some ⟨7, [cs]⟩) (hl : cs.length = 7) (F : AV → Prop) : aload Tryd.prog 27 (.ptr q 7 0 0) H F = F (.agg cs) := by
  simp only [aload, arow, hb, acut, Tryd.underlying27, Tryd.underlying26, isAggD, cl27, if_true, true_and, List.getElem?_cons_zero, Option.some.injEq, exists_eq_left', List.drop_zero, ne_eq]
  rw [List.take_of_length_le (by omega)]
  simp [hl]
theorem rdM_zero (H : AH) (i j : Nat) (hi : i < 4294967296) (hj : j < 4294967296) : RdM H i j zeroV (.v (.int .i64 i) :: .v (.int .i64 j) :: zero5) :=
  ⟨by omega, by omega, zero5, rfl, rdV_plain (k := 0) (i := 0) (t := []) (by decide) (by decide) (by simp) H⟩

theorem parse_ok {x : AV} {b : Bs} (hx : RdS H 1 (rowsB b) x) (hb : b.length ≤ 1000000000)
    (hk : ∀ H' Hv cs, Le H H' → Apart H Hv → Le Hv H' → RdM Hv (parse b).1.1 (parse b).1.2.1 (parse b).1.2.2 cs → K (.tup [.agg cs, .v (.int .i64 (parse b).2)]) H') :
    CallX Tryd.prog 16 [x] H K J := by
  have lb := lenB hx
  obtain ⟨r, hr⟩ : ∃ r, parse b = r := ⟨_, rfl⟩
  rw [hr] at hk
  unfold parse at hr
  refine CallX.of_body Tryd.func16 nm16 rfl ?_; simp only [Tryd.ntmps16, List.length_cons, List.length_nil, argSt, Nat.reduceAdd, Nat.reduceSub]
  repeat' (first | ((first | refine Z.W0 ?_ | refine Z.X0 ?_); simp only [go_sem, seval]) | refine Z.a0 ?_ | refine Z.b0 ?_ | refine Z.q0 rfl rfl fun F hF => ?_)
  (refine box_go2 fun r2 H1 e1 n1 o1 => ?_; refine hF _ _ ?_; clear hF F)
  have lb1 := lenB (hx.mono e1)
  have none0 : ∀ {H' : AH}, Le (fun _ => none) H' := fun _ _ h => by cases h
  have bad : ∀ H', Le H H' → r = ((0, 0, zeroV), 220) → K (.tup [.agg (.v (.int .i64 0) :: .v (.int .i64 0) :: zero5), .v (.int .i64 220)]) H' := fun H' h1 h2 => by
    rw [h2] at hk
    exact hk H' (fun _ => none) _ h1 (fun _ _ _ => rfl) none0 (rdM_zero _ 0 0 (by decide) (by decide))
  repeat' (first | ((first | refine Z.W0 ?_ | refine Z.X0 ?_); simp only [go_sem, seval, lb1]) | (refine hF _ _ ?_; clear hF F) | (refine Z.p0 ?_; simp only [St.put]) | refine Z.a0 ?_ | refine Z.b0 ?_ | refine Z.c0 ?_ | refine Z.h0 ?_ | refine Z.q0 rfl rfl fun F hF => ?_)
  refine length_ok ?_
  (refine hF _ _ ?_; clear hF F)
  cases c1 : lenOk b.length
  · rw [if_pos (.inl c1)] at hr
    repeat' (first | ((first | refine Z.W0 ?_ | refine Z.X0 ?_); simp only [go_sem, seval, o1]) | (refine hF _ _ ?_; clear hF F) | (refine Z.p0 ?_; simp only [St.put]) | refine Z.a0 ?_ | refine Z.b0 ?_ | refine Z.c0 ?_ | refine Z.d0 ?_ | refine Z.h0 ?_ | refine Z.n0 ?_ | refine Z.q0 rfl rfl fun F hF => ?_ | refine Z.s0 rfl rfl rfl rfl ?_ | refine Z.T0 rfl ?_)
    simp only [retK, ares, pack, Tryd.results16, St.get, reduceIte, Nat.reduceEqDiff, List.toArray, Array.toList]
    rw [ld7 (AH.set_same _ _ _) rfl]
    exact bad _ (e1.set' n1) hr.symm
  have hl : 26 ≤ b.length ∧ b.length ≤ 131072 := by
    simp only [lenOk, Bool.and_eq_true, decide_eq_true_eq] at c1
    omega
  repeat' (first | ((first | refine Z.W0 ?_ | refine Z.X0 ?_); simp only [go_sem, seval, c1, lb1]) | (refine hF _ _ ?_; clear hF F) | refine Z.h0 ?_ | refine Z.q0 rfl rfl fun F hF => ?_ | refine Z.r0 rfl rfl rfl rfl fun F hF => ?_)
  refine read_ok (at_ := 0) (hx.mono e1) hb (by omega) ?_
  (refine hF _ _ ?_; clear hF F)
  by_cases c2 : num b 0 4 = b.length
  case neg =>
    have d2 : ((num b 0 4 : Int) == (b.length : Int)) = false := beq_eq_false_iff_ne.2 (by omega)
    have d2' : ((num b 0 4 : Int) != (b.length : Int)) = true := bne_iff_ne.2 (by omega)
    rw [if_pos (.inr c2)] at hr
    repeat' (first | ((first | refine Z.W0 ?_ | refine Z.X0 ?_); simp only [go_sem, seval, o1, lb1, d2, d2']) | (refine hF _ _ ?_; clear hF F) | (refine Z.p0 ?_; simp only [St.put]) | refine Z.a0 ?_ | refine Z.b0 ?_ | refine Z.c0 ?_ | refine Z.d0 ?_ | refine Z.h0 ?_ | refine Z.n0 ?_ | refine Z.q0 rfl rfl fun F hF => ?_ | refine Z.r0 rfl rfl rfl rfl fun F hF => ?_ | refine Z.T0 rfl ?_)
    simp only [retK, ares, pack, Tryd.results16, St.get, reduceIte, Nat.reduceEqDiff, List.toArray, Array.toList]
    rw [ld7 (AH.set_same _ _ _) rfl]
    exact bad _ (e1.set' n1) hr.symm
  rw [if_neg (by simp [c1, c2])] at hr
  repeat' (first | ((first | refine Z.W0 ?_ | refine Z.X0 ?_); simp only [go_sem, seval, lb1, c2]) | (refine hF _ _ ?_; clear hF F) | (refine Z.p0 ?_; simp only [St.put]) | refine Z.a0 ?_ | refine Z.b0 ?_ | refine Z.c0 ?_ | refine Z.h0 ?_ | refine Z.m0 ?_ | refine Z.q0 rfl rfl fun F hF => ?_ | refine Z.r0 rfl rfl rfl rfl fun F hF => ?_ | refine Z.U0 rfl ?_)
  refine read_ok (at_ := 4) (hx.mono e1) hb (by omega) ?_
  (refine hF _ _ ?_; clear hF F)
  repeat' (first | ((first | refine Z.W0 ?_ | refine Z.X0 ?_); simp only [go_sem, seval]) | (refine hF _ _ ?_; clear hF F) | refine Z.h0 ?_ | refine Z.q0 rfl rfl fun F hF => ?_)
  refine read_ok (at_ := 8) (hx.mono e1) hb (by omega) ?_
  (refine hF _ _ ?_; clear hF F)
  repeat' (first | ((first | refine Z.W0 ?_ | refine Z.X0 ?_); simp only [go_sem, seval]) | (refine hF _ _ ?_; clear hF F) | refine Z.h0 ?_ | refine Z.q0 rfl rfl fun F hF => ?_)
  (refine box_go2 fun r4 H2 e2 n2 o2 => ?_; refine hF _ _ ?_; clear hF F)
  repeat' (first | ((first | refine Z.W0 ?_ | refine Z.X0 ?_); simp only [go_sem, seval, o2]) | (refine hF _ _ ?_; clear hF F) | (refine Z.p0 ?_; simp only [St.put]) | refine Z.a0 ?_ | refine Z.c0 ?_ | refine Z.h0 ?_ | refine Z.l0 ?_ | refine Z.q0 rfl rfl fun F hF => ?_)
  generalize hq : AH.set H2 r4 _ = H3; have e3 : Le H1 H3 := (by rw [← hq]; exact e2.set' n2); have o3 := (congrFun hq r4).symm; rw [AH.set_same] at o3; clear hq
  have e13 := e1.trans e3
  have q1 := e3 _ _ o1
  have n24 : r2 ≠ r4 := fun e => by rw [← e, o1] at n2; cases n2
  have n4H : H r4 = none := e1.none n2
  have hx3 := hx.mono e13
  have lb3 := lenB hx3
  have hid := num4 b 4
  have hto := num4 b 8
  have some_ : ∀ (H' : AH) (e : Int), Le H H' → r = (((num b 4 4 : Int), (num b 8 4 : Int), zeroV), e) → K (.tup [.agg (.v (.int .i64 (num b 4 4)) :: .v (.int .i64 (num b 8 4)) :: zero5), .v (.int .i64 e)]) H' := fun H' e h1 h2 => by
    rw [h2] at hk
    exact hk H' (fun _ => none) _ h1 (fun _ _ _ => rfl) none0 (rdM_zero _ _ _ hid hto)
  repeat' (first | ((first | refine Z.W0 ?_ | refine Z.X0 ?_); simp only [go_sem, seval]) | (refine hF _ _ ?_; clear hF F) | refine Z.b0 ?_ | refine Z.h0 ?_ | refine Z.q0 rfl rfl fun F hF => ?_)
  refine read_ok (at_ := 12) hx3 hb (by omega) ?_
  (refine hF _ _ ?_; clear hF F)
  by_cases c3 : num b 12 4 = 2013
  case neg =>
    have d3 : ((num b 12 4 : Int) != 2013) = true := bne_iff_ne.2 (by omega)
    rw [if_pos c3] at hr
    repeat' (first | ((first | refine Z.W0 ?_ | refine Z.X0 ?_); simp only [go_sem, seval, o3, q1, d3, n24, Ne.symm n24]) | (refine hF _ _ ?_; clear hF F) | (refine Z.p0 ?_; simp only [St.put]) | refine Z.a0 ?_ | refine Z.b0 ?_ | refine Z.c0 ?_ | refine Z.d0 ?_ | refine Z.g0 ?_ | refine Z.h0 ?_ | refine Z.n0 ?_ | refine Z.q0 rfl rfl fun F hF => ?_ | refine Z.T0 rfl ?_)
    simp only [retK, ares, pack, Tryd.results16, St.get, reduceIte, Nat.reduceEqDiff, List.toArray, Array.toList]
    rw [ld7 (AH.set_same _ _ _) rfl]
    exact some_ _ 221 (e13.set' n1) hr.symm
  rw [if_neg (by simp [c3])] at hr
  repeat' (first | ((first | refine Z.W0 ?_ | refine Z.X0 ?_); simp only [go_sem, seval, c3]) | (refine hF _ _ ?_; clear hF F) | (refine Z.p0 ?_; simp only [St.put]) | refine Z.a0 ?_ | refine Z.b0 ?_ | refine Z.c0 ?_ | refine Z.h0 ?_ | refine Z.q0 rfl rfl fun F hF => ?_ | refine Z.U0 rfl ?_)
  refine read_ok (at_ := 16) hx3 hb (by omega) ?_
  (refine hF _ _ ?_; clear hF F)
  by_cases c4 : num b 16 4 = 0
  case neg =>
    have d4 : ((num b 16 4 : Int) != 0) = true := bne_iff_ne.2 (by omega)
    rw [if_pos c4] at hr
    repeat' (first | ((first | refine Z.W0 ?_ | refine Z.X0 ?_); simp only [go_sem, seval, o3, q1, d4, n24, Ne.symm n24]) | (refine hF _ _ ?_; clear hF F) | (refine Z.p0 ?_; simp only [St.put]) | refine Z.a0 ?_ | refine Z.b0 ?_ | refine Z.c0 ?_ | refine Z.d0 ?_ | refine Z.g0 ?_ | refine Z.h0 ?_ | refine Z.n0 ?_ | refine Z.q0 rfl rfl fun F hF => ?_ | refine Z.T0 rfl ?_)
    simp only [retK, ares, pack, Tryd.results16, St.get, reduceIte, Nat.reduceEqDiff, List.toArray, Array.toList]
    rw [ld7 (AH.set_same _ _ _) rfl]
    exact some_ _ 222 (e13.set' n1) hr.symm
  rw [if_neg (by simp [c4])] at hr
  have hin : 20 < b.length := by omega
  obtain ⟨q, E⟩ := elB hx3 hin
  have E1 : ∀ F, aidx Tryd.prog 30 x (.v (.int .i64 20)) F = F q := E.idx
  have hg : b.getD 20 0 = b[20] := by simp [List.getD, List.getElem?_eq_getElem hin]
  rw [hg] at hr
  by_cases c5 : b[20] = 0
  case neg =>
    have d5 : (((b[20].toNat : Nat) : Int) != 0) = true := by
      refine bne_iff_ne.2 fun e => c5 ?_
      apply UInt8.toNat_inj.1
      show b[20].toNat = 0
      omega
    rw [if_pos c5] at hr
    repeat' (first | ((first | refine Z.W0 ?_ | refine Z.X0 ?_); simp only [go_sem, seval, c4, E1, E.load, o3, q1, d5, n24, Ne.symm n24]) | (refine hF _ _ ?_; clear hF F) | (refine Z.p0 ?_; simp only [St.put]) | refine Z.a0 ?_ | refine Z.b0 ?_ | refine Z.c0 ?_ | refine Z.d0 ?_ | refine Z.g0 ?_ | refine Z.h0 ?_ | refine Z.n0 ?_ | refine Z.q0 rfl rfl fun F hF => ?_ | refine Z.T0 rfl ?_ | refine Z.U0 rfl ?_)
    simp only [retK, ares, pack, Tryd.results16, St.get, reduceIte, Nat.reduceEqDiff, List.toArray, Array.toList]
    rw [ld7 (AH.set_same _ _ _) rfl]
    exact some_ _ 223 (e13.set' n1) hr.symm
  have d5 : (((b[20].toNat : Nat) : Int) != 0) = false := by rw [c5]; rfl
  rw [if_neg (by simp [c5])] at hr
  repeat' (first | ((first | refine Z.W0 ?_ | refine Z.X0 ?_); simp only [go_sem, seval, c4, E1, E.load, d5, lb3]) | (refine hF _ _ ?_; clear hF F) | (refine Z.p0 ?_; simp only [St.put]) | refine Z.a0 ?_ | refine Z.b0 ?_ | refine Z.c0 ?_ | refine Z.f0 ?_ | refine Z.h0 ?_ | refine Z.m0 ?_ | refine Z.q0 rfl rfl fun F hF => ?_ | refine Z.U0 rfl ?_)
  refine hx3.cut (l := 21) (h := b.length) vt30 (.inl ⟨rfl, by simp⟩) (.inr ⟨_, _, rfl, rfl⟩) (by omega) (by simp) fun z hz _ => ?_
  rw [rowsB_take, rowsB_drop, List.take_length] at hz
  (refine hF _ _ ?_; clear hF F)
  repeat' (first | ((first | refine Z.W0 ?_ | refine Z.X0 ?_); simp only [go_sem, seval]) | refine Z.q0 rfl rfl fun F hF => ?_)
  refine decode_ok hz (by simp; omega) (fun v H4 Hv cs g1 e4 a4 le4 rv => ?_) (fun y H4 g1 hy e4 => ?_)
  · rw [g1] at hr
    simp only at hr
    obtain ⟨_, _, _, _, _, xx, yy, _, _, rfl, f1, f2, _⟩ := rv.out
    have p3 := e4 _ _ o3
    have p1 := e4 _ _ q1
    (refine hF _ _ ?_; clear hF F)
    repeat' (first | ((first | refine Z.W0 ?_ | refine Z.X0 ?_); simp only [go_sem, seval, f1.cell, f2.cell]) | (refine hF _ _ ?_; clear hF F) | refine Z.h0 ?_ | refine Z.q0 rfl rfl fun F hF => ?_)
    (refine box_go2 fun r5 H5 e5 n5 o5 => ?_; refine hF _ _ ?_; clear hF F)
    repeat' (first | ((first | refine Z.W0 ?_ | refine Z.X0 ?_); simp only [go_sem, seval, o5, f1.cell, f2.cell]) | refine Z.q0 rfl rfl fun F hF => ?_)
    (refine box_go2 fun r6 H6 e6 n6 o6 => ?_; refine hF _ _ ?_; clear hF F)
    have n56 : r5 ≠ r6 := fun e => by rw [← e, o5] at n6; cases n6
    have u3 := e6 _ _ (e5 _ _ p3)
    have u1 := e6 _ _ (e5 _ _ p1)
    have o5 := e6 _ _ o5
    have m52 : r5 ≠ r2 := fun e => by rw [e, p1] at n5; cases n5
    have m54 : r5 ≠ r4 := fun e => by rw [e, p3] at n5; cases n5
    have m62 : r6 ≠ r2 := fun e => by rw [e, e5 _ _ p1] at n6; cases n6
    have m64 : r6 ≠ r4 := fun e => by rw [e, e5 _ _ p3] at n6; cases n6
    have n5H : H r5 = none := (e13.trans e4).none n5
    have n6H : H r6 = none := ((e13.trans e4).trans e5).none n6
    repeat' (first | ((first | refine Z.W0 ?_ | refine Z.X0 ?_); simp only [go_sem, seval, f1.cell, f2.cell, o5, o6, u3, u1, n56, Ne.symm n56, m52, Ne.symm m52, m54, Ne.symm m54, m62, Ne.symm m62, m64, Ne.symm m64, n24, Ne.symm n24]) | (refine hF _ _ ?_; clear hF F) | (refine Z.p0 ?_; simp only [St.put]) | refine Z.a0 ?_ | refine Z.b0 ?_ | refine Z.c0 ?_ | refine Z.h0 ?_ | refine Z.m0 ?_ | refine Z.n0 ?_ | refine Z.q0 rfl rfl fun F hF => ?_ | refine Z.U0 rfl ?_)
    simp only [retK, ares, pack, Tryd.results16, St.get, reduceIte, Nat.reduceEqDiff, List.toArray, Array.toList]
    rw [ld7 (AH.set_same _ _ _) rfl]
    have v5 : Hv r5 = none := le4.none n5
    have v6 : Hv r6 = none := (le4.trans e5).none n6
    have hle : Le H H6 := ((e13.trans e4).trans e5).trans e6
    rw [← hr] at hk
    exact hk _ Hv _ ((((hle.set' n5H).set' n6H).set' n4H).set' n1) (fun c o hc => a4 c o (e13 c o hc)) (((((le4.trans (e5.trans e6)).set' v5).set' v6).set' (a4 _ _ o3)).set' (a4 _ _ q1)) ⟨by simp only; omega, by simp only; omega, _, rfl, rv⟩
  · rw [g1] at hr
    simp only at hr
    have dz : (y.1 != 0) = true := bne_iff_ne.2 hy
    have p3 := e4 _ _ o3
    have p1 := e4 _ _ q1
    unfold zero5
    (refine hF _ _ ?_; clear hF F)
    repeat' (first | ((first | refine Z.W0 ?_ | refine Z.X0 ?_); simp only [go_sem, seval]) | (refine hF _ _ ?_; clear hF F) | refine Z.h0 ?_ | refine Z.q0 rfl rfl fun F hF => ?_)
    (refine box_go2 fun r5 H5 e5 n5 o5 => ?_; refine hF _ _ ?_; clear hF F)
    repeat' (first | ((first | refine Z.W0 ?_ | refine Z.X0 ?_); simp only [go_sem, seval, o5]) | refine Z.q0 rfl rfl fun F hF => ?_)
    (refine box_go2 fun r6 H6 e6 n6 o6 => ?_; refine hF _ _ ?_; clear hF F)
    have n56 : r5 ≠ r6 := fun e => by rw [← e, o5] at n6; cases n6
    have u3 := e6 _ _ (e5 _ _ p3)
    have u1 := e6 _ _ (e5 _ _ p1)
    have o5 := e6 _ _ o5
    have m52 : r5 ≠ r2 := fun e => by rw [e, p1] at n5; cases n5
    have m54 : r5 ≠ r4 := fun e => by rw [e, p3] at n5; cases n5
    have m62 : r6 ≠ r2 := fun e => by rw [e, e5 _ _ p1] at n6; cases n6
    have m64 : r6 ≠ r4 := fun e => by rw [e, e5 _ _ p3] at n6; cases n6
    have n5H : H r5 = none := (e13.trans e4).none n5
    have n6H : H r6 = none := ((e13.trans e4).trans e5).none n6
    repeat' (first | ((first | refine Z.W0 ?_ | refine Z.X0 ?_); simp only [go_sem, seval, dz, o5, o6, u3, u1, n56, Ne.symm n56, m52, Ne.symm m52, m54, Ne.symm m54, m62, Ne.symm m62, m64, Ne.symm m64, n24, Ne.symm n24]) | (refine hF _ _ ?_; clear hF F) | (refine Z.p0 ?_; simp only [St.put]) | refine Z.a0 ?_ | refine Z.b0 ?_ | refine Z.c0 ?_ | refine Z.d0 ?_ | refine Z.h0 ?_ | refine Z.n0 ?_ | refine Z.q0 rfl rfl fun F hF => ?_ | refine Z.A0 rfl rfl rfl fun F hF => ?_ | refine Z.B0 rfl rfl rfl fun F hF => ?_ | (refine Z.D0 ?_; simp only [St.put]) | refine W_drawn (id := 12) [0, 0, 2, 1, 15] [.a 0, .a 1, .a 2, .e 3 [1, 2], .e 4 []] mixed (by decide +kernel) ?_ | refine Z.C0 rfl rfl rfl fun F hF => ?_ | (refine hF _ _ ?_ ?_ <;> clear hF F) | refine Z.T0 rfl ?_)
    simp only [retK, ares, pack, Tryd.results16, St.get, reduceIte, Nat.reduceEqDiff, List.toArray, Array.toList]
    rw [ld7 (AH.set_same _ _ _) rfl]
    have hle : Le H H6 := ((e13.trans e4).trans e5).trans e6
    exact some_ _ y.1 (((hle.set' n5H).set' n6H).set' n1) hr.symm
end Go.Proofs.YtboojmppmaepmaaDoor
/- Bytes at places: what is written is read, and what is read was written. -/
namespace Go.Fw
set_option maxHeartbeats 8000000
set_option linter.all false
open Go

/-- These bytes stand there. -/
def At (b : Bs) (k : Nat) (s : Bs) : Prop := k + s.length ≤ b.length ∧ (b.drop k).take s.length = s
theorem At.bnd {b : Bs} {k : Nat} {s : Bs} (h : At b k s) : k + s.length ≤ b.length := h.1
theorem At.split {b : Bs} {k : Nat} {s t : Bs} (h : At b k (s ++ t)) : At b k s ∧ At b (k + s.length) t := by
  obtain ⟨h1, h2⟩ := h
  rw [List.length_append] at h1 h2
  refine ⟨⟨by omega, ?_⟩, ⟨by omega, ?_⟩⟩
  · have := congrArg (List.take s.length) h2
    rw [List.take_take, Nat.min_eq_left (by omega), List.take_left] at this
    exact this
  · have := congrArg (List.drop s.length) h2
    rw [List.drop_left, List.drop_take, List.drop_drop] at this
    rw [show s.length + t.length - s.length = t.length from by omega] at this
    exact this
theorem At.join {b : Bs} {k : Nat} {s t : Bs} (h1 : At b k s) (h2 : At b (k + s.length) t) : At b k (s ++ t) := by
  obtain ⟨a1, a2⟩ := h1
  obtain ⟨b1, b2⟩ := h2
  refine ⟨by rw [List.length_append]; omega, ?_⟩
  rw [List.length_append, List.take_add, a2, List.drop_drop, b2]
theorem At.head {b : Bs} {k : Nat} {c : UInt8} {s : Bs} (h : At b k (c :: s)) : b.getD k 0 = c ∧ At b (k + 1) s := by
  have h2 := At.split (s := [c]) (t := s) h
  refine ⟨?_, h2.2⟩
  obtain ⟨g1, g2⟩ := h2.1
  simp only [List.length_cons, List.length_nil] at g1 g2
  have hk : k < b.length := by omega
  rw [List.drop_eq_getElem_cons hk] at g2
  simp only [Nat.zero_add, List.take_succ_cons, List.take_zero, List.cons.injEq, and_true] at g2
  rw [List.getD, List.getElem?_eq_getElem hk, Option.getD_some, g2]
theorem At.one {b : Bs} {k : Nat} (h : k < b.length) : At b k [b.getD k 0] := by
  refine ⟨by simp; omega, ?_⟩
  rw [List.drop_eq_getElem_cons h, List.getD, List.getElem?_eq_getElem h]
  rfl
theorem At.cons {b : Bs} {k : Nat} {c : UInt8} {s : Bs} (hk : k < b.length) (hc : b.getD k 0 = c) (h : At b (k + 1) s) : At b k (c :: s) := by
  have := At.one hk
  rw [hc] at this
  exact this.join h
theorem At.nil {b : Bs} {k : Nat} (h : k ≤ b.length) : At b k [] := ⟨by simpa using h, by simp⟩
theorem At.of {b : Bs} {k n : Nat} (h : k + n ≤ b.length) : At b k ((b.drop k).take n) := by
  refine ⟨by simp; omega, ?_⟩
  simp
theorem At.seg {b : Bs} {k L : Nat} {s : Bs} (h : At b k s) (hL : L = k + s.length) : (b.take L).drop k = s := by
  subst hL
  rw [List.drop_take, Nat.add_sub_cancel_left]
  exact h.2
theorem At.all {b s : Bs} (h : At b 0 s) (hl : s.length = b.length) : b = s := by
  have := h.2
  rw [hl, List.drop_zero, List.take_of_length_le (Nat.le_refl _)] at this
  exact this
theorem At.self (b : Bs) : At b 0 b := ⟨by simp, by simp⟩
theorem At.num {b : Bs} {k n x : Nat} (h : At b k (le n x)) (hx : x < 256 ^ n) : num b k n = x := by
  have := h.2
  rw [le_length] at this
  unfold Fw.num
  rw [this, unle_le hx]
theorem At.unnum {b : Bs} {k n : Nat} (h : k + n ≤ b.length) : At b k (le n (Fw.num b k n)) := by
  have h1 := At.of h
  have h2 := le_unle ((b.drop k).take n)
  have h3 : ((b.drop k).take n).length = n := by simp; omega
  rw [h3] at h2
  unfold Fw.num
  rw [h2]
  exact h1

theorem place_zero {nm r : Bs} (h : nm.contains 0 = false) : place 0 (nm ++ 0 :: r) = some nm.length := by
  have h0 : (0 : UInt8) ∉ nm := by simpa using h
  unfold place
  rw [if_pos (by simp)]
  congr 1
  rw [List.idxOf_append, if_neg h0]
  simp
theorem place_inv {c : UInt8} {l : Bs} {k : Nat} (h : place c l = some k) : ∃ r, l = l.take k ++ c :: r ∧ (l.take k).contains c = false ∧ k < l.length := by
  unfold place at h
  split at h
  · rename_i hc
    simp only [Option.some.injEq] at h
    have hin : c ∈ l := by simpa using hc
    have hlt := List.idxOf_lt_length_iff.2 hin
    subst h
    have hget := List.getElem_idxOf hlt
    refine ⟨l.drop (l.idxOf c + 1), ?_, ?_, hlt⟩
    · conv => lhs; rw [← List.take_append_drop (l.idxOf c) l, List.drop_eq_getElem_cons hlt, hget]
    · have : c ∉ l.take (l.idxOf c) := fun hm => by
        obtain ⟨i, hi, e⟩ := List.getElem_of_mem hm
        simp only [List.length_take] at hi
        rw [List.getElem_take] at e
        have := List.not_of_lt_findIdx (p := (· == c)) (xs := l) (i := i) (by unfold List.idxOf at hi; omega)
        simp [e] at this
      simpa using this
  · cases h
theorem kinds_place {k : Nat} (h1 : 1 ≤ k) (h2 : k ≤ 11) : kindB (k : Int) ≠ 0 ∧ place (kindB (k : Int)) kinds = some k := by
  have : k = 1 ∨ k = 2 ∨ k = 3 ∨ k = 4 ∨ k = 5 ∨ k = 6 ∨ k = 7 ∨ k = 8 ∨ k = 9 ∨ k = 10 ∨ k = 11 := by omega
  rcases this with h | h | h | h | h | h | h | h | h | h | h <;> subst h <;> exact ⟨by decide, by decide⟩
theorem kinds_inv {c : UInt8} {k : Nat} (h0 : c ≠ 0) (h : place c kinds = some k) : 1 ≤ k ∧ k ≤ 11 ∧ kindB (k : Int) = c := by
  obtain ⟨r, h1, h2, h3⟩ := place_inv h
  have hk : k ≤ 11 := by simp [kinds] at h3; omega
  have hc : kindB (k : Int) = c := by
    unfold kindB
    rw [Int.toNat_natCast, List.getD, List.getElem?_eq_getElem h3, Option.getD_some]
    have h4 : kinds[k]? = (kinds.take k ++ c :: r)[k]? := by rw [← h1]
    rw [List.getElem?_append_right (by simp; omega), List.getElem?_eq_getElem h3] at h4
    simpa [Nat.min_eq_left (Nat.le_of_lt h3)] using h4
  refine ⟨?_, hk, hc⟩
  rcases Nat.eq_zero_or_pos k with e | e
  · subst e; exact absurd hc.symm h0
  · exact e
theorem itoa_nz (i : Nat) : (Lib.itoa (i : Int)).contains 0 = false := by
  have dig : ∀ n, n < 10 → UInt8.ofNat (48 + n) ≠ 0 := by decide
  have gen : ∀ (m n : Nat), n < m → ∀ c ∈ Lib.decDigits n, c ≠ 0 := by
    intro m
    induction m with
    | zero => intro n h; omega
    | succ m ih =>
      intro n h c hc
      rw [Lib.decDigits] at hc
      split at hc
      · rename_i hlt
        simp only [List.mem_singleton] at hc
        subst hc
        exact dig n (by simpa using hlt)
      · rename_i hge
        rw [List.mem_append, List.mem_singleton] at hc
        rcases hc with hc | hc
        · exact ih (n / 10) (by omega) c hc
        · subst hc
          exact dig _ (Nat.mod_lt _ (by decide))
  have h0 : (0 : UInt8) ∉ Lib.itoa (i : Int) := fun h => by
    unfold Lib.itoa at h
    rw [if_neg (by omega), Int.toNat_natCast] at h
    exact gen _ i (Nat.lt_succ_self _) 0 h rfl
  simpa using h0
end Go.Fw
/- What was written is read back: a document comes out of its bytes as it went in. -/
namespace Go.Fw
set_option maxHeartbeats 8000000
set_option linter.all false
open Go

mutual
/-- All numbers in it are the machine's. -/
def okV : Val → Prop
  | .mk _ i _ l d => (-9223372036854775808 ≤ i ∧ i ≤ 9223372036854775807) ∧ okL l ∧ okD d
def okL : List Val → Prop
  | [] => True
  | v :: r => okV v ∧ okL r
def okD : List (Bs × Val) → Prop
  | [] => True
  | (_, v) :: r => okV v ∧ okD r
end
theorem okV_out {v : Val} (h : okV v) : (-9223372036854775808 ≤ v.int ∧ v.int ≤ 9223372036854775807) ∧ okL v.list ∧ okD v.doc := by
  cases v with
  | mk k i t l d => simpa only [okV, Val.int, Val.list, Val.doc] using h

theorem wrong_all {v : Val} (h : wrongV v = false) : (v.kind ≠ 3 → v.kind ≠ 9 → v.kind ≠ 10 → v.int = 0) ∧ (v.kind ≠ 4 → v.kind ≠ 7 → v.kind ≠ 8 → v.text = []) ∧ (v.kind ≠ 5 → v.doc = []) ∧ (v.kind ≠ 6 → v.list = []) ∧
    (v.kind = 4 → Lib.validD v.text = true) ∧ (v.kind = 8 → v.text.length = 12) ∧ (v.kind = 9 → v.int = 0 ∨ v.int = 1) := by
  simp only [wrongV, Bool.or_eq_false_iff, Bool.and_eq_false_iff, decide_eq_false_iff_not, Bool.not_eq_false', Bool.or_eq_true, decide_eq_true_eq, Decidable.not_not] at h
  obtain ⟨⟨⟨⟨⟨⟨⟨⟨_, _⟩, h3⟩, h4⟩, h5⟩, h6⟩, h7⟩, h8⟩, h9⟩ := h
  refine ⟨fun a b c => ?_, fun a b c => ?_, fun a => ?_, fun a => ?_, fun a => ?_, fun a => ?_, fun a => ?_⟩
  · rcases h3 with h | h
    · rcases h with (h | h) | h <;> contradiction
    · exact h
  · rcases h4 with h | h
    · rcases h with (h | h) | h <;> contradiction
    · exact h
  · rcases h5 with h | h
    · exact absurd h a
    · exact h
  · rcases h6 with h | h
    · exact absurd h a
    · exact h
  · rcases h7 with h | h
    · exact absurd a h
    · exact h
  · rcases h8 with h | h
    · exact absurd a h
    · exact h
  · rcases h9 with (h | h) | h
    · exact absurd a h
    · exact .inl h
    · exact .inr h

theorem decLoop_stop {rec : Nat → Nat → Bool → Rd (List (Bs × Val) × Nat)} {b : Bs} {last : Nat} {list : Bool} {n at_ : Nat} {out : List (Bs × Val)} (h : ¬ at_ < last) :
    decLoop rec b last list n at_ out = if b.getD last 0 ≠ 0 then fail 26 last else .ok (out, last + 1) := by
  cases n with
  | zero => rfl
  | succ n => simp only [decLoop]; rw [if_neg h]

/-- A field is read. -/
theorem decLoop_field {rec : Nat → Nat → Bool → Rd (List (Bs × Val) × Nat)} {b : Bs} {L : Nat} {list : Bool} {n at_ k e : Nat} {out : List (Bs × Val)} {nm r : Bs} {v : Val} (h : at_ < L) (hk : 1 ≤ k ∧ k ≤ 11) (hat : (b.take L).drop (at_ + 1) = nm ++ 0 :: r) (hc : b.getD at_ 0 = kindB (k : Int))
    (hz : nm.contains 0 = false) (hf : fits1 list nm out = true) (hv : decV rec b k (at_ + 1 + nm.length + 1) L = .ok (v, e)) :
    decLoop rec b L list (n + 1) at_ out = decLoop rec b L list n e (out ++ [(nm, v)]) := by
  obtain ⟨h0, hp⟩ := kinds_place hk.1 hk.2
  have hpl := place_zero (r := r) hz
  rw [decLoop, if_pos h, if_neg (by rw [hc]; exact h0), hc, hp]
  simp only
  rw [hat, hpl]
  simp only
  rw [List.take_left, if_neg (by rw [hf]; simp), hv]

def pairs : Nat → List Val → List (Bs × Val)
  | _, [] => []
  | i, v :: r => (Lib.itoa i, v) :: pairs (i + 1) r
theorem pairs_snd : ∀ (i : Nat) (l : List Val), (pairs i l).map (·.2) = l
  | _, [] => rfl
  | i, v :: r => by simp [pairs, pairs_snd (i + 1) r]

theorem chkV_eq' (deep : Nat) (v : Val) : chkV deep v = if (v.kind = 5 ∨ v.kind = 6) ∧ 20 < deep then 12 else if wrongV v = true then 10 else if chkL (deep + 1) v.list ≠ 0 then chkL (deep + 1) v.list else chkD (deep + 1) [] v.doc := by
  cases v; rw [chkV]; rfl

def BackC (m : Nat) : Prop := ∀ (v : Val) (deep d : Nat) (b : Bs) (at_ last : Nat), SizeOf.sizeOf v < m → okV v → chkV deep v = 0 → deep + d = 21 → At b at_ (encV v) → at_ + (encV v).length ≤ last → (encV v).length ≤ 65536 →
  decV (decF b d) b v.kind.toNat at_ last = .ok (v, at_ + (encV v).length)

theorem back_docs {m : Nat} (ih : BackC m) {deep d : Nat} {b : Bs} {L : Nat} (hd : deep + 1 + d = 21) (hL0 : b.getD L 0 = 0) : ∀ (rest out : List (Bs × Val)) (at_ n : Nat), (∀ f ∈ rest, SizeOf.sizeOf f.2 < m) → okD rest → chkD (deep + 1) (out.map (·.1)) rest = 0 →
    At b at_ (encD rest) → L = at_ + (encD rest).length → L ≤ at_ + n → L ≤ at_ + 65536 → decLoop (decF b d) b L false n at_ out = .ok (out ++ rest, L + 1)
  | [], out, at_, n, _, _, _, _, hL, _, _ => by
    simp only [encD, List.length_nil, Nat.add_zero] at hL
    rw [decLoop_stop (by omega), if_neg (by simpa using hL0), List.append_nil]
  | (nm, v) :: r, out, at_, n, hs, hok, hchk, hat, hL, hn, h64 => by
    simp only [okD] at hok
    simp only [chkD] at hchk
    split at hchk
    · cases hchk
    · rename_i hnm
      split at hchk
      · rename_i e; exact absurd hchk e
      · rename_i hcv
        have hcv : chkV (deep + 1) v = 0 := by simpa using hcv
        have hname : nameOk nm = true := by
          cases h : nameOk nm
          · exact absurd (.inr h) hnm
          · rfl
        have hmet : nm ∉ out.map (·.1) := fun h => hnm (.inl h)
        simp only [nameOk, Bool.and_eq_true, Bool.not_eq_true'] at hname
        obtain ⟨⟨⟨n1, n2⟩, n3⟩, n4⟩ := hname
        have hwk := wrong_kind (chk_in hcv).1
        obtain ⟨k, hk⟩ : ∃ k : Nat, v.kind = k := ⟨v.kind.toNat, by omega⟩
        have hE : encD ((nm, v) :: r) = (kindB v.kind :: nm ++ [0] ++ encV v) ++ encD r := rfl
        rw [hE] at hat hL
        simp only [List.length_append, List.length_cons, List.length_nil] at hL
        obtain ⟨a1, a2⟩ := hat.split
        have hseg := hat.seg (L := L) (by simp only [List.length_append, List.length_cons, List.length_nil]; omega)
        have hseg1 : (b.take L).drop (at_ + 1) = nm ++ 0 :: (encV v ++ encD r) := by
          rw [show at_ + 1 = at_ + 1 from rfl, ← List.drop_drop, hseg]
          simp
        obtain ⟨a3, a4⟩ := a1.split
        obtain ⟨a5, _⟩ := a3.split
        have hc := (At.head (s := nm) a5).1
        rw [hk] at hc
        simp only [List.length_append, List.length_cons, List.length_nil] at a2 a4
        have hdv := ih v (deep + 1) d b (at_ + 1 + nm.length + 1) L (hs (nm, v) List.mem_cons_self) hok.1 hcv hd (by rw [show at_ + 1 + nm.length + 1 = at_ + (nm.length + 1 + (0 + 1)) from by omega]; exact a4) (by omega) (by omega)
        rw [hk, Int.toNat_natCast] at hdv
        obtain ⟨n, rfl⟩ : ∃ n', n = n' + 1 := ⟨n - 1, by omega⟩
        rw [decLoop_field (by omega) (by omega) hseg1 hc n4 (by simp only [fits1, Bool.false_eq_true, if_false, Bool.and_eq_true]; exact ⟨by simpa using hmet, ⟨n1, n2⟩, n3⟩) hdv]
        have := back_docs ih (deep := deep) hd hL0 r (out ++ [(nm, v)]) (at_ + 1 + nm.length + 1 + (encV v).length) n (fun f hf => hs f (by simp [hf])) hok.2 (by rw [List.map_append]; exact hchk) (by rw [show at_ + 1 + nm.length + 1 + (encV v).length = at_ + (nm.length + 1 + (0 + 1) + (encV v).length) from by omega]; exact a2) (by omega) (by omega) (by omega)
        rw [this, List.append_assoc]
        rfl

theorem back_list {m : Nat} (ih : BackC m) {deep d : Nat} {b : Bs} {L : Nat} (hd : deep + 1 + d = 21) (hL0 : b.getD L 0 = 0) : ∀ (rest : List Val) (out : List (Bs × Val)) (at_ n : Nat), (∀ f ∈ rest, SizeOf.sizeOf f < m) → okL rest → chkL (deep + 1) rest = 0 →
    At b at_ (encL out.length rest) → L = at_ + (encL out.length rest).length → L ≤ at_ + n → L ≤ at_ + 65536 → decLoop (decF b d) b L true n at_ out = .ok (out ++ pairs out.length rest, L + 1)
  | [], out, at_, n, _, _, _, _, hL, _, _ => by
    simp only [encL, List.length_nil, Nat.add_zero] at hL
    rw [decLoop_stop (by omega), if_neg (by simpa using hL0)]
    simp [pairs]
  | v :: r, out, at_, n, hs, hok, hchk, hat, hL, hn, h64 => by
    simp only [okL] at hok
    simp only [chkL] at hchk
    split at hchk
    · rename_i e; exact absurd hchk e
    · rename_i hcv
      have hcv : chkV (deep + 1) v = 0 := by simpa using hcv
      have hwk := wrong_kind (chk_in hcv).1
      obtain ⟨k, hk⟩ : ∃ k : Nat, v.kind = k := ⟨v.kind.toNat, by omega⟩
      obtain ⟨nm, hnm⟩ : ∃ nm, nm = Lib.itoa (out.length : Int) := ⟨_, rfl⟩
      have hE : encL out.length (v :: r) = (kindB v.kind :: nm ++ [0] ++ encV v) ++ encL (out.length + 1) r := by rw [hnm]; rfl
      rw [hE] at hat hL
      simp only [List.length_append, List.length_cons, List.length_nil] at hL
      obtain ⟨a1, a2⟩ := hat.split
      have hseg := hat.seg (L := L) (by simp only [List.length_append, List.length_cons, List.length_nil]; omega)
      have hseg1 : (b.take L).drop (at_ + 1) = nm ++ 0 :: (encV v ++ encL (out.length + 1) r) := by
        rw [← List.drop_drop, hseg]
        simp
      obtain ⟨a3, a4⟩ := a1.split
      obtain ⟨a5, _⟩ := a3.split
      have hc := (At.head (s := nm) a5).1
      rw [hk] at hc
      simp only [List.length_append, List.length_cons, List.length_nil] at a2 a4
      have hdv := ih v (deep + 1) d b (at_ + 1 + nm.length + 1) L (hs v List.mem_cons_self) hok.1 hcv hd (by rw [show at_ + 1 + nm.length + 1 = at_ + (nm.length + 1 + (0 + 1)) from by omega]; exact a4) (by omega) (by omega)
      rw [hk, Int.toNat_natCast] at hdv
      obtain ⟨n, rfl⟩ : ∃ n', n = n' + 1 := ⟨n - 1, by omega⟩
      rw [decLoop_field (by omega) (by omega) hseg1 hc (by rw [hnm]; exact itoa_nz _) (by simp only [fits1, if_true]; exact decide_eq_true hnm) hdv]
      have hlen : (out ++ [(nm, v)]).length = out.length + 1 := by simp
      have := back_list ih (deep := deep) hd hL0 r (out ++ [(nm, v)]) (at_ + 1 + nm.length + 1 + (encV v).length) n (fun f hf => hs f (by simp [hf])) hok.2 hchk (by rw [hlen, show at_ + 1 + nm.length + 1 + (encV v).length = at_ + (nm.length + 1 + (0 + 1) + (encV v).length) from by omega]; exact a2) (by rw [hlen]; omega) (by omega) (by omega)
      rw [this, List.append_assoc, hlen, pairs, hnm]
      rfl

theorem signed_le {i : Int} (h : -9223372036854775808 ≤ i ∧ i ≤ 9223372036854775807) : signed (i % 18446744073709551616).toNat = i ∧ (i % 18446744073709551616).toNat < 256 ^ 8 := by
  have h8 : 256 ^ 8 = 18446744073709551616 := rfl
  rw [h8]
  unfold signed
  constructor
  · split <;> omega
  · omega

theorem back_ok : ∀ m, BackC m := by
  intro m
  induction m with
  | zero => intro v deep d b at_ last h; omega
  | succ m ih =>
    intro v deep d b at_ last hm hok hchk hd hat hl h64
    obtain ⟨hw, hcl, hcd⟩ := chk_in hchk
    obtain ⟨w1, w2, w3, w4, w5, w6, w7⟩ := wrong_all hw
    obtain ⟨oi, ol, od⟩ := okV_out hok
    have hwk := wrong_kind hw
    have hself : ∀ {i : Int} {t : Bs} {l : List Val} {dd : List (Bs × Val)}, i = v.int → t = v.text → l = v.list → dd = v.doc → Val.mk v.kind i t l dd = v := by
      intro i t l dd h1 h2 h3 h4
      subst h1 h2 h3 h4
      cases v; rfl
    obtain ⟨k, hk⟩ : ∃ k : Nat, v.kind = k := ⟨v.kind.toNat, by omega⟩
    have he := encV_eq v
    have hlen := encV_len _ v deep (Nat.lt_succ_self _) hchk
    rw [sizeV_eq] at hlen
    rw [hk] at he hlen hself w1 w2 w3 w4 w5 w6 w7
    rw [hk, Int.toNat_natCast]
    unfold decV
    by_cases k5 : k = 5
    · rw [if_pos k5]
      subst k5
      have hsh : deep ≤ 20 := by
        rw [chkV_eq'] at hchk
        by_cases h : deep ≤ 20
        · exact h
        · rw [if_pos ⟨.inl (by omega), by omega⟩] at hchk; cases hchk
      have hlist := w4 (by omega)
      rw [if_neg (by omega), if_neg (by omega), if_neg (by omega), if_neg (by omega), if_neg (by omega), if_pos (by omega), hlist] at he
      simp only [encL, List.append_nil, List.length_nil, Nat.add_zero] at he
      rw [he] at hat hl h64 ⊢
      simp only [List.length_append, le_length, List.length_cons, List.length_nil] at hl h64 ⊢
      obtain ⟨a1, a2⟩ := hat.split
      obtain ⟨a3, a4⟩ := a1.split
      simp only [List.length_append, le_length] at a2 a4
      obtain ⟨d, rfl⟩ : ∃ d', d = d' + 1 := ⟨d - 1, by omega⟩
      have hnum := a3.num (by omega)
      have hL0 := (At.head a2).1
      rw [decF, if_neg (by omega), hnum, if_neg (by omega), if_neg (by omega)]
      have := back_docs ih (deep := deep) (d := d) (L := at_ + ((encD v.doc).length + 5) - 1) (by omega) (by rw [show at_ + ((encD v.doc).length + 5) - 1 = at_ + (4 + (encD v.doc).length) from by omega]; exact hL0) v.doc [] (at_ + 4) (at_ + ((encD v.doc).length + 5) - 1 - (at_ + 4)) (fun f hf => Nat.lt_of_lt_of_le (Val.doc_lt hf) (by omega)) od hcd a4 (by omega) (by omega) (by omega)
      rw [this]
      simp only [List.nil_append]
      rw [show Val.mk 5 0 [] [] v.doc = v from hself (w1 (by omega) (by omega) (by omega)).symm (w2 (by omega) (by omega) (by omega)).symm hlist.symm rfl]
      congr 2
      omega
    by_cases k6 : k = 6
    · rw [if_neg k5, if_pos k6]
      subst k6
      have hsh : deep ≤ 20 := by
        rw [chkV_eq'] at hchk
        by_cases h : deep ≤ 20
        · exact h
        · rw [if_pos ⟨.inr (by omega), by omega⟩] at hchk; cases hchk
      have hdoc := w3 (by omega)
      rw [if_neg (by omega), if_neg (by omega), if_neg (by omega), if_neg (by omega), if_neg (by omega), if_pos (by omega), hdoc] at he
      simp only [encD, List.append_nil, List.length_nil, Nat.zero_add] at he
      rw [he] at hat hl h64 ⊢
      simp only [List.length_append, le_length, List.length_cons, List.length_nil] at hl h64 ⊢
      obtain ⟨a1, a2⟩ := hat.split
      obtain ⟨a3, a4⟩ := a1.split
      simp only [List.length_append, le_length] at a2 a4
      obtain ⟨d, rfl⟩ : ∃ d', d = d' + 1 := ⟨d - 1, by omega⟩
      have hnum := a3.num (by omega)
      have hL0 := (At.head a2).1
      rw [decF, if_neg (by omega), hnum, if_neg (by omega), if_neg (by omega)]
      have := back_list ih (deep := deep) (d := d) (L := at_ + ((encL 0 v.list).length + 5) - 1) (by omega) (by rw [show at_ + ((encL 0 v.list).length + 5) - 1 = at_ + (4 + (encL 0 v.list).length) from by omega]; exact hL0) v.list [] (at_ + 4) (at_ + ((encL 0 v.list).length + 5) - 1 - (at_ + 4)) (fun f hf => Nat.lt_of_lt_of_le (Val.list_lt hf) (by omega)) ol hcl a4 (by simp only [List.length_nil]; omega) (by omega) (by omega)
      rw [this]
      simp only [List.nil_append, List.length_nil, pairs_snd]
      rw [show Val.mk 6 0 [] v.list [] = v from hself (w1 (by omega) (by omega) (by omega)).symm (w2 (by omega) (by omega) (by omega)).symm rfl hdoc.symm]
      congr 2
      omega
    have hdoc := w3 (by omega)
    have hlist := w4 (by omega)
    rw [if_neg k5, if_neg k6]
    by_cases k3 : k = 3 ∨ k = 10
    · rw [if_pos (by omega)] at he hlen
      rw [he] at hat
      obtain ⟨s1, s2⟩ := signed_le oi
      have hnum := hat.num s2
      rw [if_pos k3, if_neg (by omega), hnum, s1, hself rfl (w2 (by omega) (by omega) (by omega)).symm hlist.symm hdoc.symm, hlen]
    rw [if_neg k3]
    by_cases k8 : k = 8
    · rw [if_neg (by omega), if_neg (by omega), if_neg (by omega), if_pos (by omega)] at he
      rw [if_neg (by omega), if_neg (by omega), if_pos (by omega)] at hlen
      have h12 := w6 (by omega)
      rw [he] at hat
      have := hat.2
      rw [h12] at this
      rw [if_pos k8, if_neg (by omega), this, hlen]
      subst k8
      rw [show Val.mk 8 0 v.text [] [] = v from hself (w1 (by omega) (by omega) (by omega)).symm rfl hlist.symm hdoc.symm]
    rw [if_neg k8]
    by_cases k9 : k = 9
    · rw [if_neg (by omega), if_neg (by omega), if_neg (by omega), if_neg (by omega), if_pos (by omega)] at he
      rw [if_neg (by omega), if_neg (by omega), if_neg (by omega), if_pos (by omega)] at hlen
      rw [he] at hat
      have hc := (At.head (s := []) hat).1
      have hi := w7 (by omega)
      have hcn : (UInt8.ofNat (v.int % 256).toNat).toNat = v.int.toNat ∧ v.int.toNat ≤ 1 ∧ ((v.int.toNat : Nat) : Int) = v.int := by
        rcases hi with hi | hi <;> rw [hi] <;> decide
      rw [if_pos k9, if_neg (by omega), hc, hcn.1, if_neg (by omega), hcn.2.2, hlen]
      subst k9
      rw [show Val.mk 9 v.int [] [] [] = v from hself rfl (w2 (by omega) (by omega) (by omega)).symm hlist.symm hdoc.symm]
    rw [if_neg k9]
    by_cases k4 : k = 4
    · rw [if_neg (by omega), if_pos (by omega)] at he
      rw [if_neg (by omega), if_pos (by omega)] at hlen
      rw [he] at hat
      obtain ⟨a1, a2⟩ := hat.split
      obtain ⟨a3, a4⟩ := a1.split
      simp only [List.length_append, le_length] at a2 a4
      have hnum := a3.num (by omega)
      have h0 := (At.head (s := []) a2).1
      have ht := a4.2
      rw [if_pos k4, if_neg (by omega), hnum, if_neg (by omega), if_neg (by omega), show at_ + 4 + (v.text.length + 1) - 1 = at_ + (4 + v.text.length) from by omega, h0, Nat.add_sub_cancel, ht, if_neg (by simp [w5 (by omega)]), hlen]
      subst k4
      rw [show Val.mk 4 0 v.text [] [] = v from hself (w1 (by omega) (by omega) (by omega)).symm rfl hlist.symm hdoc.symm]
      congr 2
      omega
    rw [if_neg k4]
    by_cases k7 : k = 7
    · rw [if_neg (by omega), if_neg (by omega), if_pos (by omega)] at he
      rw [if_neg (by omega), if_pos (by omega)] at hlen
      rw [he] at hat
      obtain ⟨a1, a2⟩ := hat.split
      obtain ⟨a3, a4⟩ := a1.split
      simp only [List.length_append, le_length, List.length_cons, List.length_nil] at a2 a4
      have hnum := a3.num (by omega)
      have h0 := (At.head (s := []) a4).1
      have ht := a2.2
      rw [if_pos k7, if_neg (by omega), hnum, if_neg (by omega), h0, if_neg (by simp), show at_ + 5 = at_ + (4 + (0 + 1)) from rfl, ht, hlen]
      subst k7
      rw [show Val.mk 7 0 v.text [] [] = v from hself (w1 (by omega) (by omega) (by omega)).symm rfl hlist.symm hdoc.symm]
      congr 2
      omega
    rw [if_neg (by omega), if_neg (by omega), if_neg (by omega), if_neg (by omega), if_neg (by omega), if_neg (by omega)] at he
    rw [if_neg k7, he, hself (w1 (by omega) (by omega) (by omega)).symm (w2 (by omega) (by omega) (by omega)).symm hlist.symm hdoc.symm]
    rfl

theorem decode_enc {v : Val} (hok : okV v) (hk : v.kind = 5) (hr : right v = 0) : Fw.decode (encV v) = .ok v := by
  unfold right at hr
  split at hr
  · cases hr
  rename_i hs
  have hlen := encV_len _ v 1 (Nat.lt_succ_self _) hr
  have h := back_ok _ v 1 20 (encV v) 0 (encV v).length (Nat.lt_succ_self _) hok hr rfl (At.self _) (by omega) (by omega)
  rw [hk, show Int.toNat 5 = 5 from rfl] at h
  unfold decV at h
  rw [if_pos rfl] at h
  unfold Fw.decode
  rw [if_neg (by omega)]
  split at h
  · rename_i dd e hdec
    simp only [Except.ok.injEq, Prod.mk.injEq, Nat.zero_add] at h
    rw [hdec]
    simp only
    rw [if_neg (by omega), h.1]
  · cases h
end Go.Fw
/- What is read was written so: bytes that are a document are that document's bytes. -/
namespace Go.Fw
set_option maxHeartbeats 8000000
set_option linter.all false
open Go

theorem At.of_seg {b : Bs} {k L : Nat} {s : Bs} (h : (b.take L).drop k = s) (hk : k ≤ L) (hL : L ≤ b.length) : At b k s := by
  have h2 := At.of (b := b) (k := k) (n := L - k) (by omega)
  rw [← List.drop_take, h] at h2
  exact h2

/-- What a value that was read is. -/
structure IsV (b : Bs) (deep k at_ last : Nat) (v : Val) (e : Nat) : Prop where
  kind : v.kind = k
  occ : At b at_ (encV v)
  end_ : e = at_ + (encV v).length
  le : e ≤ last
  chk : chkV deep v = 0
  ok : okV v
def InvV (d deep : Nat) : Prop := ∀ (b : Bs) (k at_ last : Nat) (v : Val) (e : Nat), 1 ≤ k ∧ k ≤ 11 → at_ ≤ last → last ≤ b.length → decV (decF b d) b k at_ last = .ok (v, e) → IsV b deep k at_ last v e

theorem fits_out {nm : Bs} {out : List (Bs × Val)} (h : fits1 false nm out = true) (hz : nm.contains 0 = false) : nm ∉ out.map (·.1) ∧ nameOk nm = true := by
  simp only [fits1, Bool.false_eq_true, if_false, Bool.and_eq_true, Bool.not_eq_true'] at h
  refine ⟨by simpa using h.1, ?_⟩
  simp only [nameOk, Bool.and_eq_true, Bool.not_eq_true']
  exact ⟨h.2, hz⟩

/-- One round of the reading. -/
theorem loop_one {d deep : Nat} (hv : InvV d deep) {b : Bs} {L : Nat} {list : Bool} {n at_ : Nat} {out ds : List (Bs × Val)} {e : Nat} (hat : at_ < L) (hL : L < b.length) (h : decLoop (decF b d) b L list (n + 1) at_ out = .ok (ds, e)) :
    ∃ nm v e1, nm.contains 0 = false ∧ fits1 list nm out = true ∧ At b at_ (kindB v.kind :: nm ++ [0] ++ encV v) ∧ e1 = at_ + (kindB v.kind :: nm ++ [0] ++ encV v).length ∧ e1 ≤ L ∧ chkV deep v = 0 ∧ okV v ∧ decLoop (decF b d) b L list n e1 (out ++ [(nm, v)]) = .ok (ds, e) := by
  rw [decLoop, if_pos hat] at h
  split at h
  · cases h
  rename_i hc0
  split at h
  · cases h
  rename_i k hp
  split at h
  · cases h
  rename_i j hj
  obtain ⟨k1, k2, k3⟩ := kinds_inv hc0 hp
  obtain ⟨r, j1, j2, j3⟩ := place_inv hj
  split at h
  · cases h
  rename_i hfit
  simp only [List.length_drop, List.length_take] at j3
  split at h
  · rename_i v e1 hdv
    have I := hv b k (at_ + 1 + j + 1) L v e1 ⟨k1, k2⟩ (by omega) (by omega) hdv
    have hlen : (((b.take L).drop (at_ + 1)).take j).length = j := by simp; omega
    have a1 := At.of_seg j1 (by omega) (by omega)
    have a2 := (At.split (s := ((b.take L).drop (at_ + 1)).take j ++ [0]) (t := r) (by simpa using a1)).1
    refine ⟨_, v, e1, j2, by simpa using hfit, ?_, ?_, I.le, I.chk, I.ok, h⟩
    · have hc : kindB v.kind = b.getD at_ 0 := by rw [I.kind, k3]
      have a3 := a2.join (t := encV v) (by simp only [List.length_append, hlen, List.length_cons, List.length_nil]; exact I.occ)
      have := At.cons (c := kindB v.kind) (by omega) hc.symm a3
      simpa using this
    · rw [I.end_]
      simp only [List.length_append, List.length_cons, List.length_nil, hlen]
      omega
  · cases h

theorem inv_docs {d deep : Nat} (hv : InvV d deep) {b : Bs} {L : Nat} (hL : L < b.length) : ∀ (n at_ : Nat) (out ds : List (Bs × Val)) (e : Nat), at_ ≤ L → L ≤ at_ + n → decLoop (decF b d) b L false n at_ out = .ok (ds, e) →
    ∃ rest, ds = out ++ rest ∧ e = L + 1 ∧ At b at_ (encD rest) ∧ L = at_ + (encD rest).length ∧ b.getD L 0 = 0 ∧ chkD deep (out.map (·.1)) rest = 0 ∧ okD rest := by
  intro n
  induction n with
  | zero =>
    intro at_ out ds e h1 h2 h
    rw [decLoop_stop (by omega)] at h
    split at h
    · cases h
    rename_i h0
    simp only [Except.ok.injEq, Prod.mk.injEq] at h
    obtain ⟨rfl, rfl⟩ := h
    exact ⟨[], by simp, rfl, At.nil (by omega), by simp [encD]; omega, by simpa using h0, rfl, trivial⟩
  | succ n ih =>
    intro at_ out ds e h1 h2 h
    by_cases hlt : at_ < L
    · obtain ⟨nm, v, e1, hz, hf, ha, he, hle, hc, ho, hr⟩ := loop_one hv hlt hL h
      simp only [List.length_append, List.length_cons, List.length_nil] at he
      obtain ⟨rest, g1, g2, g3, g4, g5, g6, g7⟩ := ih e1 _ ds e hle (by omega) hr
      obtain ⟨f1, f2⟩ := fits_out hf hz
      refine ⟨(nm, v) :: rest, by rw [g1]; simp, g2, ?_, ?_, g5, ?_, ⟨ho, g7⟩⟩
      · refine ha.join (t := encD rest) ?_
        simp only [List.length_append, List.length_cons, List.length_nil]
        rw [← he]
        exact g3
      · simp only [encD, List.length_append, List.length_cons, List.length_nil]
        omega
      · simp only [chkD]
        rw [if_neg (by rw [f2]; simpa using f1), if_neg (by rw [hc]; simp)]
        rw [List.map_append] at g6
        exact g6
    · rw [decLoop_stop hlt] at h
      split at h
      · cases h
      rename_i h0
      simp only [Except.ok.injEq, Prod.mk.injEq] at h
      obtain ⟨rfl, rfl⟩ := h
      exact ⟨[], by simp, rfl, At.nil (by omega), by simp [encD]; omega, by simpa using h0, rfl, trivial⟩

theorem inv_list {d deep : Nat} (hv : InvV d deep) {b : Bs} {L : Nat} (hL : L < b.length) : ∀ (n at_ : Nat) (out ds : List (Bs × Val)) (e : Nat), at_ ≤ L → L ≤ at_ + n → decLoop (decF b d) b L true n at_ out = .ok (ds, e) →
    ∃ rest, ds = out ++ pairs out.length rest ∧ e = L + 1 ∧ At b at_ (encL out.length rest) ∧ L = at_ + (encL out.length rest).length ∧ b.getD L 0 = 0 ∧ chkL deep rest = 0 ∧ okL rest := by
  intro n
  induction n with
  | zero =>
    intro at_ out ds e h1 h2 h
    rw [decLoop_stop (by omega)] at h
    split at h
    · cases h
    rename_i h0
    simp only [Except.ok.injEq, Prod.mk.injEq] at h
    obtain ⟨rfl, rfl⟩ := h
    exact ⟨[], by simp [pairs], rfl, At.nil (by omega), by simp [encL]; omega, by simpa using h0, rfl, trivial⟩
  | succ n ih =>
    intro at_ out ds e h1 h2 h
    by_cases hlt : at_ < L
    · obtain ⟨nm, v, e1, hz, hf, ha, he, hle, hc, ho, hr⟩ := loop_one hv hlt hL h
      simp only [List.length_append, List.length_cons, List.length_nil] at he
      obtain ⟨rest, g1, g2, g3, g4, g5, g6, g7⟩ := ih e1 _ ds e hle (by omega) hr
      have hnm : nm = Lib.itoa (out.length : Int) := by simpa [fits1] using hf
      have hlen : (out ++ [(nm, v)]).length = out.length + 1 := by simp
      rw [hlen] at g1 g3 g4
      refine ⟨v :: rest, by rw [g1, pairs, hnm]; simp, g2, ?_, ?_, g5, ?_, ⟨ho, g7⟩⟩
      · show At b at_ ((kindB v.kind :: Lib.itoa out.length ++ [0] ++ encV v) ++ encL (out.length + 1) rest)
        rw [← hnm]
        refine ha.join ?_
        simp only [List.length_append, List.length_cons, List.length_nil]
        rw [← he]
        exact g3
      · show L = at_ + ((kindB v.kind :: Lib.itoa out.length ++ [0] ++ encV v) ++ encL (out.length + 1) rest).length
        rw [← hnm]
        simp only [List.length_append, List.length_cons, List.length_nil]
        omega
      · simp only [chkL]
        rw [if_neg (by rw [hc]; simp)]
        exact g6
    · rw [decLoop_stop hlt] at h
      split at h
      · cases h
      rename_i h0
      simp only [Except.ok.injEq, Prod.mk.injEq] at h
      obtain ⟨rfl, rfl⟩ := h
      exact ⟨[], by simp [pairs], rfl, At.nil (by omega), by simp [encL]; omega, by simpa using h0, rfl, trivial⟩

theorem decF_head {b : Bs} {d at_ last : Nat} {list : Bool} {ds : List (Bs × Val)} {e : Nat} (hl : last ≤ b.length) (h : decF b d at_ last list = .ok (ds, e)) :
    ∃ m, d = m + 1 ∧ 5 ≤ num b at_ 4 ∧ num b at_ 4 ≤ 65536 ∧ at_ + num b at_ 4 ≤ last ∧ decLoop (decF b m) b (at_ + num b at_ 4 - 1) list (at_ + num b at_ 4 - 1 - (at_ + 4)) (at_ + 4) [] = .ok (ds, e) := by
  cases d with
  | zero => cases h
  | succ m =>
    rw [decF] at h
    split at h
    · cases h
    split at h
    · cases h
    split at h
    · cases h
    exact ⟨m, rfl, by omega, by omega, by omega, h⟩

theorem doc_bytes {b : Bs} {at_ L x : Nat} {s : Bs} (h4 : At b at_ (le 4 x)) (hs : At b (at_ + 4) s) (hL : L = at_ + 4 + s.length) (h0 : b.getD L 0 = 0) (hb : L < b.length) : At b at_ (le 4 x ++ s ++ [0]) := by
  have h1 := At.one hb
  rw [h0] at h1
  exact (h4.join (by rw [le_length]; exact hs)).join (by rw [List.length_append, le_length, show at_ + (4 + s.length) = L from by omega]; exact h1)

theorem wrong_ok {v : Val} (h0 : 1 ≤ v.kind ∧ v.kind ≤ 11) (h1 : v.kind = 3 ∨ v.kind = 9 ∨ v.kind = 10 ∨ v.int = 0) (h2 : v.kind = 4 ∨ v.kind = 7 ∨ v.kind = 8 ∨ v.text = []) (h3 : v.kind = 5 ∨ v.doc = []) (h4 : v.kind = 6 ∨ v.list = []) (h5 : v.kind ≠ 4 ∨ Lib.validD v.text = true) (h6 : v.kind ≠ 8 ∨ v.text.length = 12) (h7 : v.kind ≠ 9 ∨ v.int = 0 ∨ v.int = 1) :
    wrongV v = false := by
  simp only [wrongV, Bool.or_eq_false_iff, Bool.and_eq_false_iff, decide_eq_false_iff_not, Bool.not_eq_false', Bool.or_eq_true, decide_eq_true_eq, Decidable.not_not]
  refine ⟨⟨⟨⟨⟨⟨⟨⟨by omega, by omega⟩, ?_⟩, ?_⟩, ?_⟩, ?_⟩, ?_⟩, ?_⟩, ?_⟩
  · rcases h1 with h | h | h | h
    · exact .inl (.inl (.inl h))
    · exact .inl (.inl (.inr h))
    · exact .inl (.inr h)
    · exact .inr h
  · rcases h2 with h | h | h | h
    · exact .inl (.inl (.inl h))
    · exact .inl (.inl (.inr h))
    · exact .inl (.inr h)
    · exact .inr h
  · exact h3
  · exact h4
  · exact h5
  · exact h6
  · rcases h7 with h | h | h
    · exact .inl (.inl h)
    · exact .inl (.inr h)
    · exact .inr h
attribute [local simp] Val.kind Val.int Val.text Val.list Val.doc

theorem chk_leaf {deep : Nat} {k i : Int} {t : Bs} (h5 : k ≠ 5) (h6 : k ≠ 6) (hw : wrongV (.mk k i t [] []) = false) : chkV deep (.mk k i t [] []) = 0 := by
  rw [chkV_eq', if_neg (by simp only [Val.kind]; omega), hw, if_neg (by simp)]
  simp [Val.list, Val.doc, chkL, chkD]
theorem okV_leaf {k i : Int} {t : Bs} (h : -9223372036854775808 ≤ i ∧ i ≤ 9223372036854775807) : okV (.mk k i t [] []) := by
  simp only [okV]
  exact ⟨h, trivial, trivial⟩
theorem le_signed (n : Nat) (h : n < 256 ^ 8) : le 8 (signed n % 18446744073709551616).toNat = le 8 n := by
  have h8 : 256 ^ 8 = 18446744073709551616 := rfl
  rw [h8] at h
  congr 1
  unfold signed
  split <;> omega

theorem inv_val {d deep : Nat} (hd : deep + d = 21) (hrec : ∀ m, d = m + 1 → InvV m (deep + 1)) : InvV d deep := by
  intro b k at_ last v e hk hat hlast h
  have k0 : ((k : Nat) : Int) = k := rfl
  unfold decV at h
  by_cases k5 : k = 5
  · rw [if_pos k5] at h
    subst k5
    split at h
    · rename_i ds e1 hdec
      simp only [Except.ok.injEq, Prod.mk.injEq] at h
      obtain ⟨rfl, rfl⟩ := h
      obtain ⟨m, rfl, n1, n2, n3, hl⟩ := decF_head hlast hdec
      obtain ⟨rest, g1, g2, g3, g4, g5, g6, g7⟩ := inv_docs (hrec m rfl) (L := at_ + num b at_ 4 - 1) (by omega) _ _ _ _ _ (by omega) (by omega) hl
      rw [List.nil_append] at g1
      subst g1
      have henc : encV (.mk 5 0 [] [] ds) = le 4 (num b at_ 4) ++ encD ds ++ [0] := by
        rw [encV_eq]
        simp only [Val.kind, Val.doc, Val.list, encL, List.length_nil, Nat.add_zero, List.append_nil]
        rw [if_neg (by decide), if_neg (by decide), if_neg (by decide), if_neg (by decide), if_neg (by decide), if_pos (by decide), show (encD ds).length + 5 = num b at_ 4 from by omega]
      refine ⟨rfl, ?_, ?_, by omega, ?_, ?_⟩
      · rw [henc]
        exact doc_bytes (At.unnum (by omega)) g3 g4 g5 (by omega)
      · rw [henc]; simp only [List.length_append, le_length, List.length_cons, List.length_nil]; omega
      · rw [chkV_eq', if_neg (by omega), wrong_ok (by simp only [Val.kind]; omega) (by simp) (by simp) (by simp) (by simp) (by simp) (by simp) (by simp), if_neg (by simp)]
        simp only [Val.list, Val.doc, chkL, ne_eq, not_true_eq_false, if_false]
        exact g6
      · simp only [okV]
        exact ⟨by decide, trivial, g7⟩
    · cases h
  rw [if_neg k5] at h
  by_cases k6 : k = 6
  · rw [if_pos k6] at h
    subst k6
    split at h
    · rename_i ds e1 hdec
      simp only [Except.ok.injEq, Prod.mk.injEq] at h
      obtain ⟨rfl, rfl⟩ := h
      obtain ⟨m, rfl, n1, n2, n3, hl⟩ := decF_head hlast hdec
      obtain ⟨rest, g1, g2, g3, g4, g5, g6, g7⟩ := inv_list (hrec m rfl) (L := at_ + num b at_ 4 - 1) (by omega) _ _ _ _ _ (by omega) (by omega) hl
      rw [List.nil_append, List.length_nil] at g1
      rw [List.length_nil] at g3 g4
      have hmap : ds.map (·.2) = rest := by rw [g1, pairs_snd]
      rw [hmap]
      have henc : encV (.mk 6 0 [] rest []) = le 4 (num b at_ 4) ++ encL 0 rest ++ [0] := by
        rw [encV_eq]
        simp only [Val.kind, Val.doc, Val.list, encD, List.length_nil, Nat.zero_add, List.append_nil]
        rw [if_neg (by decide), if_neg (by decide), if_neg (by decide), if_neg (by decide), if_neg (by decide), if_pos (by decide), show (encL 0 rest).length + 5 = num b at_ 4 from by omega]
      refine ⟨rfl, ?_, ?_, by omega, ?_, ?_⟩
      · rw [henc]
        exact doc_bytes (At.unnum (by omega)) g3 g4 g5 (by omega)
      · rw [henc]; simp only [List.length_append, le_length, List.length_cons, List.length_nil]; omega
      · rw [chkV_eq', if_neg (by omega), wrong_ok (by simp only [Val.kind]; omega) (by simp) (by simp) (by simp) (by simp) (by simp) (by simp) (by simp), if_neg (by simp)]
        simp only [Val.list, Val.doc, chkD, g6, ne_eq, not_true_eq_false, if_false]
      · simp only [okV]
        exact ⟨by decide, g7, trivial⟩
    · cases h
  rw [if_neg k6] at h
  -- a value without parts
  have leaf : ∀ (i : Int) (t : Bs) (e' : Nat), v = .mk k i t [] [] → e = e' → wrongV (.mk k i t [] []) = false → (-9223372036854775808 ≤ i ∧ i ≤ 9223372036854775807) → At b at_ (encV (.mk k i t [] [])) → e' = at_ + (encV (.mk k i t [] [])).length → e' ≤ last → IsV b deep k at_ last v e := by
    intro i t e' h1 h2 h3 h4 h5 h6 h7
    subst h1 h2
    exact ⟨rfl, h5, h6, h7, chk_leaf (by omega) (by omega) h3, okV_leaf h4⟩
  by_cases k3 : k = 3 ∨ k = 10
  · rw [if_pos k3] at h
    split at h
    · cases h
    simp only [Except.ok.injEq, Prod.mk.injEq] at h
    have h8 : num b at_ 8 < 256 ^ 8 := by
      have := unle_lt ((b.drop at_).take 8)
      have h2 : 256 ^ ((b.drop at_).take 8).length ≤ 256 ^ 8 := Nat.pow_le_pow_right (by decide) (by simp; omega)
      unfold num
      omega
    have henc : encV (.mk k (signed (num b at_ 8)) [] [] []) = le 8 (num b at_ 8) := by
      rw [encV, if_pos (by omega), le_signed _ h8]
    refine leaf _ _ _ h.1.symm h.2.symm (wrong_ok (by simp only [Val.kind]; omega) (by simp only [Val.kind]; omega) (by simp) (by simp) (by simp) (by simp only [Val.kind]; omega) (by simp only [Val.kind]; omega) (by simp only [Val.kind]; omega)) ?_ ?_ ?_ (by omega)
    · have h8' : 256 ^ 8 = 18446744073709551616 := rfl
      rw [h8'] at h8
      unfold signed
      split <;> omega
    · rw [henc]
      exact At.unnum (by omega)
    · rw [henc]; simp
  rw [if_neg k3] at h
  by_cases k8 : k = 8
  · rw [if_pos k8] at h
    split at h
    · cases h
    simp only [Except.ok.injEq, Prod.mk.injEq] at h
    subst k8
    have hl : ((b.drop at_).take 12).length = 12 := by simp; omega
    have henc : encV (.mk ((8 : Nat) : Int) 0 ((b.drop at_).take 12) [] []) = (b.drop at_).take 12 := by
      rw [encV_eq]
      rfl
    refine leaf 0 _ _ h.1.symm h.2.symm (wrong_ok (by simp only [Val.kind]; omega) (by simp) (by simp) (by simp) (by simp) (by simp) (.inr hl) (by simp)) (by decide) ?_ ?_ (by omega)
    · rw [henc]
      exact At.of (by omega)
    · rw [henc, hl]
  rw [if_neg k8] at h
  by_cases k9 : k = 9
  · rw [if_pos k9] at h
    split at h
    · cases h
    split at h
    · cases h
    simp only [Except.ok.injEq, Prod.mk.injEq] at h
    subst k9
    have hc : (b.getD at_ 0).toNat = 0 ∨ (b.getD at_ 0).toNat = 1 := by omega
    have hb : UInt8.ofNat (((b.getD at_ 0).toNat : Int) % 256).toNat = b.getD at_ 0 := by
      apply UInt8.toNat_inj.1
      rw [u8_ofNat]
      omega
    have henc : encV (.mk ((9 : Nat) : Int) ((b.getD at_ 0).toNat : Int) [] [] []) = [b.getD at_ 0] := by
      rw [encV_eq]
      show [UInt8.ofNat (((b.getD at_ 0).toNat : Int) % 256).toNat] = _
      rw [hb]
    refine leaf _ [] _ h.1.symm h.2.symm (wrong_ok (by simp only [Val.kind]; omega) (by simp) (by simp) (by simp) (by simp) (by simp) (by simp) (.inr (by simp only [Val.int]; omega))) (by omega) ?_ ?_ (by omega)
    · rw [henc]
      exact At.one (by omega)
    · rw [henc]; rfl
  rw [if_neg k9] at h
  by_cases k4 : k = 4
  · rw [if_pos k4] at h
    split at h
    · cases h
    split at h
    · cases h
    split at h
    · cases h
    split at h
    · cases h
    rename_i h1 h2 h3 h4
    simp only [Except.ok.injEq, Prod.mk.injEq] at h
    subst k4
    obtain ⟨n, hn⟩ : ∃ n, num b at_ 4 = n + 1 := ⟨num b at_ 4 - 1, by omega⟩
    rw [hn, Nat.add_sub_cancel] at h h4
    obtain ⟨t, ht⟩ : ∃ t, t = (b.drop (at_ + 4)).take n := ⟨_, rfl⟩
    have hl : t.length = n := by rw [ht]; simp; omega
    rw [← ht] at h h4
    have h40 : b.getD (at_ + 4 + (n + 1) - 1) 0 = 0 := by
      by_cases e : b.getD (at_ + 4 + (n + 1) - 1) 0 = 0
      · exact e
      · exact absurd (.inl e) h4
    have h4v : Lib.validD t = true := by
      cases e : Lib.validD t
      · exact absurd (.inr e) h4
      · rfl
    have henc : encV (.mk ((4 : Nat) : Int) 0 t [] []) = le 4 (num b at_ 4) ++ t ++ [0] := by
      rw [encV_eq]
      show le 4 (t.length + 1) ++ t ++ [0] = _
      rw [hl, hn]
    have hat4 : At b (at_ + 4) t := by rw [ht]; exact At.of (by omega)
    refine leaf 0 _ _ h.1.symm h.2.symm (wrong_ok (by simp only [Val.kind]; omega) (by simp) (by simp) (by simp) (by simp) (.inr h4v) (by simp) (by simp)) (by decide) ?_ ?_ (by omega)
    · rw [henc]
      exact doc_bytes (L := at_ + 4 + (n + 1) - 1) (At.unnum (by omega)) hat4 (by omega) h40 (by omega)
    · rw [henc]; simp only [List.length_append, le_length, List.length_cons, List.length_nil]; omega
  rw [if_neg k4] at h
  by_cases k7 : k = 7
  · rw [if_pos k7] at h
    split at h
    · cases h
    split at h
    · cases h
    split at h
    · cases h
    rename_i h1 h2 h3
    simp only [Except.ok.injEq, Prod.mk.injEq] at h
    subst k7
    obtain ⟨t, ht⟩ : ∃ t, t = (b.drop (at_ + 5)).take (num b at_ 4) := ⟨_, rfl⟩
    have hl : t.length = num b at_ 4 := by rw [ht]; simp; omega
    rw [← ht] at h
    have h30 : b.getD (at_ + 4) 0 = 0 := Decidable.not_not.1 h3
    have henc : encV (.mk ((7 : Nat) : Int) 0 t [] []) = le 4 (num b at_ 4) ++ [0] ++ t := by
      rw [encV_eq]
      show le 4 t.length ++ [0] ++ t = _
      rw [hl]
    have a1 := At.one (b := b) (k := at_ + 4) (by omega)
    rw [h30] at a1
    have a2 : At b (at_ + 5) t := by rw [ht]; exact At.of (by omega)
    refine leaf 0 _ _ h.1.symm h.2.symm (wrong_ok (by simp only [Val.kind]; omega) (by simp) (by simp) (by simp) (by simp) (by simp) (by simp) (by simp)) (by decide) ?_ ?_ (by omega)
    · rw [henc]
      exact ((At.unnum (by omega)).join (by rw [le_length]; exact a1)).join (by simp only [List.length_append, le_length, List.length_cons, List.length_nil]; exact a2)
    · rw [henc]; simp only [List.length_append, le_length, List.length_cons, List.length_nil]; omega
  rw [if_neg k7] at h
  simp only [Except.ok.injEq, Prod.mk.injEq] at h
  have henc : encV (.mk k 0 [] [] []) = [] := by
    rw [encV, if_neg (by omega), if_neg (by omega), if_neg (by omega), if_neg (by omega), if_neg (by omega), if_neg (by omega)]
  refine leaf 0 [] _ h.1.symm h.2.symm (wrong_ok (by simp only [Val.kind]; omega) (by simp) (by simp) (by simp) (by simp) (by simp only [Val.kind]; omega) (by simp only [Val.kind]; omega) (by simp only [Val.kind]; omega)) (by decide) ?_ ?_ (by omega)
  · rw [henc]
    exact At.nil (by omega)
  · rw [henc]; rfl

theorem inv_ok : ∀ (d deep : Nat), deep + d = 21 → InvV d deep
  | 0, _, hd => inv_val hd fun m hm => by cases hm
  | d + 1, deep, hd => inv_val hd fun m hm => by cases hm; exact inv_ok d (deep + 1) (by omega)

/-- Bytes that are a document are that document's bytes. -/
theorem enc_decode {b : Bs} {v : Val} (h : Fw.decode b = .ok v) : v.kind = 5 ∧ right v = 0 ∧ encV v = b ∧ okV v := by
  unfold Fw.decode at h
  split at h
  · cases h
  rename_i hb
  split at h
  · cases h
  rename_i ds e hdec
  split at h
  · cases h
  rename_i he
  simp only [Except.ok.injEq] at h
  have hv : decV (decF b 20) b 5 0 b.length = .ok (v, e) := by
    unfold decV
    rw [if_pos rfl, hdec]
    simp only
    rw [h]
  have I := inv_ok 20 1 rfl b 5 0 b.length v e (by decide) (Nat.zero_le _) (Nat.le_refl _) hv
  have hle := I.le
  have hend := I.end_
  have hall := I.occ.all (by omega)
  refine ⟨I.kind, ?_, hall.symm, I.ok⟩
  unfold right
  have hlen := encV_len _ v 1 (Nat.lt_succ_self _) I.chk
  rw [if_neg (by omega)]
  exact I.chk
end Go.Fw
/- Frames: a message comes out of its frame as it went in, and the other way round. -/
namespace Go.Proofs.YtboojmppmaepmaaDoor
set_option maxHeartbeats 8000000
set_option linter.all false
open Go Go.Fw

theorem mayN_iff (n : Int) : mayN n = true ↔ 0 ≤ n ∧ n ≤ 4294967295 := by simp [mayN]
theorem makeErr_zero {id tw : Int} {v : Val} (h : makeErr id tw v = 0) : (0 ≤ id ∧ id ≤ 4294967295) ∧ (0 ≤ tw ∧ tw ≤ 4294967295) ∧ v.kind = 5 ∧ right v = 0 := by
  unfold makeErr at h
  split at h
  · cases h
  rename_i hm
  unfold encErr at h
  split at h
  · cases h
  rename_i hk
  refine ⟨(mayN_iff _).1 ?_, (mayN_iff _).1 ?_, by simpa using hk, h⟩
  · cases e : mayN id
    · exact absurd (.inl e) hm
    · rfl
  · cases e : mayN tw
    · exact absurd (.inr e) hm
    · rfl
theorem enc_size {v : Val} (hk : v.kind = 5) (hr : right v = 0) : 5 ≤ (encV v).length ∧ (encV v).length ≤ 65536 := by
  obtain ⟨h1, h2, h3⟩ := right_len hr
  refine ⟨?_, by omega⟩
  rw [h3, sizeV_eq, if_neg (by omega), if_neg (by omega), if_neg (by omega), if_neg (by omega), if_pos hk]
  omega

/-- The places in a frame. -/
structure Frm (b : Bs) (i j : Nat) (d : Bs) : Prop where
  len : b.length = 21 + d.length
  n0 : At b 0 (le 4 b.length)
  n4 : At b 4 (le 4 i)
  n8 : At b 8 (le 4 j)
  n12 : At b 12 (le 4 2013)
  n16 : At b 16 (le 4 0)
  n20 : At b 20 [0]
  doc : At b 21 d
theorem frm_frame (i j : Nat) (v : Val) : Frm (frame i j v) i j (encV v) := by
  have hl : (frame i j v).length = 21 + (encV v).length := by simp [frame]; omega
  have h := At.self (frame i j v)
  have hx : At (frame i j v) 0 (le 4 (21 + (encV v).length) ++ le 4 i ++ le 4 j ++ le 4 2013 ++ le 4 0 ++ [0] ++ encV v) := h
  obtain ⟨h, a6⟩ := hx.split
  obtain ⟨h, a5⟩ := h.split
  obtain ⟨h, a4⟩ := h.split
  obtain ⟨h, a3⟩ := h.split
  obtain ⟨h, a2⟩ := h.split
  obtain ⟨h, a1⟩ := h.split
  simp only [List.length_append, le_length, List.length_cons, List.length_nil, Nat.zero_add, Nat.reduceAdd] at a1 a2 a3 a4 a5 a6
  exact ⟨hl, by rw [hl]; exact h, a1, a2, a3, a4, a5, a6⟩
theorem Frm.eq {b : Bs} {i j : Nat} {v : Val} (h : Frm b i j (encV v)) : b = frame i j v := by
  have hl := h.len
  refine At.all ?_ (by rw [hl]; simp [frame]; omega)
  unfold frame
  rw [← hl]
  refine (((((h.n0.join ?_).join ?_).join ?_).join ?_).join ?_).join ?_
  all_goals simp only [List.length_append, le_length, List.length_cons, List.length_nil, Nat.zero_add, Nat.reduceAdd]
  · exact h.n4
  · exact h.n8
  · exact h.n12
  · exact h.n16
  · exact h.n20
  · exact h.doc

theorem parse_frame {id tw : Int} {v : Val} (hok : okV v) (h : makeErr id tw v = 0) : parse (frame id.toNat tw.toNat v) = ((id, tw, v), 0) := by
  obtain ⟨h1, h2, h3, h4⟩ := makeErr_zero h
  obtain ⟨s1, s2⟩ := enc_size h3 h4
  obtain ⟨i, rfl⟩ : ∃ i : Nat, id = i := ⟨id.toNat, by omega⟩
  obtain ⟨j, rfl⟩ : ∃ j : Nat, tw = j := ⟨tw.toNat, by omega⟩
  simp only [Int.toNat_natCast]
  have F := frm_frame i j v
  have hl := F.len
  have hdoc : (frame i j v).drop 21 = encV v := by
    have := F.doc.2
    rwa [List.take_of_length_le (by simp; omega)] at this
  have e0 := F.n0.num (by omega)
  have e4 := F.n4.num (by omega)
  have e8 := F.n8.num (by omega)
  have e12 := F.n12.num (by omega)
  have e16 := F.n16.num (by omega)
  have e20 := (At.head (s := []) F.n20).1
  unfold parse
  rw [if_neg (by rw [e0]; simp only [lenOk]; simp; omega), if_neg (by rw [e12]; simp), if_neg (by rw [e16]; simp), if_neg (by rw [e20]; simp), hdoc, decode_enc hok h3 h4, e4, e8]

theorem frame_parse {b : Bs} (h : (parse b).2 = 0) : ∃ (i j : Nat) (v : Val), (parse b).1 = ((i : Int), (j : Int), v) ∧ makeErr i j v = 0 ∧ frame i j v = b ∧ okV v ∧ lenOk b.length = true := by
  unfold parse at h ⊢
  split at h
  · cases h
  rename_i c0
  split at h
  · cases h
  rename_i c1
  split at h
  · cases h
  rename_i c2
  split at h
  · cases h
  rename_i c3
  rw [if_neg c0, if_neg c1, if_neg c2, if_neg c3]
  have hlen : lenOk b.length = true := by
    cases e : lenOk b.length
    · exact absurd (.inl e) c0
    · rfl
  have hn : num b 0 4 = b.length := Decidable.not_not.1 fun e => c0 (.inr e)
  have hl : 26 ≤ b.length ∧ b.length ≤ 131072 := by
    simp only [lenOk, Bool.and_eq_true, decide_eq_true_eq] at hlen
    omega
  split at h
  · rename_i y hy
    exfalso
    have : y.1 ≠ 0 := by
      unfold Fw.decode at hy
      split at hy
      · simp only [Except.error.injEq] at hy; subst hy; decide
      split at hy
      · rename_i x hx
        simp only [Except.error.injEq] at hy
        subst hy
        have := decF_err _ _ _ _ _ _ hx
        omega
      · split at hy
        · simp only [Except.error.injEq] at hy; subst hy; simp
        · cases hy
    exact this h
  · rename_i v hv
    obtain ⟨g1, g2, g3, g4⟩ := enc_decode hv
    have b4 := num4 b 4
    have b8 := num4 b 8
    refine ⟨num b 4 4, num b 8 4, v, rfl, ?_, ?_, g4, hlen⟩
    · unfold makeErr
      rw [if_neg (by rw [(mayN_iff _).2 ⟨by omega, by omega⟩, (mayN_iff _).2 ⟨by omega, by omega⟩]; simp)]
      unfold encErr
      rw [if_neg (by simp [g1]), g2]
    · symm
      refine Frm.eq ⟨?_, ?_, At.unnum (by omega), At.unnum (by omega), ?_, ?_, ?_, ?_⟩
      · rw [g3]; simp; omega
      · have := At.unnum (b := b) (k := 0) (n := 4) (by omega)
        rwa [hn] at this
      · have := At.unnum (b := b) (k := 12) (n := 4) (by omega)
        rwa [Decidable.not_not.1 c1] at this
      · have := At.unnum (b := b) (k := 16) (n := 4) (by omega)
        rwa [Decidable.not_not.1 c2] at this
      · have := At.one (b := b) (k := 20) (by omega)
        rwa [Decidable.not_not.1 c3] at this
      · rw [g3]
        have := At.of (b := b) (k := 21) (n := b.length - 21) (by omega)
        rwa [List.take_of_length_le (by simp)] at this

theorem rdV_ok {H : AH} : ∀ (m : Nat) (v : Val) (cs : List AV), SizeOf.sizeOf v < m → RdV H v cs → okV v := by
  intro m
  induction m with
  | zero => intro v cs h; omega
  | succ m ih =>
    intro v cs hm hv
    obtain ⟨k1, i1, t1, l1, d1, x, y, rl, rd, rfl, h1, h2, h3, h4⟩ := hv.out
    cases v with
    | mk k i t l d =>
      simp only [Val.int, Val.list, Val.doc] at *
      simp only [okV]
      have hL : ∀ (l' : List Val) (rl' : List (List AV)), (∀ f ∈ l', SizeOf.sizeOf f < m) → RdVs H l' rl' → okL l' := by
        intro l'
        induction l' with
        | nil => intros; trivial
        | cons v r ih2 =>
          intro rl' hs h
          simp only [RdVs] at h
          obtain ⟨c, r', rfl, hv, hl⟩ := h
          exact ⟨ih v c (hs v List.mem_cons_self) hv, ih2 r' (fun f hf => hs f (List.mem_cons_of_mem _ hf)) hl⟩
      have hD : ∀ (d' : List (Bs × Val)) (rd' : List (List AV)), (∀ f ∈ d', SizeOf.sizeOf f.2 < m) → RdFs H d' rd' → okD d' := by
        intro d'
        induction d' with
        | nil => intros; trivial
        | cons f r ih2 =>
          intro rd' hs h
          obtain ⟨nm, v⟩ := f
          simp only [RdFs] at h
          obtain ⟨c, r', rfl, _, hv, hl⟩ := h
          exact ⟨ih v c (hs (nm, v) List.mem_cons_self) hv, ih2 r' (fun f hf => hs f (List.mem_cons_of_mem _ hf)) hl⟩
      exact ⟨i1, hL l rl (fun f hf => Nat.lt_of_lt_of_le (Val.list_lt (v := .mk k i t l d) hf) (by omega)) h3, hD d rd (fun f hf => Nat.lt_of_lt_of_le (Val.doc_lt (v := .mk k i t l d) hf) (by omega)) h4⟩
end Go.Proofs.YtboojmppmaepmaaDoor
/- The document's examples come out right. -/
namespace Go.Proofs.YtboojmppmaepmaaDoor
set_option maxHeartbeats 8000000
set_option linter.all false
open Go Go.Fw
attribute [local irreducible] Reg RegD seqK blockK loopK retK panK
set_option maxRecDepth 10000

variable {H : AH} {K : AV → AH → Prop} {J : Value → AH → Prop}

/-- A reader that is apart from what was there before. -/
structure RdrI (H0 H : AH) (p : Nat) (x : AV) (l : Bs) (gone : Bool) : Prop where
  rdr : Rdr H p x l gone
  le : Le H0 H
  np : H0 p = none
  nx : ∀ c, x.blk = some c → H0 c = none
theorem RdrI.went {H0 H H' : AH} {p : Nat} {x x' : AV} {l l' : Bs} {g g' : Bool} (h : RdrI H0 H p x l g) (w : Went p H x H' x') (r : Rdr H' p x' l' g') : RdrI H0 H' p x' l' g' := by
  refine ⟨r, fun c o hc => w.keep c o (h.le c o hc) (fun e => ?_) (fun e => ?_), h.np, fun c hc => ?_⟩
  · rw [e, h.np] at hc; cases hc
  · rw [h.nx c e] at hc; cases hc
  · rcases w.new c hc with e | e | e
    · rw [e]; exact h.np
    · exact h.nx c e
    · exact h.le.none e
theorem RdrI.mono {H0 H H' : AH} {p : Nat} {x : AV} {l : Bs} {g : Bool} (h : RdrI H0 H p x l g) (hle : Le H H') : RdrI H0 H' p x l g :=
  ⟨⟨hle _ _ h.rdr.at_, h.rdr.vec.mono hle, h.rdr.few⟩, h.le.trans hle, h.np, h.nx⟩

def frame0 : Bs := [37, 0, 0, 0, 7, 0, 0, 0, 0, 0, 0, 0, 221, 7, 0, 0, 0, 0, 0, 0, 0, 16, 0, 0, 0, 18, 97, 0, 1, 0, 0, 0, 0, 0, 0, 0, 0]
theorem enc_plain : encV plainV = [16, 0, 0, 0, 18, 97, 0, 1, 0, 0, 0, 0, 0, 0, 0, 0] := by
  simp [plainV, encV, encD, encL, kindB, kinds, le, Val.kind]
theorem frame_plain : frame 7 0 plainV = frame0 := by
  unfold frame
  rw [enc_plain]
  rfl
theorem make_plain : makeErr 7 0 plainV = 0 := by
  unfold makeErr
  rw [if_neg (by decide)]
  unfold encErr
  rw [if_neg (by decide)]
  unfold right
  rw [if_neg (by simp [plainV, sizeV, sizeD])]
  have hv : Lib.validD [97] = true := by decide
  simp [plainV, chkV, chkL, chkD, wrongV, nameOk, Val.kind, Val.int, Val.text, Val.doc, Val.list, hv]
theorem ok_plain : okV plainV := by simp [plainV, okV, okL, okD]
theorem parse_plain : parse frame0 = ((7, 0, plainV), 0) := by
  have := parse_frame (id := 7) (tw := 0) ok_plain make_plain
  rw [← frame_plain]
  exact this

theorem RdM.cells {H : AH} {i j : Int} {v : Val} {cs : List AV} (h : RdM H i j v cs) : ∃ a b c d e f g, cs = [a, b, c, d, e, f, g] ∧ a.cell = true ∧ b.cell = true ∧ c.cell = true ∧ d.cell = true ∧ e.cell = true ∧ f.cell = true ∧ g.cell = true := by
  obtain ⟨_, _, c, rfl, hv⟩ := h
  obtain ⟨_, _, _, _, _, x, y, _, _, rfl, h1, h2, _⟩ := hv.out
  exact ⟨_, _, _, _, _, _, _, rfl, rfl, rfl, rfl, rfl, rfl, h1.cell, h2.cell⟩
theorem keepRd {H H' : AH} {x : AV} {l : Bs} (h : RdS H 1 (rowsB l) x) (hle : Le H H') : RdS H' 1 (rowsB l) x := h.mono hle

theorem awake_ok (hk : ∀ H', Le H H' → K (.v (.bool true)) H') : CallX Tryd.prog 9 [] H K J := by
  refine CallX.of_body Tryd.func9 nm9 rfl ?_; simp only [Tryd.ntmps9, List.length_cons, List.length_nil, argSt, Nat.reduceAdd, Nat.reduceSub]
  repeat' (first | ((first | refine Z.W0 ?_ | refine Z.X0 ?_); simp only [go_sem, seval]) | (refine hF _ _ ?_; clear hF F) | (refine Z.p0 ?_; simp only [St.put]) | refine Z.a0 ?_ | refine Z.b0 ?_ | refine Z.c0 ?_ | refine Z.h0 ?_ | refine Z.q0 rfl rfl fun F hF => ?_)
  refine plain_ok fun H1 cs1 e1 m1 => ?_
  (refine hF _ _ ?_; clear hF F)
  repeat' (first | ((first | refine Z.W0 ?_ | refine Z.X0 ?_); simp only [go_sem, seval]) | refine Z.q0 rfl rfl fun F hF => ?_)
  refine make_ok m1 (fun H2 e2 hne => absurd make_plain hne) (fun H2 H3 x e3 _ hx => ?_)
  (refine hF _ _ ?_; clear hF F)
  have hx : On H3 1 (rowsB frame0) H2 x := by rw [← frame_plain]; exact hx
  have e12 : Le H H2 := (e1.trans e3).trans hx.le
  have hxr := hx.rd
  repeat' (first | ((first | refine Z.W0 ?_ | refine Z.X0 ?_); simp only [go_sem, seval]) | (refine hF _ _ ?_; clear hF F) | (refine Z.p0 ?_; simp only [St.put]) | refine Z.a0 ?_ | refine Z.b0 ?_ | refine Z.c0 ?_ | refine Z.h0 ?_ | refine Z.q0 rfl rfl fun F hF => ?_)
  refine parse_ok hxr (by decide) fun H4 Hv cs2 e4 a4 le4 m2 => ?_
  rw [parse_plain] at m2 ⊢
  simp only at m2
  obtain ⟨a, b, c, d, e, f, g, rfl, k1, k2, k3, k4, k5, k6, k7⟩ := m2.cells
  (refine hF _ _ ?_; clear hF F)
  repeat' (first | ((first | refine Z.W0 ?_ | refine Z.X0 ?_); simp only [go_sem, seval, k1, k2, k3, k4, k5, k6, k7]) | (refine hF _ _ ?_; clear hF F) | refine Z.h0 ?_ | refine Z.q0 rfl rfl fun F hF => ?_)
  (refine box_go2 fun r3 H5 e5 n5 o5 => ?_; refine hF _ _ ?_; clear hF F)
  repeat' (first | ((first | refine Z.W0 ?_ | refine Z.X0 ?_); simp only [go_sem, seval, o5, k1, k2, k3, k4, k5, k6, k7]) | (refine hF _ _ ?_; clear hF F) | (refine Z.p0 ?_; simp only [St.put]) | refine Z.a0 ?_ | refine Z.c0 ?_ | refine Z.h0 ?_ | refine Z.q0 rfl rfl fun F hF => ?_ | refine Z.A0 rfl rfl rfl fun F hF => ?_ | refine W_drawn (id := 3) [0, 0, 3, 7] [.a 0, .e 1 [0], .e 2 [], .e 3 []] mixed (by decide +kernel) ?_ | refine Z.C0 rfl rfl rfl fun F hF => ?_)
  generalize hq : AH.set H5 r3 _ = H6; have e6 : Le H4 H6 := (by rw [← hq]; exact e5.set' n5); have o6 := (congrFun hq r3).symm; rw [AH.set_same] at o6; clear hq
  skip
  refine plain_ok fun H7 cs3 e7 m3 => ?_
  have o7 := e7 _ _ o6
  (refine hF _ _ ?_ ?_ <;> clear hF F)
  · repeat' (first | ((first | refine Z.W0 ?_ | refine Z.X0 ?_); simp only [go_sem, seval, o7]) | fail)
  repeat' (first | ((first | refine Z.W0 ?_ | refine Z.X0 ?_); simp only [go_sem, seval, o7]) | refine Z.B0 rfl rfl rfl fun F hF => ?_)
  refine msame_ok (m2.mono ((le4.trans e6).trans e7)) m3 fun H8 e8 => ?_
  have hs : (sameV plainV plainV && decide ((7 : Int) = 7) && decide ((0 : Int) = 0)) = true := by rw [sameV_true rfl]; rfl
  rw [hs]
  (refine hF _ _ ?_; clear hF F)
  repeat' (first | ((first | refine Z.W0 ?_ | refine Z.X0 ?_); simp only [go_sem, seval]) | (refine hF _ _ ?_; clear hF F) | refine Z.a0 ?_ | refine Z.b0 ?_ | refine Z.c0 ?_ | refine Z.h0 ?_ | refine Z.q0 rfl rfl fun F hF => ?_ | refine Z.B0 rfl rfl rfl fun F hF => ?_ | (refine Z.D0 ?_; simp only [St.put]))
  refine new_ok fun H9 p e9 np r9 => ?_
  have hx9 : RdS H9 1 (rowsB frame0) x := hxr.mono ((((e4.trans e6).trans e7).trans e8).trans e9)
  have I0 : RdrI H8 H9 p (.v (.slice none 0 0)) [] false := ⟨r9, e9, np, fun c hc => by cases hc⟩
  have hx8 : RdS H8 1 (rowsB frame0) x := hxr.mono (((e4.trans e6).trans e7).trans e8)
  have e18 : Le H H8 := (((e12.trans e4).trans e6).trans e7).trans e8
  have lb9 := lenB hx9
  rw [show frame0.length = 37 from rfl] at lb9
  obtain ⟨q4, E4⟩ := elB hx9 (k := 4) (by decide)
  have E4i : ∀ F, aidx Tryd.prog 30 x (.v (.int .i64 4)) F = F q4 := E4.idx
  have E4l : ∀ F, aload Tryd.prog 5 q4 H9 F = F (.v (.int .u8 7)) := E4.load
  (refine hF _ _ ?_; clear hF F)
  repeat' (first | ((first | refine Z.W0 ?_ | refine Z.X0 ?_); simp only [go_sem, seval, lb9, E4i, E4l]) | (refine hF _ _ ?_; clear hF F) | (refine Z.p0 ?_; simp only [St.put]) | refine Z.a0 ?_ | refine Z.b0 ?_ | refine Z.c0 ?_ | refine Z.h0 ?_ | refine Z.m0 ?_ | refine Z.q0 rfl rfl fun F hF => ?_ | refine Z.r0 rfl rfl rfl rfl fun F hF => ?_ | refine Z.U0 rfl ?_)
  refine hx9.cut (l := 0) (h := 36) vt30 (.inr ⟨_, _, rfl, rfl⟩) (.inl ⟨rfl, rfl⟩) (by decide) (by decide) fun z hz _ => ?_
  rw [rowsB_take, List.drop_zero] at hz
  (refine hF _ _ ?_; clear hF F)
  repeat' (first | ((first | refine Z.W0 ?_ | refine Z.X0 ?_); simp only [go_sem, seval]) | refine Z.q0 rfl rfl fun F hF => ?_)
  refine feed_ok r9 hz (by decide) fun H10 x10 w10 r10 => ?_
  have I1 := I0.went w10 r10
  have hx10 : RdS H10 1 (rowsB frame0) x := hx8.mono I1.le
  have f1 : feed [] false (frame0.take 36) = (frame0.take 36, false) := by decide
  rw [f1] at I1
  (refine hF _ _ ?_; clear hF F)
  repeat' (first | ((first | refine Z.W0 ?_ | refine Z.X0 ?_); simp only [go_sem, seval]) | (refine hF _ _ ?_; clear hF F) | (refine Z.p0 ?_; simp only [St.put]) | refine Z.a0 ?_ | refine Z.b0 ?_ | refine Z.c0 ?_ | refine Z.h0 ?_ | refine Z.q0 rfl rfl fun F hF => ?_)
  refine ready_ok I1.rdr ?_
  rw [show ready (frame0.take 36) = false from by decide]
  obtain ⟨q36, E36⟩ := elB hx10 (k := 36) (by decide)
  have E36i : ∀ F, aidx Tryd.prog 30 x (.v (.int .i64 36)) F = F q36 := E36.idx
  have E36l : ∀ F, aload Tryd.prog 5 q36 H10 F = F (.v (.int .u8 0)) := E36.load
  (refine hF _ _ ?_; clear hF F)
  repeat' (first | ((first | refine Z.W0 ?_ | refine Z.X0 ?_); simp only [go_sem, seval, E36i, E36l]) | (refine hF _ _ ?_; clear hF F) | (refine Z.p0 ?_; simp only [St.put]) | refine Z.a0 ?_ | refine Z.b0 ?_ | refine Z.c0 ?_ | refine Z.h0 ?_ | refine Z.q0 rfl rfl fun F hF => ?_)
  refine app30 (l := []) (a := [0]) (On.onil (H0 := H10) (es := 1)) src_zero (by decide) fun y H11 hy => ?_
  (refine hF _ _ ?_; clear hF F)
  repeat' (first | ((first | refine Z.W0 ?_ | refine Z.X0 ?_); simp only [go_sem, seval]) | (refine hF _ _ ?_; clear hF F) | refine Z.h0 ?_ | refine Z.q0 rfl rfl fun F hF => ?_)
  refine app30 (a := [1, 0]) hy (fun G => by simp [asrc, rowsB]) (by decide) fun y2 H12 hy2 => ?_
  (refine hF _ _ ?_; clear hF F)
  repeat' (first | ((first | refine Z.W0 ?_ | refine Z.X0 ?_); simp only [go_sem, seval]) | refine Z.q0 rfl rfl fun F hF => ?_)
  have I2 := I1.mono hy2.le
  have hy2r := hy2.rd
  refine feed_ok I2.rdr hy2r (by decide) fun H13 x13 w13 r13 => ?_
  have I3 := I2.went w13 r13
  have f2 : feed (frame0.take 36) false ([] ++ [0] ++ [1, 0]) = (frame0 ++ [1, 0], false) := by decide
  rw [f2] at I3
  (refine hF _ _ ?_; clear hF F)
  repeat' (first | ((first | refine Z.W0 ?_ | refine Z.X0 ?_); simp only [go_sem, seval]) | (refine hF _ _ ?_; clear hF F) | (refine Z.p0 ?_; simp only [St.put]) | refine Z.a0 ?_ | refine Z.b0 ?_ | refine Z.c0 ?_ | refine Z.h0 ?_ | refine Z.q0 rfl rfl fun F hF => ?_)
  refine next_some I3.rdr (by decide) fun H14 x14 fx w14 r14 ofx hfx => ?_
  have I4 := I3.went w14 r14
  have f3 : settle ((frame0 ++ [1, 0]).drop (num (frame0 ++ [1, 0]) 0 4)) false = ([1, 0], false) := by decide
  rw [f3] at I4
  have f4 : (frame0 ++ [1, 0]).take (num (frame0 ++ [1, 0]) 0 4) = frame0 := by decide
  rw [f4] at ofx
  (refine hF _ _ ?_; clear hF F)
  repeat' (first | ((first | refine Z.W0 ?_ | refine Z.X0 ?_); simp only [go_sem, seval]) | (refine hF _ _ ?_; clear hF F) | (refine Z.p0 ?_; simp only [St.put]) | refine Z.a0 ?_ | refine Z.b0 ?_ | refine Z.c0 ?_ | refine Z.h0 ?_ | refine Z.q0 rfl rfl fun F hF => ?_)
  refine left_ok I4.rdr ?_
  (refine hF _ _ ?_; clear hF F)
  repeat' (first | ((first | refine Z.W0 ?_ | refine Z.X0 ?_); simp only [go_sem, seval]) | (refine hF _ _ ?_; clear hF F) | (refine Z.p0 ?_; simp only [St.put]) | refine Z.a0 ?_ | refine Z.b0 ?_ | refine Z.c0 ?_ | refine Z.h0 ?_ | refine Z.q0 rfl rfl fun F hF => ?_)
  refine feed_ok (b := [0, 0]) I4.rdr (.imm _) (by decide) fun H15 x15 w15 r15 => ?_
  have I5 := I4.went w15 r15
  have f5 : feed [1, 0] false [0, 0] = ([], true) := by decide
  rw [f5] at I5
  have hfx15 : RdS H15 1 (rowsB frame0) fx := ofx.rd.keep fun c hc => by
    have g1 := ofx.atb hc
    rw [w15.keep c _ g1 (fun e => by have := (hfx c hc).1; rw [e, I3.rdr.at_] at this; cases this) (hfx c hc).2, g1]
  have hx15 : RdS H15 1 (rowsB frame0) x := hx8.mono I5.le
  (refine hF _ _ ?_; clear hF F)
  repeat' (first | ((first | refine Z.W0 ?_ | refine Z.X0 ?_); simp only [go_sem, seval, convB hfx15, convB hx15]) | (refine hF _ _ ?_; clear hF F) | (refine Z.p0 ?_; simp only [St.put]) | refine Z.a0 ?_ | refine Z.b0 ?_ | refine Z.c0 ?_ | refine Z.h0 ?_ | refine Z.q0 rfl rfl fun F hF => ?_ | refine Z.r0 rfl rfl rfl rfl fun F hF => ?_)
  refine broken_ok I5.rdr ?_
  (refine hF _ _ ?_; clear hF F)
  repeat' (first | ((first | refine Z.W0 ?_ | refine Z.X0 ?_); simp only [go_sem, seval]) | (refine hF _ _ ?_; clear hF F) | refine Z.h0 ?_ | refine Z.q0 rfl rfl fun F hF => ?_ | refine Z.r0 rfl rfl rfl rfl fun F hF => ?_)
  refine left_ok I5.rdr ?_
  (refine hF _ _ ?_; clear hF F)
  repeat' (first | ((first | refine Z.W0 ?_ | refine Z.X0 ?_); simp only [go_sem, seval]) | (refine hF _ _ ?_; clear hF F) | (refine Z.p0 ?_; simp only [St.put]) | refine Z.c0 ?_ | refine Z.h0 ?_ | refine Z.n0 ?_ | refine Z.q0 rfl rfl fun F hF => ?_ | refine Z.r0 rfl rfl rfl rfl fun F hF => ?_)
  simp only [retK, ares, pack, Tryd.results9, St.get, reduceIte, Nat.reduceEqDiff, aload, arow, List.toArray, Array.toList]
  exact hk _ (e18.trans I5.le)

end Go.Proofs.YtboojmppmaepmaaDoor
/- What came in, read: texts, documents, messages; the library's tables. -/
namespace Go.Proofs.YtboojmppmaepmaaDoor
set_option maxHeartbeats 8000000
set_option linter.all false
set_option maxRecDepth 10000
open Go Go.Fw Go.ChangeShapes Go.WideShapes Go.ChangeAt Go.RowKit Go.Lib

theorem one_le {H : Type} (d : DataW H) : 1 ≤ Rows.uptoBulk d := by
  cases d with
  | lit l => cases l <;> simp [Rows.uptoBulk]
  | nil => simp [Rows.uptoBulk]
  | ptr d => simp [Rows.uptoBulk]
  | slice elems spare => simp [Rows.uptoBulk]
  | agg parts => simp [Rows.uptoBulk]
  | iface t d => simp [Rows.uptoBulk]
  | map entries => simp [Rows.uptoBulk]
  | held h => simp [Rows.uptoBulk]
theorem all_le {H : Type} (l : List (DataW H)) : l.length ≤ Rows.uptoBulkAll l := by
  induction l with
  | nil => simp
  | cons x r ih => have := one_le x; simp only [Rows.uptoBulkAll, List.length_cons]; omega
theorem le_all {H : Type} {l : List (DataW H)} {i : Nat} {d : DataW H} (h : l[i]? = some d) : Rows.uptoBulk d ≤ Rows.uptoBulkAll l := by
  induction l generalizing i with
  | nil => simp at h
  | cons x r ih =>
    cases i with
    | zero => simp at h; subst h; simp only [Rows.uptoBulkAll]; omega
    | succ i => have := ih (i := i) (by simpa using h); simp only [Rows.uptoBulkAll]; omega
theorem slice_le {H : Type} {el sp : List (DataW H)} : Rows.uptoBulkAll el + 1 ≤ Rows.uptoBulk (.slice el sp) := by simp only [Rows.uptoBulk]; omega
theorem small_of {H : Type} {l gs : List (DataW H)} {i : Nat} {d : DataW H} (hd : l[i]? = some d) (hk : Rows.uptoSmall H (l ++ gs) = true) : Rows.uptoBulk d ≤ 1000000000 := by
  have h := of_decide_eq_true hk
  have h2 := le_all (l := l ++ gs) (i := i) (d := d) (by rw [List.getElem?_append_left (List.getElem?_eq_some_iff.1 hd).1]; exact hd)
  omega

theorem own : ownKnob Tryd.prog.godebug = none := by kernel_rfl
theorem laidOut : laidOutB Tryd.prog = true := by kernel_rfl

section
variable {H : Type} {enc : TypeId × Value → H} {w : World}

/-- A row of values, each of which is one. -/
theorem rdVs_of {Hv : AH} : ∀ rows : List (List AV), (∀ r ∈ rows, ∃ v, RdV Hv v r) → ∃ l, RdVs Hv l rows
  | [], _ => ⟨[], rfl⟩
  | r :: rows, h => by
    obtain ⟨v, hv⟩ := h r (by simp)
    obtain ⟨l, hl⟩ := rdVs_of rows (fun q hq => h q (by simp [hq]))
    exact ⟨v :: l, r, rows, rfl, hv, hl⟩
theorem rdFs_of {Hv : AH} : ∀ rows : List (List AV), (∀ r ∈ rows, ∃ nm v c, r = .v (.string (bs nm)) :: c ∧ nm.length ≤ 1000000000 ∧ RdV Hv v c) → ∃ l, RdFs Hv l rows
  | [], _ => ⟨[], rfl⟩
  | r :: rows, h => by
    obtain ⟨nm, v, c, rfl, hn, hv⟩ := h r (by simp)
    obtain ⟨l, hl⟩ := rdFs_of rows (fun q hq => h q (by simp [hq]))
    exact ⟨(nm, v) :: l, c, rows, rfl, hn, hv, hl⟩

theorem lit_wf {k : Int} (h : (Lit.int .i64 k).wf = true) : -9223372036854775808 ≤ k ∧ k ≤ 9223372036854775807 := by
  simp only [Lit.wf, Bool.and_eq_true, decide_eq_true_eq] at h
  exact h

/-- A slice whose elements are read: what its rows are, when it is small. -/
theorem slice_rows {t e : TypeId} {n : Nat} {cs : List Value} {d : DataW H} {ps : List MemPlace} {R : List AV → Prop} (ht : Tryd.prog.underlying t = some (.slice e)) (hz : Tryd.prog.cellsOf e ≠ 0) (h : tr enc Tryd.prog w n t cs = some (d, ps))
    (hel : ∀ m cs' d' p', m < n → cs'.length = Tryd.prog.cellsOf e → tr enc Tryd.prog w m e cs' = some (d', p') → ∃ r, (Rows.uptoBulk d' ≤ 1000000000 → R r) ∧ RepL w r cs') :
    ∃ rows, RepL w [.imm (Tryd.prog.cellsOf e) rows] cs ∧ (Rows.uptoBulk d ≤ 1000000000 → rows.length ≤ 1000000000 ∧ ∀ r ∈ rows, R r) := by
  obtain ⟨rows, h1, _, h2⟩ := repL_slice (Q := fun d' r => Rows.uptoBulk d' ≤ 1000000000 → R r) ht hz h hel
  refine ⟨rows, h1, fun hb => ?_⟩
  rcases h2 with ⟨_, rfl⟩ | ⟨el, sp, rfl, hl, hq⟩
  · exact ⟨by simp, fun r hr => by simp at hr⟩
  · have hs := slice_le (el := el) (sp := sp)
    refine ⟨by have := all_le el; omega, fun r hr => ?_⟩
    obtain ⟨i, hi, rfl⟩ := List.getElem_of_mem hr
    have he : el[i]? = some (el[i]'(by omega)) := List.getElem?_eq_getElem (by omega)
    exact hq i _ _ he (List.getElem?_eq_getElem hi) (by have := le_all he; omega)

theorem repL_value : ∀ (n : Nat) (cs : List Value) (d : DataW H) (ps : List MemPlace), tr enc Tryd.prog w n 25 cs = some (d, ps) →
    ∃ r, (Rows.uptoBulk d ≤ 1000000000 → ∃ v, RdV (fun _ => none) v r) ∧ RepL w r cs ∧ r.length = 5 := by
  intro n
  induction n using Nat.strongRecOn with
  | ind n ih =>
    intro cs d ps h
    obtain ⟨m, ds, rfl, rfl, hc, hl, hf⟩ := tr_struct Tryd.underlying25 h
    rw [cl25] at hc
    obtain ⟨c0, c1, c2, c3, c4, rfl⟩ : ∃ c0 c1 c2 c3 c4, cs = [c0, c1, c2, c3, c4] := by
      match cs, hc with
      | [c0, c1, c2, c3, c4], _ => exact ⟨c0, c1, c2, c3, c4, rfl⟩
    obtain ⟨d0, _, i0, h0⟩ := hf 0 _ rfl
    obtain ⟨d1, _, i1, h1⟩ := hf 1 _ rfl
    obtain ⟨d2, _, i2, h2⟩ := hf 2 _ rfl
    obtain ⟨d3, _, i3, h3⟩ := hf 3 _ rfl
    obtain ⟨d4, _, i4, h4⟩ := hf 4 _ rfl
    simp only [List.getElem_toArray, List.getElem_cons_zero, List.getElem_cons_succ, cl3, cl9, cl22, cl23, List.drop_zero, List.drop_succ_cons, List.take_succ_cons, List.take_zero] at h0 h1 h2 h3 h4
    obtain ⟨z0, _, r0, w0⟩ := repL_int Tryd.underlying3 h0
    obtain ⟨z1, _, r1, w1⟩ := repL_int Tryd.underlying3 h1
    obtain ⟨s2, e2, r2, _⟩ := repL_string Tryd.underlying9 h2
    obtain ⟨rl, r3, q3⟩ := slice_rows (R := fun r => ∃ v, RdV (fun _ => none) v r) Tryd.underlying22 (by rw [cl25]; decide) h3 (fun m' cs' d' p' hm _ h => by
      obtain ⟨r, a1, a2, _⟩ := ih m' (by omega) cs' d' p' h
      exact ⟨r, a1, a2⟩)
    obtain ⟨rd, r4, q4⟩ := slice_rows (R := fun r => ∃ nm v c, r = .v (.string (bs nm)) :: c ∧ nm.length ≤ 1000000000 ∧ RdV (fun _ => none) v c) Tryd.underlying23 (by rw [cl66]; decide) h4 (fun m' cs' d' p' hm hcl h => by
      rw [cl66] at hcl
      obtain ⟨m2, ds2, rfl, rfl, _, _, hf2⟩ := tr_struct Tryd.underlying66 h
      obtain ⟨k0, k1, k2, k3, k4, k5, rfl⟩ : ∃ k0 k1 k2 k3 k4 k5, cs' = [k0, k1, k2, k3, k4, k5] := by
        match cs', hcl with
        | [k0, k1, k2, k3, k4, k5], _ => exact ⟨k0, k1, k2, k3, k4, k5, rfl⟩
      obtain ⟨e0, _, j0, g0⟩ := hf2 0 _ rfl
      obtain ⟨e1, _, j1, g1⟩ := hf2 1 _ rfl
      simp only [List.getElem_toArray, List.getElem_cons_zero, List.getElem_cons_succ, cl9, cl25, List.drop_zero, List.drop_succ_cons, List.take_succ_cons, List.take_zero] at g0 g1
      obtain ⟨nm, en, rn, _⟩ := repL_string Tryd.underlying9 g0
      obtain ⟨c, a1, a2, _⟩ := ih m2 (by omega) _ _ _ g1
      refine ⟨.v (.string nm) :: c, fun hb => ?_, rn.append a2⟩
      simp only [Rows.uptoBulk] at hb
      have b0 := le_all j0
      have b1 := le_all j1
      obtain ⟨v, hv⟩ := a1 (by omega)
      refine ⟨nm.data.toList, v, c, by rw [bs_of], ?_, hv⟩
      rw [en] at b0
      simp only [Rows.uptoBulk] at b0
      omega)
    rw [cl25] at r3
    rw [cl66] at r4
    refine ⟨[.v (.int .i64 z0), .v (.int .i64 z1), .v (.string s2), .imm 5 rl, .imm 6 rd], fun hb => ?_, (((r0.append r1).append r2).append r3).append r4, rfl⟩
    simp only [Rows.uptoBulk] at hb
    have b2 := le_all i2
    have b3 := le_all i3
    have b4 := le_all i4
    rw [e2] at b2
    simp only [Rows.uptoBulk] at b2
    obtain ⟨p3, p3'⟩ := q3 (by omega)
    obtain ⟨p4, p4'⟩ := q4 (by omega)
    obtain ⟨lv, hlv⟩ := rdVs_of rl p3'
    obtain ⟨dv, hdv⟩ := rdFs_of rd p4'
    have n3 := hlv.len
    have n4 := hdv.len
    refine ⟨.mk z0 z1 s2.data.toList lv dv, ?_⟩
    have := RdV.mk (H := fun _ => none) (k := z0) (i := z1) (t := s2.data.toList) (l := lv) (d := dv) (lit_wf w0) (lit_wf w1) (by omega) (by omega) (by omega) (.imm rl) (.imm rd) hlv hdv
    rw [bs_of] at this
    exact this

/-- A message's cells. -/
theorem repL_message {n : Nat} {cs : List Value} {d : DataW H} {ps : List MemPlace} (h : tr enc Tryd.prog w n 27 cs = some (d, ps)) :
    ∃ r, (Rows.uptoBulk d ≤ 1000000000 → ∃ i j x, RdM (fun _ => none) i j x r) ∧ RepL w r cs := by
  obtain ⟨m, ds, rfl, rfl, hc, hl, hf⟩ := tr_struct Tryd.underlying27 h
  rw [cl27] at hc
  obtain ⟨c0, c1, c2, c3, c4, c5, c6, rfl⟩ : ∃ c0 c1 c2 c3 c4 c5 c6, cs = [c0, c1, c2, c3, c4, c5, c6] := by
    match cs, hc with
    | [c0, c1, c2, c3, c4, c5, c6], _ => exact ⟨c0, c1, c2, c3, c4, c5, c6, rfl⟩
  obtain ⟨d0, _, i0, h0⟩ := hf 0 _ rfl
  obtain ⟨d1, _, i1, h1⟩ := hf 1 _ rfl
  obtain ⟨d2, _, i2, h2⟩ := hf 2 _ rfl
  simp only [List.getElem_toArray, List.getElem_cons_zero, List.getElem_cons_succ, cl3, cl25, List.drop_zero, List.drop_succ_cons, List.take_succ_cons, List.take_zero] at h0 h1 h2
  obtain ⟨z0, _, r0, w0⟩ := repL_int Tryd.underlying3 h0
  obtain ⟨z1, _, r1, w1⟩ := repL_int Tryd.underlying3 h1
  obtain ⟨c, a1, a2, _⟩ := repL_value _ _ _ _ h2
  refine ⟨.v (.int .i64 z0) :: .v (.int .i64 z1) :: c, fun hb => ?_, (r0.append r1).append a2⟩
  simp only [Rows.uptoBulk] at hb
  have b2 := le_all i2
  obtain ⟨v, hv⟩ := a1 (by omega)
  exact ⟨z0, z1, v, lit_wf w0, lit_wf w1, c, rfl, hv⟩
theorem rep_message {v : Value} {d : DataW H} {ps : List MemPlace} (hv : ∃ a, v = .agg a ∧ a.size = Tryd.prog.cellsOf 27) (h : DataW.Trod enc Tryd.prog w 0 (fun _ => true) true 27 v d ps) :
    ∃ cm, Rep w (fun _ => False) (.agg cm) v ∧ (Rows.uptoBulk d ≤ 1000000000 → ∃ i j x, RdM (fun _ => none) i j x cm) := by
  obtain ⟨a, rfl, _⟩ := hv
  obtain ⟨n, h⟩ := h
  obtain ⟨r, h1, h2⟩ := repL_message (cs := a.toList) h
  exact ⟨r, h2.agg, h1⟩

theorem u8_wf {k : Int} (h : (Lit.int .u8 k).wf = true) : 0 ≤ k ∧ k ≤ 255 := by
  simp only [Lit.wf, Bool.and_eq_true, decide_eq_true_eq] at h
  exact h
theorem rowsB_of : ∀ rows : List (List AV), (∀ r ∈ rows, ∃ c : UInt8, r = [.v (.int .u8 c.toNat)]) → ∃ l : Bs, rows = rowsB l
  | [], _ => ⟨[], rfl⟩
  | r :: rows, h => by
    obtain ⟨c, rfl⟩ := h r (by simp)
    obtain ⟨l, rfl⟩ := rowsB_of rows (fun q hq => h q (by simp [hq]))
    exact ⟨c :: l, rfl⟩
/-- Bytes that came in. -/
theorem repL_bytes {n : Nat} {cs : List Value} {d : DataW H} {ps : List MemPlace} (h : tr enc Tryd.prog w n 30 cs = some (d, ps)) :
    ∃ l : Bs, RepL w [.imm 1 (rowsB l)] cs ∧ (Rows.uptoBulk d ≤ 1000000000 → l.length ≤ 1000000000) := by
  obtain ⟨rows, h1, _, h2⟩ := repL_slice (Q := fun _ r => ∃ c : UInt8, r = [.v (.int .u8 c.toNat)]) Tryd.underlying30 (by rw [cl5]; decide) h (fun m cs' d' p' _ _ h => by
    obtain ⟨z, _, r, hw⟩ := repL_int Tryd.underlying5 h
    obtain ⟨g1, g2⟩ := u8_wf hw
    have e : ((UInt8.ofNat z.toNat).toNat : Int) = z := by rw [u8_ofNat]; omega
    exact ⟨[.v (.int .u8 z)], ⟨UInt8.ofNat z.toNat, by rw [e]⟩, r⟩)
  rw [cl5] at h1
  rcases h2 with ⟨_, rfl⟩ | ⟨el, sp, rfl, hl, hq⟩
  · exact ⟨[], h1, fun _ => by simp⟩
  · obtain ⟨l, rfl⟩ := rowsB_of rows (by
      intro r hr
      obtain ⟨i, hi, rfl⟩ := List.getElem_of_mem hr
      exact hq i _ _ (List.getElem?_eq_getElem (by omega)) (List.getElem?_eq_getElem hi))
    refine ⟨l, h1, fun hb => ?_⟩
    have := all_le el
    have := slice_le (el := el) (sp := sp)
    simp only [rowsB_length] at hl
    omega
theorem rep_bytes {v : Value} {d : DataW H} {ps : List MemPlace} (hv : ∃ a l c, v = .slice a l c) (h : DataW.Trod enc Tryd.prog w 0 (fun _ => true) true 30 v d ps) :
    ∃ l : Bs, Rep w (fun _ => False) (.imm 1 (rowsB l)) v ∧ (Rows.uptoBulk d ≤ 1000000000 → l.length ≤ 1000000000) := by
  obtain ⟨a, l, c, rfl⟩ := hv
  obtain ⟨n, h⟩ := h
  obtain ⟨l, h1, h2⟩ := repL_bytes h
  exact ⟨l, h1.single, h2⟩
end

/-- The tables as a row lists them. -/
abbrev laidAll : List (String × DataW Unit) := [("math/bits.deBruijn32tab", Rows.laid_math_bits_deBruijn32tab), ("math/bits.deBruijn64tab", Rows.laid_math_bits_deBruijn64tab), ("internal/strconv.uint64pow10", Rows.laid_internal_strconv_uint64pow10), ("unicode/utf8.acceptRanges", Rows.laid_unicode_utf8_acceptRanges), ("unicode/utf8.first", Rows.laid_unicode_utf8_first)]

theorem x196 : U8Extra Tryd.prog Tryd.lays196_ren :=
  ⟨by kernel_rfl, by kernel_rfl, by kernel_rfl, by kernel_rfl, by kernel_rfl, by kernel_rfl, by kernel_rfl⟩
theorem e_first : Rows.laid_unicode_utf8_first = firstData := Pinned.utf8First_eq
theorem e_accept : (Rows.laid_unicode_utf8_acceptRanges : DataW Unit) = acceptData := by kernel_rfl
theorem e_pow : (Rows.laid_internal_strconv_uint64pow10 : DataW Unit) = tabData .u64 pow10Tab := by kernel_rfl
theorem kp_laid {W : World} (h : laidMetH Tryd.prog laidAll W) : KP W := by
  have h : laidMet Tryd.prog laidAll W := h
  refine ⟨?_, ?_⟩
  · obtain ⟨g, t, cs, fuel, p, hg, hty, hvar, hd⟩ := laidMet.reads h (n := "internal/strconv.uint64pow10") (d := Rows.laid_internal_strconv_uint64pow10) (by simp [laidAll])
    have hg2 : Tryd.prog.globalNamed "internal/strconv.uint64pow10" = some 2 := by kernel_rfl
    obtain rfl := Option.some.inj (hg2.symm.trans hg)
    have ht2 : (Tryd.prog.globals[2]?).map (·.type) = some 137 := by kernel_rfl
    obtain rfl := Option.some.inj (ht2.symm.trans hty)
    rw [e_pow] at hd
    have hcs := cells_of_tab Tryd.underlying137 Tryd.underlying12 (by kernel_rfl) (by kernel_rfl) hd
    unfold TabIs
    rw [hvar, ← hcs]
  · have h1 := laidMet.reads h (n := "unicode/utf8.first") (d := Rows.laid_unicode_utf8_first) (by simp [laidAll])
    have h2 := laidMet.reads h (n := "unicode/utf8.acceptRanges") (d := Rows.laid_unicode_utf8_acceptRanges) (by simp [laidAll])
    rw [e_first] at h1
    rw [e_accept] at h2
    exact utf8Tabs_of_readsT (U8Types.of196 Tryd.lays196) x196 h1 h2
end Go.Proofs.YtboojmppmaepmaaDoor
/- A world that holds the library's tables; what such a world is known to hold. -/
namespace Go.Proofs.YtboojmppmaepmaaDoor
set_option maxHeartbeats 8000000
set_option linter.all false
open Go Go.Fw Go.ChangeShapes Go.WideShapes Go.ChangeAt Go.RowKit Go.Lib

theorem kn_laid {W : World} (h : laidMetH Tryd.prog laidAll W) : Kn W fun _ => False := by
  refine ⟨?_, fun b _ h => h, kp_laid h⟩
  have h : laidMet Tryd.prog laidAll W := h
  have size : ∀ (n : String) (d : DataW Unit) (g : Nat), (n, d) ∈ laidAll → Tryd.prog.globalNamed n = some g → g < W.heap.size := by
    intro n d g hm hg
    obtain ⟨g', _, cs, _, _, hg', _, hvar, _⟩ := laidMet.reads h hm
    unfold World.var? at hvar
    rw [hg] at hvar
    simp only [Option.bind_some] at hvar
    cases hq : W.heap[g]? with
    | none => rw [hq] at hvar; cases hvar
    | some o => exact lt_of_heap hq
  have h4 := size "math/bits.deBruijn32tab" _ 4 (by simp [laidAll]; rfl) (by kernel_rfl)
  have h5 := size "math/bits.deBruijn64tab" _ 5 (by simp [laidAll]; rfl) (by kernel_rfl)
  show 6 ≤ _
  omega

/-- The integers of a plain table. -/
def flat1 : DataW Unit → List Value
  | .lit (.int k z) => [.int k z]
  | _ => []
def flat2 : DataW Unit → List Value
  | .agg ds => ds.flatMap flat1
  | _ => []
def flat3 : DataW Unit → List Value
  | .agg ds => ds.flatMap flat2
  | _ => []
def layTab (h : Array Obj) (g : Nat) (cs : List Value) : Array Obj := h.modify g fun
  | .cells _ t frozen => .cells cs.toArray t frozen
  | o => o
noncomputable def laidWorld (os : Os) : World :=
  { World.holding Tryd.prog os ⟨#[], #[], []⟩ with heap := layTab (layTab (layTab (layTab (layTab (World.holding Tryd.prog os ⟨#[], #[], []⟩).heap 0 (flat2 Rows.laid_unicode_utf8_first)) 1 (flat3 Rows.laid_unicode_utf8_acceptRanges)) 2 (flat2 Rows.laid_internal_strconv_uint64pow10)) 4 (flat2 Rows.laid_math_bits_deBruijn32tab)) 5 (flat2 Rows.laid_math_bits_deBruijn64tab) }
end Go.Proofs.YtboojmppmaepmaaDoor
