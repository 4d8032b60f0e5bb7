/- The walks and the plain laws that the row rests on, part 5: Yk Ym Yw. -/
import Derived.Test.YtboojmppmaepmaaDoorQ4
/- Messages one behind another: the walk of the law. -/
namespace Go.Proofs.YtboojmppmaepmaaDoor
set_option maxHeartbeats 8000000
set_option linter.all false
open Go Go.Fw
attribute [local irreducible] Reg RegD seqK blockK loopK retK panK
set_option maxRecDepth 10000

variable {H : AH} {K : AV → AH → Prop} {J : Value → AH → Prop}

abbrev Msg := Int × Int × Val
def okM (m : Msg) : Bool := decide (makeErr m.1 m.2.1 m.2.2 = 0)
def frm (m : Msg) : Bs := frame m.1.toNat m.2.1.toNat m.2.2
theorem frm_len {m : Msg} (h : okM m = true) : (frm m).length = 21 + sizeV m.2.2 ∧ 26 ≤ (frm m).length ∧ (frm m).length ≤ 131072 ∧ num (frm m) 0 4 = (frm m).length := by
  have hm : makeErr m.1 m.2.1 m.2.2 = 0 := by simpa [okM] using h
  obtain ⟨_, _, g3, g4⟩ := makeErr_zero hm
  obtain ⟨s1, s2⟩ := enc_size g3 g4
  have F := frm_frame m.1.toNat m.2.1.toNat m.2.2
  have hl := F.len
  have h3 := (right_len g4).2.2
  refine ⟨by rw [← h3]; exact hl, ?_, ?_, ?_⟩
  · show 26 ≤ (frame _ _ _).length; omega
  · show (frame _ _ _).length ≤ _; omega
  · exact F.n0.num (by omega)

/-- Frames one behind another are cut into just these, whatever half a frame stands behind them. -/
theorem cut_row {t : Bs} (ht : t.length < 4) : ∀ (l : List Msg), (∀ m ∈ l, okM m = true) → cutF ((l.map frm).flatten ++ t) = (l.map frm, false)
  | [], _ => by
    simp only [List.map_nil, List.flatten_nil, List.nil_append]
    rw [cutF_eq, if_neg (fun h => by have := h.1; omega), if_neg (fun h => by have := (ready_iff.1 h).1; omega)]
  | m :: l, h => by
    obtain ⟨_, g1, g2, g3⟩ := frm_len (h m (by simp))
    have ih := cut_row ht l fun x hx => h x (by simp [hx])
    have e : ((m :: l).map frm).flatten ++ t = frm m ++ ((l.map frm).flatten ++ t) := by simp
    have hn : num (frm m ++ ((l.map frm).flatten ++ t)) 0 4 = (frm m).length := by rw [num_app (by omega), g3]
    rw [e, cutF_eq, if_neg, if_pos, hn, List.take_left, List.drop_left, ih]
    · rfl
    · exact ready_iff.2 ⟨by rw [List.length_append]; omega, by rw [hn, List.length_append]; omega⟩
    · intro hb
      have := hb.2
      rw [hn] at this
      simp only [lenOk, Bool.and_eq_false_iff, decide_eq_false_iff_not] at this
      omega

/-- Two slices that grow side by side. -/
structure Two (H0 H : AH) (xa : AV) (la : Bs) (xp : AV) (rp : List (List AV)) : Prop where
  le : Le H0 H
  a : Ow H 1 (rowsB la) xa
  p : Ow H 7 rp xp
  na : ∀ c, xa.blk = some c → H0 c = none ∧ xp.blk ≠ some c
  np : ∀ c, xp.blk = some c → H0 c = none
theorem Two.mono {H0 H H' : AH} {xa xp : AV} {la : Bs} {rp : List (List AV)} (h : Two H0 H xa la xp rp) (hle : Le H H') : Two H0 H' xa la xp rp :=
  ⟨h.le.trans hle, h.a.mono hle, h.p.mono hle, h.na, h.np⟩
theorem Two.appA {H0 H H' : AH} {xa xa' xp : AV} {la la' : Bs} {rp : List (List AV)} (h : Two H0 H xa la xp rp) (T : Turned H xa H' xa') (a : Ow H' 1 (rowsB la') xa') : Two H0 H' xa' la' xp rp := by
  refine ⟨fun c o hc => T.keep c o (h.le c o hc) (fun e => by rw [(h.na c e).1] at hc; cases hc), a, h.p.keep fun c hc => ?_, fun c hc => ?_, h.np⟩
  · rw [T.keep c _ (h.p.atb hc) (fun e => (h.na c e).2 hc), h.p.atb hc]
  · rcases T.new c hc with e | e
    · exact h.na c e
    · exact ⟨h.le.none e, fun e2 => by rw [h.p.atb e2] at e; cases e⟩
theorem Two.appP {H0 H H' : AH} {xa xp xp' : AV} {la : Bs} {rp rp' : List (List AV)} (h : Two H0 H xa la xp rp) (T : Turned H xp H' xp') (p : Ow H' 7 rp' xp') : Two H0 H' xa la xp' rp' := by
  refine ⟨fun c o hc => T.keep c o (h.le c o hc) (fun e => by rw [h.np c e] at hc; cases hc), h.a.keep fun c hc => ?_, p, fun c hc => ⟨(h.na c hc).1, fun e2 => ?_⟩, fun c hc => ?_⟩
  · rw [T.keep c _ (h.a.atb hc) (fun e => (h.na c hc).2 e), h.a.atb hc]
  · rcases T.new c e2 with e | e
    · exact (h.na c hc).2 e
    · rw [h.a.atb hc] at e; cases e
  · rcases T.new c hc with e | e
    · exact h.np c e
    · exact h.le.none e

/-- A message with its cells. -/
abbrev MR := Msg × List AV
def good (l : List MR) : List MR := l.filter fun q => okM q.1
def allB (l : List MR) : Bs := ((good l).map fun q => frm q.1).flatten
def putR (l : List MR) : List (List AV) := (good l).map (·.2)
theorem good_take {l : List MR} {k : Nat} (hk : k < l.length) : good (l.take (k + 1)) = good (l.take k) ++ if okM l[k].1 = true then [l[k]] else [] := by
  unfold good
  rw [List.take_succ_eq_append_getElem hk, List.filter_append]
  congr 1
  simp only [List.filter_cons, List.filter_nil]
theorem allB_take {l : List MR} {k : Nat} (hk : k < l.length) : allB (l.take (k + 1)) = allB (l.take k) ++ if okM l[k].1 = true then frm l[k].1 else [] := by
  unfold allB
  rw [good_take hk]
  split <;> simp
theorem putR_take {l : List MR} {k : Nat} (hk : k < l.length) : putR (l.take (k + 1)) = putR (l.take k) ++ if okM l[k].1 = true then [l[k].2] else [] := by
  unfold putR
  rw [good_take hk]
  split <;> simp
def weight : List MR → Nat
  | [] => 0
  | q :: r => 21 + sizeV q.1.2.2 + weight r
theorem allB_le : ∀ l : List MR, (allB l).length ≤ weight l
  | [] => by simp [allB, good, weight]
  | q :: r => by
    have ih := allB_le r
    unfold allB good at *
    simp only [List.filter_cons]
    split
    · rename_i h
      obtain ⟨g, _⟩ := frm_len h
      simp only [List.map_cons, List.flatten_cons, List.length_append, weight]
      omega
    · simp only [weight]; omega
theorem weight_take : ∀ (l : List MR) (k : Nat), weight (l.take k) ≤ weight l
  | [], k => by simp [weight]
  | q :: r, 0 => by simp [weight]
  | q :: r, k + 1 => by simp only [List.take_succ_cons, weight]; have := weight_take r k; omega
theorem weight_len : ∀ l : List MR, 21 * l.length ≤ weight l
  | [] => by simp [weight]
  | q :: r => by simp only [List.length_cons, weight]; have := weight_len r; omega

/-- One of the messages. -/
structure ElM (H : AH) (x i p : AV) (r : List AV) : Prop where
  idx : ∀ F, aidx Tryd.prog 62 x i F = F p
  load : ∀ F, aload Tryd.prog 27 p H F = F (.agg r)
theorem elM {rows : List (List AV)} {x : AV} (hx : RdS H 7 rows x) {k : Nat} (hk : k < rows.length) (hr : rows[k].length = 7) : ∃ p, ElM H x (.v (.int .i64 k)) p rows[k] := by
  obtain ⟨p, hp, _, hi⟩ := hx.idx vt62 hk
  refine ⟨p, hi, fun F => ?_⟩
  rw [hp.load]
  simp only [acut, Tryd.underlying27, Tryd.underlying26, isAggD, cl27, if_true, List.drop_zero]
  rw [List.take_of_length_le (by omega), hr]
  simp
end Go.Proofs.YtboojmppmaepmaaDoor
/- Messages that came in, with what they weigh. -/
namespace Go.Proofs.YtboojmppmaepmaaDoor
set_option maxHeartbeats 8000000
set_option linter.all false
set_option maxRecDepth 10000
open Go Go.Fw Go.ChangeShapes Go.WideShapes Go.ChangeAt Go.RowKit Go.Lib

section
variable {H : Type} {enc : TypeId × Value → H} {w : World}

/-- Pairwise. -/
def Pw (R : Nat → List AV → Prop) : List Nat → List (List AV) → Prop
  | [], rows => rows = []
  | b :: bs, rows => ∃ r rows', rows = r :: rows' ∧ R b r ∧ Pw R bs rows'
theorem pw_of {R : Nat → List AV → Prop} : ∀ (bs : List Nat) (rows : List (List AV)), bs.length = rows.length → (∀ (i : Nat) b r, bs[i]? = some b → rows[i]? = some r → R b r) → Pw R bs rows
  | [], [], _, _ => rfl
  | b :: bs, r :: rows, hl, h => ⟨r, rows, rfl, h 0 b r rfl rfl, pw_of bs rows (by simpa using hl) fun i b' r' h1 h2 => h (i + 1) b' r' (by simpa using h1) (by simpa using h2)⟩
theorem bulk_sum (l : List (DataW H)) : Rows.uptoBulkAll l = (l.map Rows.uptoBulk).sum := by
  induction l with
  | nil => rfl
  | cons x r ih => simp only [Rows.uptoBulkAll, List.map_cons, List.sum_cons, ih]
theorem slice_rows2 {t e : TypeId} {n : Nat} {cs : List Value} {d : DataW H} {ps : List MemPlace} {R : Nat → List AV → Prop} (ht : Tryd.prog.underlying t = some (.slice e)) (hz : Tryd.prog.cellsOf e ≠ 0) (h : tr enc Tryd.prog w n t cs = some (d, ps))
    (hel : ∀ m cs' d' p', m < n → cs'.length = Tryd.prog.cellsOf e → tr enc Tryd.prog w m e cs' = some (d', p') → ∃ r, (Rows.uptoBulk d' ≤ 1000000000 → R (Rows.uptoBulk d') r) ∧ RepL w r cs') :
    ∃ rows, RepL w [.imm (Tryd.prog.cellsOf e) rows] cs ∧ (Rows.uptoBulk d ≤ 1000000000 → rows.length ≤ 1000000000 ∧ ∃ bs : List Nat, bs.sum + 1 ≤ Rows.uptoBulk d ∧ Pw R bs rows) := by
  obtain ⟨rows, h1, _, h2⟩ := repL_slice (Q := fun d' r => Rows.uptoBulk d' ≤ 1000000000 → R (Rows.uptoBulk d') r) ht hz h hel
  refine ⟨rows, h1, fun hb => ?_⟩
  rcases h2 with ⟨rfl, rfl⟩ | ⟨el, sp, rfl, hl, hq⟩
  · exact ⟨by simp, [], by simp [Rows.uptoBulk], rfl⟩
  · have hs := slice_le (el := el) (sp := sp)
    refine ⟨by have := all_le el; omega, el.map Rows.uptoBulk, by rw [← bulk_sum]; exact hs, pw_of _ _ (by simpa using hl) fun i b r h1 h2 => ?_⟩
    simp only [List.getElem?_map, Option.map_eq_some_iff] at h1
    obtain ⟨d', hd', rfl⟩ := h1
    exact hq i _ _ hd' h2 (by have := le_all hd'; omega)

theorem rdVs_of2 {Hv : AH} : ∀ (bs : List Nat) (rows : List (List AV)), Pw (fun b r => ∃ v, RdV Hv v r ∧ sizeV v + 13 ≤ 20 * b) bs rows → ∃ l, RdVs Hv l rows ∧ ∀ i, i + l.length ≤ 10000000000 → sizeL i l ≤ 20 * bs.sum
  | [], rows, h => ⟨[], h, fun i _ => by simp [sizeL]⟩
  | b :: bs, rows, h => by
    obtain ⟨r, rows', rfl, ⟨v, hv, hs⟩, hp⟩ := h
    obtain ⟨l, hl, hsum⟩ := rdVs_of2 bs rows' hp
    refine ⟨v :: l, ⟨r, rows', rfl, hv, hl⟩, fun i hi => ?_⟩
    rw [List.length_cons] at hi
    have h1 := hsum (i + 1) (by omega)
    have h2 := itoa_short (k := i) (by omega)
    simp only [sizeL, List.sum_cons]
    omega
theorem rdFs_of2 {Hv : AH} : ∀ (bs : List Nat) (rows : List (List AV)), Pw (fun b r => ∃ nm v c, r = .v (.string (Go.Fw.bs nm)) :: c ∧ nm.length ≤ 1000000000 ∧ RdV Hv v c ∧ 2 + nm.length + sizeV v ≤ 20 * b) bs rows → ∃ l, RdFs Hv l rows ∧ sizeD l ≤ 20 * bs.sum
  | [], rows, h => ⟨[], h, by simp [sizeD]⟩
  | b :: bs, rows, h => by
    obtain ⟨r, rows', rfl, ⟨nm, v, c, rfl, hn, hv, hs⟩, hp⟩ := h
    obtain ⟨l, hl, hsum⟩ := rdFs_of2 bs rows' hp
    refine ⟨(nm, v) :: l, ⟨c, rows', rfl, hn, hv, hl⟩, ?_⟩
    simp only [sizeD, List.sum_cons]
    omega

theorem repL_value2 : ∀ (n : Nat) (cs : List Value) (d : DataW H) (ps : List MemPlace), tr enc Tryd.prog w n 25 cs = some (d, ps) →
    ∃ r, (Rows.uptoBulk d ≤ 1000000000 → ∃ v, RdV (fun _ => none) v r ∧ sizeV v + 13 ≤ 20 * Rows.uptoBulk d) ∧ RepL w r cs := by
  intro n
  induction n using Nat.strongRecOn with
  | ind n ih =>
    intro cs d ps h
    obtain ⟨m, ds, rfl, rfl, hc, hl, hf⟩ := tr_struct Tryd.underlying25 h
    rw [cl25] at hc
    obtain ⟨c0, c1, c2, c3, c4, rfl⟩ : ∃ c0 c1 c2 c3 c4, cs = [c0, c1, c2, c3, c4] := by
      match cs, hc with
      | [c0, c1, c2, c3, c4], _ => exact ⟨c0, c1, c2, c3, c4, rfl⟩
    obtain ⟨d0, _, i0, h0⟩ := hf 0 _ rfl
    obtain ⟨d1, _, i1, h1⟩ := hf 1 _ rfl
    obtain ⟨d2, _, i2, h2⟩ := hf 2 _ rfl
    obtain ⟨d3, _, i3, h3⟩ := hf 3 _ rfl
    obtain ⟨d4, _, i4, h4⟩ := hf 4 _ rfl
    simp only [List.getElem_toArray, List.getElem_cons_zero, List.getElem_cons_succ, cl3, cl9, cl22, cl23, List.drop_zero, List.drop_succ_cons, List.take_succ_cons, List.take_zero] at h0 h1 h2 h3 h4
    obtain ⟨z0, _, r0, w0⟩ := repL_int Tryd.underlying3 h0
    obtain ⟨z1, _, r1, w1⟩ := repL_int Tryd.underlying3 h1
    obtain ⟨s2, e2, r2, _⟩ := repL_string Tryd.underlying9 h2
    obtain ⟨rl, r3, q3⟩ := slice_rows2 (R := fun b r => ∃ v, RdV (fun _ => none) v r ∧ sizeV v + 13 ≤ 20 * b) Tryd.underlying22 (by rw [cl25]; decide) h3 (fun m' cs' d' p' hm _ h => ih m' (by omega) cs' d' p' h)
    obtain ⟨rd, r4, q4⟩ := slice_rows2 (R := fun b r => ∃ nm v c, r = .v (.string (Go.Fw.bs nm)) :: c ∧ nm.length ≤ 1000000000 ∧ RdV (fun _ => none) v c ∧ 2 + nm.length + sizeV v ≤ 20 * b) Tryd.underlying23 (by rw [cl66]; decide) h4 (fun m' cs' d' p' hm hcl h => by
      rw [cl66] at hcl
      obtain ⟨m2, ds2, rfl, rfl, _, hl2, hf2⟩ := tr_struct Tryd.underlying66 h
      obtain ⟨k0, k1, k2, k3, k4, k5, rfl⟩ : ∃ k0 k1 k2 k3 k4 k5, cs' = [k0, k1, k2, k3, k4, k5] := by
        match cs', hcl with
        | [k0, k1, k2, k3, k4, k5], _ => exact ⟨k0, k1, k2, k3, k4, k5, rfl⟩
      obtain ⟨e0, _, j0, g0⟩ := hf2 0 _ rfl
      obtain ⟨e1, _, j1, g1⟩ := hf2 1 _ rfl
      simp only [List.getElem_toArray, List.getElem_cons_zero, List.getElem_cons_succ, cl9, cl25, List.drop_zero, List.drop_succ_cons, List.take_succ_cons, List.take_zero] at g0 g1
      obtain ⟨nm, en, rn, _⟩ := repL_string Tryd.underlying9 g0
      obtain ⟨c, a1, a2⟩ := ih m2 (by omega) _ _ _ g1
      refine ⟨.v (.string nm) :: c, fun hb => ?_, rn.append a2⟩
      obtain ⟨ea, eb, rfl⟩ : ∃ ea eb, ds2 = [ea, eb] := by
        match ds2, hl2 with
        | [ea, eb], _ => exact ⟨ea, eb, rfl⟩
      simp only [List.getElem?_cons_zero, List.getElem?_cons_succ, Option.some.injEq] at j0 j1
      subst j0 j1
      rw [en] at hb ⊢
      simp only [Rows.uptoBulk, Rows.uptoBulkAll] at hb ⊢
      obtain ⟨v, hv, hs⟩ := a1 (by omega)
      have hnl : nm.data.toList.length = nm.size := by rw [Array.length_toList]; rfl
      refine ⟨nm.data.toList, v, c, by rw [bs_of], by omega, hv, by omega⟩)
    rw [cl25] at r3
    rw [cl66] at r4
    refine ⟨[.v (.int .i64 z0), .v (.int .i64 z1), .v (.string s2), .imm 5 rl, .imm 6 rd], fun hb => ?_, (((r0.append r1).append r2).append r3).append r4⟩
    obtain ⟨da, db, dc, dd, de, rfl⟩ : ∃ da db dc dd de, ds = [da, db, dc, dd, de] := by
      match ds, hl with
      | [da, db, dc, dd, de], _ => exact ⟨da, db, dc, dd, de, rfl⟩
    simp only [List.getElem?_cons_zero, List.getElem?_cons_succ, Option.some.injEq] at i0 i1 i2 i3 i4
    subst i0 i1 i2 i3 i4
    rw [e2] at hb ⊢
    simp only [Rows.uptoBulk, Rows.uptoBulkAll] at hb ⊢
    have p0 := one_le da
    have p1 := one_le db
    obtain ⟨p3, b3, s3, p3'⟩ := q3 (by omega)
    obtain ⟨p4, b4, s4, p4'⟩ := q4 (by omega)
    obtain ⟨lv, hlv, sl⟩ := rdVs_of2 b3 rl p3'
    obtain ⟨dv, hdv, sd⟩ := rdFs_of2 b4 rd p4'
    have n3 := hlv.len
    have n4 := hdv.len
    have sl0 := sl 0 (by omega)
    refine ⟨.mk z0 z1 s2.data.toList lv dv, ?_, ?_⟩
    · have := RdV.mk (H := fun _ => none) (k := z0) (i := z1) (t := s2.data.toList) (l := lv) (d := dv) (lit_wf w0) (lit_wf w1) (by omega) (by omega) (by omega) (.imm rl) (.imm rd) hlv hdv
      rw [bs_of] at this
      exact this
    · rw [sizeV]
      repeat' split
      all_goals omega

/-- Messages that came in. -/
theorem mr_of : ∀ (bs : List Nat) (rows : List (List AV)), Pw (fun b r => ∃ i j x, RdM (fun _ => none) i j x r ∧ 21 + sizeV x ≤ 40 * b) bs rows → ∃ l : List MR, rows = l.map (·.2) ∧ (∀ q ∈ l, RdM (fun _ => none) q.1.1 q.1.2.1 q.1.2.2 q.2) ∧ weight l ≤ 40 * bs.sum
  | [], rows, h => ⟨[], h, (fun q hq => by simp at hq), by simp [weight]⟩
  | b :: bs, rows, h => by
    obtain ⟨r, rows', rfl, ⟨i, j, x, hm, hs⟩, hp⟩ := h
    obtain ⟨l, rfl, g1, g2⟩ := mr_of bs rows' hp
    refine ⟨((i, j, x), r) :: l, rfl, fun q hq => ?_, ?_⟩
    · simp only [List.mem_cons] at hq
      rcases hq with rfl | hq
      · exact hm
      · exact g1 q hq
    · simp only [weight, List.sum_cons]
      omega
theorem rep_msgs2 {v : Value} {d : DataW H} {ps : List MemPlace} (hv : ∃ a l c, v = .slice a l c) (h : DataW.Trod enc Tryd.prog w 0 (fun _ => true) true 62 v d ps) :
    ∃ rows, Rep w (fun _ => False) (.imm 7 rows) v ∧ (Rows.uptoBulk d ≤ 10000000 → ∃ l : List MR, rows = l.map (·.2) ∧ (∀ q ∈ l, RdM (fun _ => none) q.1.1 q.1.2.1 q.1.2.2 q.2) ∧ weight l ≤ 500000000) := by
  obtain ⟨a, l, c, rfl⟩ := hv
  obtain ⟨n, h⟩ := h
  obtain ⟨rows, h1, h2⟩ := slice_rows2 (R := fun b r => ∃ i j x, RdM (fun _ => none) i j x r ∧ 21 + sizeV x ≤ 40 * b) Tryd.underlying62 (by rw [cl27]; decide) h (fun m cs' d' p' _ _ h => by
    obtain ⟨m2, ds, rfl, rfl, hc, hl, hf⟩ := tr_struct Tryd.underlying27 h
    rw [cl27] at hc
    obtain ⟨c0, c1, c2, c3, c4, c5, c6, rfl⟩ : ∃ c0 c1 c2 c3 c4 c5 c6, cs' = [c0, c1, c2, c3, c4, c5, c6] := by
      match cs', hc with
      | [c0, c1, c2, c3, c4, c5, c6], _ => exact ⟨c0, c1, c2, c3, c4, c5, c6, rfl⟩
    obtain ⟨d0, _, i0, h0⟩ := hf 0 _ rfl
    obtain ⟨d1, _, i1, h1⟩ := hf 1 _ rfl
    obtain ⟨d2, _, i2, h2⟩ := hf 2 _ rfl
    simp only [List.getElem_toArray, List.getElem_cons_zero, List.getElem_cons_succ, cl3, cl25, List.drop_zero, List.drop_succ_cons, List.take_succ_cons, List.take_zero] at h0 h1 h2
    obtain ⟨z0, _, r0, w0⟩ := repL_int Tryd.underlying3 h0
    obtain ⟨z1, _, r1, w1⟩ := repL_int Tryd.underlying3 h1
    obtain ⟨c, a1, a2⟩ := repL_value2 _ _ _ _ h2
    refine ⟨.v (.int .i64 z0) :: .v (.int .i64 z1) :: c, fun hb => ?_, (r0.append r1).append a2⟩
    simp only [Rows.uptoBulk] at hb ⊢
    have b2 := le_all i2
    obtain ⟨v, hv, hs⟩ := a1 (by omega)
    exact ⟨z0, z1, v, ⟨lit_wf w0, lit_wf w1, c, rfl, hv⟩, by omega⟩)
  rw [cl27] at h1
  refine ⟨rows, h1.single, fun hb => ?_⟩
  obtain ⟨_, bs, hs, hp⟩ := h2 (by omega)
  obtain ⟨l, g1, g2, g3⟩ := mr_of bs rows hp
  exact ⟨l, g1, g2, by omega⟩
end
theorem small_of2 {H : Type} {l gs : List (DataW H)} {i : Nat} {d : DataW H} (hd : l[i]? = some d) (hk : Rows.uptoSmall H (l ++ gs) = true) : Rows.uptoBulk d ≤ 10000000 := by
  have h := of_decide_eq_true hk
  have h2 := le_all (l := l ++ gs) (i := i) (d := d) (by rw [List.getElem?_append_left (List.getElem?_eq_some_iff.1 hd).1]; exact hd)
  omega
end Go.Proofs.YtboojmppmaepmaaDoor
/- Scripts that came in: what a reader is told to do, with what it weighs. -/
namespace Go.Proofs.YtboojmppmaepmaaDoor
set_option maxHeartbeats 8000000
set_option linter.all false
set_option maxRecDepth 10000
open Go Go.Fw Go.ChangeShapes Go.WideShapes Go.ChangeAt Go.RowKit Go.Lib

section
variable {H : Type} {enc : TypeId × Value → H} {w : World}

/-- One call of a script that came in. -/
def RowO (b : Nat) (r : List AV) : Prop := ∃ (z : Int) (l : Bs), r = [.v (.int .i64 z), .imm 1 (rowsB l)] ∧ l.length ≤ b ∧ 1 ≤ b
theorem ops_of : ∀ (bs : List Nat) (rows : List (List AV)), Pw RowO bs rows → ∃ ops : List (Int × Bs), rows = (ops.map fun o => [AV.v (.int .i64 o.1), .imm 1 (rowsB o.2)]) ∧ opsW ops ≤ bs.sum ∧ ops.length ≤ bs.sum
  | [], rows, h => ⟨[], h, by simp [opsW], by simp⟩
  | b :: bs, rows, h => by
    obtain ⟨r, rows', rfl, ⟨z, l, rfl, hl, hb⟩, hp⟩ := h
    obtain ⟨ops, rfl, g, g2⟩ := ops_of bs rows' hp
    refine ⟨(z, l) :: ops, rfl, ?_, ?_⟩
    · simp only [opsW, List.map_cons, List.sum_cons] at g ⊢
      omega
    · simp only [List.length_cons, List.sum_cons]
      omega
theorem rdO_of {Hv : AH} (ops : List (Int × Bs)) : RdO Hv ops (ops.map fun o => [AV.v (.int .i64 o.1), .imm 1 (rowsB o.2)]) :=
  ⟨by simp, fun k h1 h2 => ⟨.imm 1 (rowsB ops[k].2), by simp, .imm _⟩⟩
theorem repL_bytes2 {n : Nat} {cs : List Value} {d : DataW H} {ps : List MemPlace} (h : tr enc Tryd.prog w n 30 cs = some (d, ps)) :
    ∃ l : Bs, RepL w [.imm 1 (rowsB l)] cs ∧ l.length ≤ Rows.uptoBulk d := by
  obtain ⟨rows, h1, _, h2⟩ := repL_slice (Q := fun _ r => ∃ c : UInt8, r = [.v (.int .u8 c.toNat)]) Tryd.underlying30 (by rw [cl5]; decide) h (fun m cs' d' p' _ _ h => by
    obtain ⟨z, _, r, hw⟩ := repL_int Tryd.underlying5 h
    obtain ⟨g1, g2⟩ := u8_wf hw
    have e : ((UInt8.ofNat z.toNat).toNat : Int) = z := by rw [u8_ofNat]; omega
    exact ⟨[.v (.int .u8 z)], ⟨UInt8.ofNat z.toNat, by rw [e]⟩, r⟩)
  rw [cl5] at h1
  rcases h2 with ⟨_, rfl⟩ | ⟨el, sp, rfl, hl, hq⟩
  · exact ⟨[], h1, by simp⟩
  · obtain ⟨l, rfl⟩ := rowsB_of rows (by
      intro r hr
      obtain ⟨i, hi, rfl⟩ := List.getElem_of_mem hr
      exact hq i _ _ (List.getElem?_eq_getElem (by omega)) (List.getElem?_eq_getElem hi))
    refine ⟨l, h1, ?_⟩
    have := all_le el
    have := slice_le (el := el) (sp := sp)
    simp only [rowsB_length] at hl
    omega
theorem rep_ops {v : Value} {d : DataW H} {ps : List MemPlace} (hv : ∃ a l c, v = .slice a l c) (h : DataW.Trod enc Tryd.prog w 0 (fun _ => true) true 44 v d ps) :
    ∃ rows, Rep w (fun _ => False) (.imm 2 rows) v ∧ (Rows.uptoBulk d ≤ 10000000 → ∃ ops : List (Int × Bs), RdO (fun _ => none) ops rows ∧ ops.length ≤ 500000000 ∧ opsW ops ≤ 500000000) := by
  obtain ⟨a, l, c, rfl⟩ := hv
  obtain ⟨n, h⟩ := h
  obtain ⟨rows, h1, h2⟩ := slice_rows2 (R := RowO) Tryd.underlying44 (by rw [cl51]; decide) h (fun m cs' d' p' _ _ h => by
    obtain ⟨m2, ds, rfl, rfl, hc, hl, hf⟩ := tr_struct Tryd.underlying51 h
    rw [cl51] at hc
    obtain ⟨c0, c1, rfl⟩ : ∃ c0 c1, cs' = [c0, c1] := by
      match cs', hc with
      | [c0, c1], _ => exact ⟨c0, c1, rfl⟩
    obtain ⟨d0, _, i0, h0⟩ := hf 0 _ rfl
    obtain ⟨d1, _, i1, h1⟩ := hf 1 _ rfl
    simp only [List.getElem_toArray, List.getElem_cons_zero, List.getElem_cons_succ, cl3, cl30, List.drop_zero, List.drop_succ_cons, List.take_succ_cons, List.take_zero] at h0 h1
    obtain ⟨z0, _, r0, w0⟩ := repL_int Tryd.underlying3 h0
    obtain ⟨l, r1, hb1⟩ := repL_bytes2 h1
    refine ⟨[.v (.int .i64 z0), .imm 1 (rowsB l)], fun hb => ⟨z0, l, rfl, ?_, ?_⟩, r0.append r1⟩
    have b1 := le_all i1
    all_goals
      simp only [Rows.uptoBulk]
      omega)
  rw [cl51] at h1
  refine ⟨rows, h1.single, fun hb => ?_⟩
  obtain ⟨_, bs, hs, hp⟩ := h2 (by omega)
  obtain ⟨ops, rfl, g, g2⟩ := ops_of bs rows hp
  exact ⟨ops, rdO_of ops, by omega, by omega⟩
end
end Go.Proofs.YtboojmppmaepmaaDoor
