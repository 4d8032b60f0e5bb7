/- The walks and the plain laws that the row rests on, part 4: Yf Yg Yh Yi Yc Yk Yl Yj Ym. -/
import Derived.Test.YtboojmppmaepmaaDoorQ3
/- Bytes cut into frames: in whatever pieces they come. -/
namespace Go.Proofs.YtboojmppmaepmaaDoor
set_option maxHeartbeats 8000000
set_option linter.all false
open Go Go.Fw

def badHead (l : Bs) : Prop := 4 ≤ l.length ∧ lenOk (num l 0 4) = false
instance (l : Bs) : Decidable (badHead l) := by unfold badHead; infer_instance
def cut : Nat → Bs → List Bs × Bool
  | 0, _ => ([], false)
  | f + 1, l => if badHead l then ([], true) else if ready l = true then (l.take (num l 0 4) :: (cut f (l.drop (num l 0 4))).1, (cut f (l.drop (num l 0 4))).2) else ([], false)
def cutF (l : Bs) : List Bs × Bool := cut (l.length + 1) l

theorem ready_iff {l : Bs} : ready l = true ↔ 4 ≤ l.length ∧ num l 0 4 ≤ l.length := by simp [ready]
theorem good_len {l : Bs} (h : ¬ badHead l) (h4 : 4 ≤ l.length) : 26 ≤ num l 0 4 ∧ num l 0 4 ≤ 131072 := by
  have : lenOk (num l 0 4) = true := by
    cases e : lenOk (num l 0 4)
    · exact absurd ⟨h4, e⟩ h
    · rfl
  simp only [lenOk, Bool.and_eq_true, decide_eq_true_eq] at this
  omega
theorem cut_fuel : ∀ (f g : Nat) (l : Bs), l.length < f → l.length < g → cut f l = cut g l := by
  intro f
  induction f with
  | zero => intro g l h; omega
  | succ f ih =>
    intro g l hf hg
    obtain ⟨g, rfl⟩ : ∃ g', g = g' + 1 := ⟨g - 1, by omega⟩
    simp only [cut]
    by_cases hb : badHead l
    · rw [if_pos hb, if_pos hb]
    · rw [if_neg hb, if_neg hb]
      by_cases hr : ready l = true
      · obtain ⟨r1, r2⟩ := ready_iff.1 hr
        have := good_len hb r1
        rw [if_pos hr, if_pos hr, ih g (l.drop (num l 0 4)) (by simp; omega) (by simp; omega)]
      · rw [if_neg hr, if_neg hr]
theorem cutF_eq (l : Bs) : cutF l = if badHead l then ([], true) else if ready l = true then (l.take (num l 0 4) :: (cutF (l.drop (num l 0 4))).1, (cutF (l.drop (num l 0 4))).2) else ([], false) := by
  unfold cutF
  conv => lhs; unfold cut
  by_cases hb : badHead l
  · rw [if_pos hb, if_pos hb]
  · rw [if_neg hb, if_neg hb]
    by_cases hr : ready l = true
    · obtain ⟨r1, r2⟩ := ready_iff.1 hr
      have := good_len hb r1
      rw [if_pos hr, if_pos hr, cut_fuel l.length ((l.drop (num l 0 4)).length + 1) _ (by simp; omega) (by omega)]
    · rw [if_neg hr, if_neg hr]

theorem num_app {l r : Bs} (h : 4 ≤ l.length) : num (l ++ r) 0 4 = num l 0 4 := by
  unfold num
  rw [List.drop_zero, List.drop_zero, List.take_append_of_le_length (by omega)]
theorem bad_app {l r : Bs} (h : badHead l) : badHead (l ++ r) := ⟨by rw [List.length_append]; have := h.1; omega, by rw [num_app h.1]; exact h.2⟩
theorem bad_of_app {l r : Bs} (h4 : 4 ≤ l.length) (h : badHead (l ++ r)) : badHead l := ⟨h4, by have := h.2; rwa [num_app h4] at this⟩

/-- What is known of the reading of b, when the frames fs are told, the reader holds l, and rest is still to come. -/
structure Cut (b : Bs) (fs : List Bs) (l : Bs) (gone : Bool) (rest : Bs) : Prop where
  few : 26 * fs.length + l.length + rest.length ≤ b.length
  going : gone = false → ¬ badHead l ∧ cutF b = (fs ++ (cutF (l ++ rest)).1, (cutF (l ++ rest)).2)
  stopped : gone = true → l = [] ∧ cutF b = (fs, true)

theorem Cut.start (b : Bs) : Cut b [] [] false b :=
  ⟨by simp, fun _ => ⟨(fun h => by have := h.1; simp at this), by simp⟩, (fun h => by cases h)⟩
theorem settle_bad {l : Bs} {g : Bool} (h : badHead l) : settle l g = ([], true) := if_pos h
theorem settle_good {l : Bs} {g : Bool} (h : ¬ badHead l) : settle l g = (l, g) := if_neg h
/-- Bytes come. -/
theorem Cut.feed {b : Bs} {fs : List Bs} {l p r : Bs} {gone : Bool} (h : Cut b fs l gone (p ++ r)) : Cut b fs (feed l gone p).1 (feed l gone p).2 r := by
  have hf := h.few
  rw [List.length_append] at hf
  unfold Go.Proofs.YtboojmppmaepmaaDoor.feed
  cases gone with
  | true =>
    rw [if_pos rfl]
    obtain ⟨g1, g2⟩ := h.stopped rfl
    exact ⟨by simp only; omega, (fun e => by cases e), fun _ => ⟨g1, g2⟩⟩
  | false =>
    rw [if_neg (by simp)]
    obtain ⟨g1, g2⟩ := h.going rfl
    by_cases hb : badHead (l ++ p)
    · rw [settle_bad hb]
      have hb2 : badHead (l ++ (p ++ r)) := by rw [← List.append_assoc]; exact bad_app hb
      refine ⟨by simp only [List.length_nil]; omega, (fun e => by cases e), fun _ => ⟨rfl, ?_⟩⟩
      rw [g2, cutF_eq, if_pos hb2]
      simp
    · rw [settle_good hb]
      refine ⟨by simp only [List.length_append]; omega, fun _ => ⟨hb, ?_⟩, fun e => (by simp at e)⟩
      rw [g2, List.append_assoc]
/-- A frame is told. -/
theorem Cut.next {b : Bs} {fs : List Bs} {l r : Bs} {gone : Bool} (h : Cut b fs l gone r) (hr : ready l = true) :
    gone = false ∧ 26 ≤ num l 0 4 ∧ num l 0 4 ≤ l.length ∧ Cut b (fs ++ [l.take (num l 0 4)]) (settle (l.drop (num l 0 4)) gone).1 (settle (l.drop (num l 0 4)) gone).2 r := by
  obtain ⟨r1, r2⟩ := ready_iff.1 hr
  have hf := h.few
  cases gone with
  | true =>
    obtain ⟨g1, _⟩ := h.stopped rfl
    rw [g1] at r1; simp at r1
  | false =>
    obtain ⟨g1, g2⟩ := h.going rfl
    obtain ⟨n1, n2⟩ := good_len g1 r1
    have hng : ¬ badHead (l ++ r) := fun hb => g1 (bad_of_app r1 hb)
    have hre : ready (l ++ r) = true := ready_iff.2 ⟨by rw [List.length_append]; omega, by rw [num_app r1, List.length_append]; omega⟩
    have hstep : cutF (l ++ r) = (l.take (num l 0 4) :: (cutF (l.drop (num l 0 4) ++ r)).1, (cutF (l.drop (num l 0 4) ++ r)).2) := by
      rw [cutF_eq, if_neg hng, if_pos hre, num_app r1, List.take_append_of_le_length r2, List.drop_append_of_le_length r2]
    refine ⟨rfl, n1, r2, ?_⟩
    by_cases hb : badHead (l.drop (num l 0 4))
    · rw [settle_bad hb]
      refine ⟨by simp only [List.length_nil, List.length_append, List.length_cons]; omega, (fun e => by cases e), fun _ => ⟨rfl, ?_⟩⟩
      rw [g2, hstep, cutF_eq (l.drop (num l 0 4) ++ r), if_pos (bad_app hb)]
    · rw [settle_good hb]
      refine ⟨by simp only [List.length_drop, List.length_append, List.length_cons, List.length_nil]; omega, fun _ => ⟨hb, ?_⟩, fun e => (by simp at e)⟩
      rw [g2, hstep]
      simp
/-- No more comes. -/
theorem Cut.done {b : Bs} {fs : List Bs} {l : Bs} {gone : Bool} (h : Cut b fs l gone []) (hr : ready l = false) : cutF b = (fs, gone) := by
  cases gone with
  | true => exact (h.stopped rfl).2
  | false =>
    obtain ⟨g1, g2⟩ := h.going rfl
    rw [g2, List.append_nil, cutF_eq, if_neg g1, hr]
    simp

/-- The frames stand one behind another at the head. -/
theorem cut_flat : ∀ (m : Nat) (b : Bs), b.length < m → ∃ r, b = (cutF b).1.flatten ++ r ∧ ∀ f ∈ (cutF b).1, 26 ≤ f.length := by
  intro m
  induction m with
  | zero => intro b h; omega
  | succ m ih =>
    intro b h
    rw [cutF_eq]
    by_cases hb : badHead b
    · rw [if_pos hb]
      exact ⟨b, by simp, fun f hf => by simp at hf⟩
    · rw [if_neg hb]
      by_cases hr : ready b = true
      · obtain ⟨r1, r2⟩ := ready_iff.1 hr
        obtain ⟨n1, n2⟩ := good_len hb r1
        rw [if_pos hr]
        obtain ⟨r, g1, g2⟩ := ih (b.drop (num b 0 4)) (by simp; omega)
        refine ⟨r, ?_, ?_⟩
        · simp only [List.flatten_cons, List.append_assoc]
          rw [← g1, List.take_append_drop]
        · intro f hf
          simp only [List.mem_cons] at hf
          rcases hf with rfl | hf
          · simp; omega
          · exact g2 f hf
      · rw [if_neg hr]
        exact ⟨b, by simp, fun f hf => by simp at hf⟩
end Go.Proofs.YtboojmppmaepmaaDoor
/- All frames that a reader tells: what is kept. -/
namespace Go.Proofs.YtboojmppmaepmaaDoor
set_option maxHeartbeats 8000000
set_option linter.all false
open Go Go.Fw
attribute [local irreducible] Reg RegD seqK blockK loopK retK panK
set_option maxRecDepth 10000

variable {H : AH} {K : AV → AH → Prop} {J : Value → AH → Prop}

/-- These rows are slices of these bytes. -/
def RdBs (H : AH) : List Bs → List (List AV) → Prop
  | [], r => r = []
  | f :: l, r => ∃ x r', r = [x] :: r' ∧ RdS H 1 (rowsB f) x ∧ RdBs H l r'
theorem RdBs.len {l : List Bs} : ∀ {r : List (List AV)}, RdBs H l r → r.length = l.length := by
  induction l with
  | nil => intro r h; simp only [RdBs] at h; subst h; rfl
  | cons v l ih =>
    intro r h
    obtain ⟨c, r', rfl, _, h2⟩ := h
    simp [ih h2]
theorem RdBs.get {l : List Bs} : ∀ {r : List (List AV)}, RdBs H l r → ∀ (k : Nat) (h1 : k < l.length) (h2 : k < r.length), ∃ x, r[k] = [x] ∧ RdS H 1 (rowsB l[k]) x := by
  induction l with
  | nil => intro r h k h1; simp at h1
  | cons v l ih =>
    intro r h k h1 h2
    obtain ⟨c, r', rfl, hv, hl⟩ := h
    cases k with
    | zero => exact ⟨c, rfl, hv⟩
    | succ k => exact ih hl k (by simpa using h1) (by simpa using h2)
theorem RdBs.snoc {l : List Bs} {f : Bs} {x : AV} : ∀ {r : List (List AV)}, RdBs H l r → RdS H 1 (rowsB f) x → RdBs H (l ++ [f]) (r ++ [[x]]) := by
  induction l with
  | nil => intro r h k; simp only [RdBs] at h; subst h; exact ⟨x, [], rfl, k, rfl⟩
  | cons v l ih =>
    intro r h k
    obtain ⟨c, r', rfl, hv, hl⟩ := h
    exact ⟨c, r' ++ [[x]], rfl, hv, ih hl k⟩
theorem RdBs.mono {H1 : AH} (hle : Le H H1) : ∀ {l : List Bs} {r : List (List AV)}, RdBs H l r → RdBs H1 l r
  | [], r, h => h
  | f :: l, r, h => by
    obtain ⟨c, r', rfl, hv, hl⟩ := h
    exact ⟨c, r', rfl, hv.mono hle, RdBs.mono hle hl⟩

/-- A reader at work: apart from what was there before (H0); what it told lies in Hv. -/
structure Told (H0 H : AH) (p : Nat) (xr : AV) (l : Bs) (gone : Bool) (xo : AV) (rows : List (List AV)) (Hv : AH) (fs : List Bs) : Prop where
  rdr : Rdr H p xr l gone
  le : Le H0 H
  np : H0 p = none
  nx : ∀ c, xr.blk = some c → H0 c = none
  out : Ow H 1 rows xo
  no : ∀ c, xo.blk = some c → H0 c = none ∧ c ≠ p ∧ xr.blk ≠ some c
  bs : RdBs Hv fs rows
  ap : Apart H0 Hv
  lv : Le Hv H
  vp : Hv p = none
  vx : ∀ c, xr.blk = some c → Hv c = none
  vo : ∀ c, xo.blk = some c → Hv c = none

theorem Told.start {H0 H : AH} {p : Nat} (r : Rdr H p (.v (.slice none 0 0)) [] false) (e : Le H0 H) (np : H0 p = none) : Told H0 H p (.v (.slice none 0 0)) [] false (.v (.slice none 0 0)) [] (fun _ => none) [] :=
  ⟨r, e, np, (fun c h => by cases h), .nil, (fun c h => by cases h), rfl, (fun _ _ _ => rfl), (fun _ _ h => by cases h), rfl, (fun _ _ => rfl), (fun _ _ => rfl)⟩

/-- A call on the reader. -/
theorem Told.went {H0 H H' : AH} {p : Nat} {xr xr' : AV} {l l' : Bs} {g g' : Bool} {xo : AV} {rows : List (List AV)} {Hv : AH} {fs : List Bs} (h : Told H0 H p xr l g xo rows Hv fs) (w : Went p H xr H' xr') (r : Rdr H' p xr' l' g') :
    Told H0 H' p xr' l' g' xo rows Hv fs := by
  have keep : ∀ c o, H c = some o → c ≠ p → xr.blk ≠ some c → H' c = some o := w.keep
  have new : ∀ c, xr'.blk = some c → c = p ∨ xr.blk = some c ∨ H c = none := w.new
  refine ⟨r, fun c o hc => keep c o (h.le c o hc) (fun e => by rw [e, h.np] at hc; cases hc) (fun e => by rw [h.nx c e] at hc; cases hc), h.np, fun c hc => ?_, ?_, fun c hc => ⟨(h.no c hc).1, (h.no c hc).2.1, fun e => ?_⟩, h.bs, h.ap, fun c o hc => keep c o (h.lv c o hc) (fun e => by rw [e, h.vp] at hc; cases hc) (fun e => by rw [h.vx c e] at hc; cases hc), h.vp, fun c hc => ?_, h.vo⟩
  · rcases new c hc with e | e | e
    · rw [e]; exact h.np
    · exact h.nx c e
    · exact h.le.none e
  · refine h.out.keep fun c hc => ?_
    obtain ⟨_, n2, n3⟩ := h.no c hc
    rw [keep c _ (h.out.atb hc) n2 n3, h.out.atb hc]
  · obtain ⟨_, n2, n3⟩ := h.no c hc
    rcases new c e with e | e | e
    · exact n2 e
    · exact n3 e
    · rw [h.out.atb hc] at e; cases e
  · rcases new c hc with e | e | e
    · rw [e]; exact h.vp
    · exact h.vx c e
    · exact h.lv.none e

/-- A frame is put to those that were told. -/
theorem Told.put {H0 H H' : AH} {p : Nat} {xr xr' : AV} {l l' : Bs} {g g' : Bool} {xo fx : AV} {rows : List (List AV)} {Hv : AH} {fs : List Bs} {f : Bs} (h : Told H0 H p xr l g xo rows Hv fs) (w : Went p H xr H' xr') (r : Rdr H' p xr' l' g')
    (of : Ow H' 1 (rowsB f) fx) (nf : ∀ c, fx.blk = some c → H c = none ∧ xr'.blk ≠ some c) (hb : rows.length ≤ 1000000000) :
    ∃ Hb, On Hb 1 rows H' xo ∧ ∀ xo' H'', On Hb 1 (rows ++ [[fx]]) H'' xo' → ∃ Hv', Told H0 H'' p xr' l' g' xo' (rows ++ [[fx]]) Hv' (fs ++ [f]) := by
  have h' := h.went w r
  obtain ⟨Hb, hon, hsame⟩ := h'.out.on
  refine ⟨Hb, hon, fun xo' H'' hon' => ?_⟩
  have T := hon.turned hon'
  have hxo : ∀ c, xo.blk = some c → ∃ o, H c = some o := fun c hc => ⟨_, h.out.atb hc⟩
  have keepv : ∀ c o, Hv c = some o → H'' c = some o := fun c o hc => T.keep c o (h'.lv c o hc) (fun e => by rw [h'.vo c e] at hc; cases hc)
  have keepf : ∀ c, fx.blk = some c → H'' c = some ⟨1, rowsB f⟩ := fun c hc => T.keep c _ (of.atb hc) (fun e => by
    obtain ⟨o, ho⟩ := hxo c e
    rw [(nf c hc).1] at ho; cases ho)
  have hfp : ∀ c, fx.blk = some c → c ≠ p := fun c hc e => by have := (nf c hc).1; rw [e, h.rdr.at_] at this; cases this
  have hvf : ∀ c, fx.blk = some c → Hv c = none := fun c hc => h.lv.none (nf c hc).1
  obtain ⟨Hf, hHf⟩ : ∃ Hf : AH, ∀ c, Hf c = if fx.blk = some c then H'' c else none := ⟨fun c => if fx.blk = some c then H'' c else none, fun c => rfl⟩
  have lf : Le Hf H'' := fun c o hc => by
    rw [hHf] at hc
    split at hc
    · exact hc
    · cases hc
  have ff : ∀ c, fx.blk = some c → Hf c = some ⟨1, rowsB f⟩ := fun c hc => by rw [hHf, if_pos hc, keepf c hc]
  have fn : ∀ c, fx.blk ≠ some c → Hf c = none := fun c hc => by rw [hHf, if_neg hc]
  have dis : ∀ c o, Hf c = some o → Hv c = none := fun c o hc => by
    by_cases e : fx.blk = some c
    · exact hvf c e
    · rw [fn c e] at hc; cases hc
  have rf : RdS Hf 1 (rowsB f) fx := of.rd.keep fun c hc => by rw [ff c hc, of.atb hc]
  refine ⟨orH Hv Hf, ⟨⟨T.keep p _ h'.rdr.at_ (fun e => (h'.no p e).2.1 rfl), h'.rdr.vec.keep fun c hc => ?_, h'.rdr.few⟩, fun c o hc => T.keep c o (h'.le c o hc) (fun e => by rw [(h'.no c e).1] at hc; cases hc), h.np, h'.nx, hon'.ow, fun c hc => ?_,
    (h.bs.mono (orH_l _ _)).snoc (rf.mono (orH_r dis)), fun c o hc => ?_, orH_le (fun c o hc => keepv c o hc) lf, ?_, fun c hc => ?_, fun c hc => ?_⟩⟩
  · rw [T.keep c _ (h'.rdr.vec.atb hc) (fun e => (h'.no c e).2.2 hc), h'.rdr.vec.atb hc]
  · rcases T.new c hc with e | e
    · exact h'.no c e
    · refine ⟨h'.le.none e, fun e2 => ?_, fun e2 => ?_⟩
      · rw [e2, h'.rdr.at_] at e; cases e
      · rw [h'.rdr.vec.atb e2] at e; cases e
  · refine orH_none (h.ap c o hc) (fn c fun e => ?_)
    have := h.le.none (nf c e).1
    rw [this] at hc; cases hc
  · exact orH_none h.vp (fn p fun e => hfp p e rfl)
  · exact orH_none (h'.vx c hc) (fn c fun e => (nf c e).2 hc)
  · rcases T.new c hc with e | e
    · refine orH_none (h.vo c e) (fn c fun e2 => ?_)
      obtain ⟨o, ho⟩ := hxo c e
      rw [(nf c e2).1] at ho; cases ho
    · refine orH_none (h'.lv.none e) (fn c fun e2 => ?_)
      rw [of.atb e2] at e; cases e
end Go.Proofs.YtboojmppmaepmaaDoor
/- All frames that a reader tells: the walk. -/
namespace Go.Proofs.YtboojmppmaepmaaDoor
set_option maxHeartbeats 8000000
set_option linter.all false
open Go Go.Fw
attribute [local irreducible] Reg RegD seqK blockK loopK retK panK
set_option maxRecDepth 10000

variable {H : AH} {K : AV → AH → Prop} {J : Value → AH → Prop}

def rowsI (l : List Int) : List (List AV) := l.map fun z => [AV.v (.int .i64 z)]
@[simp] theorem rowsI_length (l : List Int) : (rowsI l).length = l.length := by simp [rowsI]
theorem elI {H : AH} {l : List Int} {x : AV} (hx : RdS H 1 (rowsI l) x) {k : Nat} (hk : k < l.length) : ∃ p, (∀ F, aidx Tryd.prog 58 x (.v (.int .i64 k)) F = F p) ∧ ∀ F, aload Tryd.prog 3 p H F = F (.v (.int .i64 l[k])) := by
  obtain ⟨p, hp, _, hi⟩ := hx.idx vt58 (k := k) (by simpa using hk)
  refine ⟨p, hi, fun F => ?_⟩
  rw [hp.load]
  simp [acut, Tryd.underlying3, isAggD, rowsI]
theorem band63 (z : Int) : ∃ q : Nat, q ≤ 63 ∧ IntKind.i64.wrap (band .i64 z 63) = (q : Int) := by
  have h : (BitVec.ofInt 64 z &&& BitVec.ofInt 64 63).toNat ≤ 63 := by
    rw [BitVec.toNat_and]
    exact Nat.and_le_right
  refine ⟨(BitVec.ofInt 64 z &&& BitVec.ofInt 64 63).toNat, h, ?_⟩
  show IntKind.i64.wrap (((BitVec.ofInt 64 z &&& BitVec.ofInt 64 63).toNat : Nat) : Int) = _
  rw [wrap_of] <;> omega

theorem told_ok {b : Bs} {zs : List Int} {xb xs : AV} {between : Bool} (hx : RdS H 1 (rowsB b) xb) (hb : b.length ≤ 1000000000) (hz : RdS H 1 (rowsI zs) xs) (hzl : zs.length ≤ 1000000000)
    (hk : ∀ H' xo rows, Le H H' → RdS H' 1 rows xo → RdBs H' (cutF b).1 rows → K (.tup [xo, .v (.bool (cutF b).2)]) H') : CallX Tryd.prog 29 [xb, xs, .v (.bool between)] H K J := by
  refine CallX.of_body Tryd.func29 nm29 rfl ?_; simp only [Tryd.ntmps29, List.length_cons, List.length_nil, argSt, Nat.reduceAdd, Nat.reduceSub]
  repeat' (first | ((first | refine Z.W0 ?_ | refine Z.X0 ?_); simp only [go_sem, seval]) | (refine hF _ _ ?_; clear hF F) | (refine Z.p0 ?_; simp only [St.put]) | refine Z.a0 ?_ | refine Z.b0 ?_ | refine Z.c0 ?_ | refine Z.h0 ?_ | refine Z.q0 rfl rfl fun F hF => ?_)
  refine new_ok fun H1 p e1 np r1 => ?_
  (refine hF _ _ ?_; clear hF F)
  repeat' (first | ((first | refine Z.W0 ?_ | refine Z.X0 ?_); simp only [go_sem, seval]) | (refine hF _ _ ?_; clear hF F) | (refine Z.p0 ?_; simp only [St.put]) | refine Z.a0 ?_ | refine Z.b0 ?_ | refine Z.c0 ?_ | refine Z.h0 ?_ | refine Z.l0 ?_ | refine Z.q0 rfl rfl fun F hF => ?_)
  refine W_loop [0, 1, 2, 8, 9, 10] (fun n s Hc => ∃ (i : Nat) (rest l : Bs) (gone : Bool) (z xr xo : AV) (rows : List (List AV)) (Hv : AH) (fs : List Bs), n = (zs.length - i) + rest.length ∧ i ≤ zs.length + 1 ∧ (i = zs.length + 1 → rest = []) ∧ RdS H 1 (rowsB rest) z ∧ Told H Hc p xr l gone xo rows Hv fs ∧ Cut b fs l gone rest ∧
    s = [(0, z), (1, xs), (2, .v (.bool between)), (8, .ptr p 2 0 0), (9, xo), (10, .v (.int .i64 i))]) (zs.length + b.length) ?_ ?_
  · simp only [St.keep, St.get, reduceIte, Nat.reduceEqDiff]
    exact ⟨0, b, [], false, xb, _, _, [], _, [], by omega, by omega, (fun h => by omega), hx, Told.start r1 e1 np, Cut.start b, rfl⟩
  clear r1 e1 H1
  rintro n s Hc ⟨i, rest, l, gone, z, xr, xo, rows, Hv, fs, rfl, hi, hi2, hzr, TT, CC, rfl⟩
  have few := CC.few
  have lz := lenB (hzr.mono TT.le)
  have lzs := (hz.mono TT.le).len vt58
  rw [rowsI_length] at lzs
  by_cases hre : rest.length = 0
  case pos =>
    obtain rfl : rest = [] := List.eq_nil_of_length_eq_zero hre
    have d0 : decide ((([] : Bs).length : Int) > 0) = false := by simp
    repeat' (first | ((first | refine Z.W0 ?_ | refine Z.X0 ?_); simp only [go_sem, seval, lz, d0]) | (refine hF _ _ ?_; clear hF F) | (refine Z.p0 ?_; simp only [St.put]) | refine Z.a0 ?_ | refine Z.b0 ?_ | refine Z.c0 ?_ | refine Z.e0 ?_ | refine Z.h0 ?_ | refine Z.k0 ?_ | refine Z.l0 ?_ | refine Z.o0 ?_ | refine Z.q0 rfl rfl fun F hF => ?_ | refine Z.U0 rfl ?_)
    clear lz lzs
    refine W_loop [8, 9] (fun n s Hc => ∃ (l : Bs) (gone : Bool) (xr xo : AV) (rows : List (List AV)) (Hv : AH) (fs : List Bs), n = l.length ∧ Told H Hc p xr l gone xo rows Hv fs ∧ Cut b fs l gone [] ∧ s = [(8, .ptr p 2 0 0), (9, xo)]) l.length ?_ ?_
    · simp only [St.keep, St.get, reduceIte, Nat.reduceEqDiff]
      exact ⟨l, gone, xr, xo, rows, Hv, fs, rfl, TT, CC, rfl⟩
    clear TT CC few
    rintro n s Hc ⟨l, gone, xr, xo, rows, Hv, fs, rfl, TT, CC, rfl⟩
    have few := CC.few
    have hrl := TT.bs.len
    cases hr : ready l
    · repeat' (first | ((first | refine Z.W0 ?_ | refine Z.X0 ?_); simp only [go_sem, seval]) | (refine hF _ _ ?_; clear hF F) | refine Z.a0 ?_ | refine Z.b0 ?_ | refine Z.h0 ?_ | refine Z.l0 ?_ | refine Z.q0 rfl rfl fun F hF => ?_)
      refine next_none TT.rdr hr ?_
      (refine hF _ _ ?_; clear hF F)
      repeat' (first | ((first | refine Z.W0 ?_ | refine Z.X0 ?_); simp only [go_sem, seval]) | (refine hF _ _ ?_; clear hF F) | (refine Z.p0 ?_; simp only [St.put]) | refine Z.a0 ?_ | refine Z.b0 ?_ | refine Z.c0 ?_ | refine Z.h0 ?_ | refine Z.q0 rfl rfl fun F hF => ?_ | refine Z.T0 rfl ?_)
      refine broken_ok TT.rdr ?_
      (refine hF _ _ ?_; clear hF F)
      repeat' (first | ((first | refine Z.W0 ?_ | refine Z.X0 ?_); simp only [go_sem, seval]) | (refine hF _ _ ?_; clear hF F) | (refine Z.p0 ?_; simp only [St.put]) | refine Z.c0 ?_ | refine Z.d0 ?_ | refine Z.g0 ?_ | refine Z.h0 ?_ | refine Z.j0 ?_ | refine Z.n0 ?_ | refine Z.q0 rfl rfl fun F hF => ?_)
      simp only [retK, ares, pack, Tryd.results29, St.get, reduceIte, Nat.reduceEqDiff, aload, arow, List.toArray, Array.toList]
      have hd := CC.done hr
      rw [hd] at hk
      exact hk _ _ _ TT.le TT.out.rd (TT.bs.mono TT.lv)
    · obtain ⟨g1, g2, g3, CC'⟩ := CC.next hr
      repeat' (first | ((first | refine Z.W0 ?_ | refine Z.X0 ?_); simp only [go_sem, seval]) | (refine hF _ _ ?_; clear hF F) | refine Z.a0 ?_ | refine Z.b0 ?_ | refine Z.h0 ?_ | refine Z.l0 ?_ | refine Z.q0 rfl rfl fun F hF => ?_)
      refine next_some TT.rdr hr fun H2 xr2 fx w2 r2 of nf => ?_
      obtain ⟨Hb, hon, hput⟩ := TT.put w2 r2 of nf (by omega)
      (refine hF _ _ ?_; clear hF F)
      repeat' (first | ((first | refine Z.W0 ?_ | refine Z.X0 ?_); simp only [go_sem, seval, of.cell, of.rd.cells]) | (refine hF _ _ ?_; clear hF F) | (refine Z.p0 ?_; simp only [St.put]) | refine Z.a0 ?_ | refine Z.b0 ?_ | refine Z.c0 ?_ | refine Z.h0 ?_ | refine Z.m0 ?_ | refine Z.q0 rfl rfl fun F hF => ?_ | refine Z.U0 rfl ?_)
      refine hon.app vt36 rfl rfl Tryd.underlying36 (fun k => by simp) (fun G => by simp [asrc]; rfl) (by simp; omega) fun xo' H3 hx' => ?_
      obtain ⟨Hv', TT'⟩ := hput _ _ hx'
      (refine hF _ _ ?_; clear hF F)
      repeat' (first | ((first | refine Z.W0 ?_ | refine Z.X0 ?_); simp only [go_sem, seval]) | (refine hF _ _ ?_; clear hF F) | (refine Z.p0 ?_; simp only [St.put]) | refine Z.f0 ?_ | refine Z.h0 ?_ | refine Z.q0 rfl rfl fun F hF => ?_)
      simp only [loopK]
      simp only [St.keep, St.get, reduceIte, Nat.reduceEqDiff]
      have h5 : (settle (l.drop (num l 0 4)) gone).1.length < l.length := by
        have h6 := CC'.few
        simp only [List.length_append, List.length_cons, List.length_nil] at h6
        unfold settle
        split
        · simp only [List.length_nil]; omega
        · simp only [List.length_drop]; omega
      exact ⟨_, h5, _, _, xr2, xo', _, Hv', _, rfl, TT', CC', rfl⟩
  have d0 : decide ((rest.length : Int) > 0) = true := by simp; omega
  have tl : ∀ (l : Bs) (gone : Bool) (g3 : num l 0 4 ≤ l.length) (g2 : 26 ≤ num l 0 4), (settle (l.drop (num l 0 4)) gone).1.length < l.length := by
    intro l gone g3 g2
    unfold settle
    split
    · simp only [List.length_nil]; omega
    · simp only [List.length_drop]; omega
  have wi : IntKind.i64.wrap ((i : Int) + 1) = ((i + 1 : Nat) : Int) := by rw [wrap_of] <;> omega
  by_cases hlt : i < zs.length
  case' pos =>
    have d1 : decide ((i : Int) < (zs.length : Int)) = true := by simp; omega
    obtain ⟨pe, E1, E2⟩ := elI (hz.mono TT.le) hlt
    obtain ⟨q, hq63, hq⟩ := band63 zs[i]
    obtain ⟨m, hm⟩ : ∃ m, m = min q rest.length := ⟨_, rfl⟩
    have hmin : (if (rest.length : Int) < (q : Int) then (rest.length : Int) else (q : Int)) = (m : Int) := by
      rw [hm]
      split <;> omega
    have hml : m ≤ rest.length := by omega
    have hdec : (zs.length - (i + 1)) + (rest.length - m) < (zs.length - i) + rest.length := by omega
    have hend : i + 1 = zs.length + 1 → rest.drop m = [] := by omega
    have hle1 : i + 1 ≤ zs.length + 1 := by omega
    repeat' (first | ((first | refine Z.W0 ?_ | refine Z.X0 ?_); simp only [go_sem, seval, lz, lzs, d0, d1, E1, E2, hq, hmin]) | (refine hF _ _ ?_; clear hF F) | (refine Z.p0 ?_; simp only [St.put]) | refine Z.a0 ?_ | refine Z.b0 ?_ | refine Z.c0 ?_ | refine Z.h0 ?_ | refine Z.l0 ?_ | refine Z.m0 ?_ | refine Z.q0 rfl rfl fun F hF => ?_ | refine Z.T0 rfl ?_)
  case' neg =>
    have d1 : decide ((i : Int) < (zs.length : Int)) = false := by simp; omega
    obtain ⟨m, hm⟩ : ∃ m, m = rest.length := ⟨_, rfl⟩
    have hml : m ≤ rest.length := by omega
    have hdec : (zs.length - (i + 1)) + (rest.length - m) < (zs.length - i) + rest.length := by omega
    have hi4 : i ≤ zs.length := by
      by_cases e : i = zs.length + 1
      · exact absurd (by rw [hi2 e]; rfl) hre
      · omega
    have hend : i + 1 = zs.length + 1 → rest.drop m = [] := fun _ => List.drop_of_length_le (by omega)
    have hle1 : i + 1 ≤ zs.length + 1 := by omega
    rw [← hm] at lz d0
    repeat' (first | ((first | refine Z.W0 ?_ | refine Z.X0 ?_); simp only [go_sem, seval, lz, lzs, d0, d1]) | (refine hF _ _ ?_; clear hF F) | (refine Z.p0 ?_; simp only [St.put]) | refine Z.a0 ?_ | refine Z.b0 ?_ | refine Z.c0 ?_ | refine Z.h0 ?_ | refine Z.l0 ?_ | refine Z.m0 ?_ | refine Z.q0 rfl rfl fun F hF => ?_ | refine Z.T0 rfl ?_ | refine Z.U0 rfl ?_)
  all_goals
    refine hzr.cut (l := 0) (h := m) vt30 (.inr ⟨_, _, rfl, rfl⟩) (.inl ⟨rfl, rfl⟩) (by omega) (by simpa using hml) fun z1 hz1 _ => ?_
    rw [rowsB_take, List.drop_zero] at hz1
    (refine hF _ _ ?_; clear hF F)
    repeat' (first | ((first | refine Z.W0 ?_ | refine Z.X0 ?_); simp only [go_sem, seval]) | refine Z.q0 rfl rfl fun F hF => ?_)
    refine feed_ok TT.rdr (hz1.mono TT.le) (by simp; omega) fun H2 xr2 w2 r2 => ?_
    have TT2 := TT.went w2 r2
    have CC1 : Cut b fs l gone (rest.take m ++ rest.drop m) := by rw [List.take_append_drop]; exact CC
    have CC2 := CC1.feed
    (refine hF _ _ ?_; clear hF F)
    repeat' (first | ((first | refine Z.W0 ?_ | refine Z.X0 ?_); simp only [go_sem, seval]) | (refine hF _ _ ?_; clear hF F) | (refine Z.p0 ?_; simp only [St.put]) | refine Z.a0 ?_ | refine Z.b0 ?_ | refine Z.c0 ?_ | refine Z.h0 ?_ | refine Z.q0 rfl rfl fun F hF => ?_)
    refine hzr.cut (l := m) (h := rest.length) vt30 (.inl ⟨rfl, by simp⟩) (.inr ⟨_, _, rfl, rfl⟩) (by omega) (by simp) fun z2 hz2 _ => ?_
    rw [rowsB_take, List.take_length, rowsB_drop] at hz2
    (refine hF _ _ ?_; clear hF F)
    repeat' (first | ((first | refine Z.W0 ?_ | refine Z.X0 ?_); simp only [go_sem, seval]) | (refine hF _ _ ?_; clear hF F) | (refine Z.p0 ?_; simp only [St.put]) | refine Z.c0 ?_ | refine Z.h0 ?_ | refine Z.l0 ?_ | refine Z.q0 rfl rfl fun F hF => ?_)
    generalize hl2 : (feed l gone (rest.take m)).1 = l2 at TT2 CC2
    generalize hg2 : (feed l gone (rest.take m)).2 = gone2 at TT2 CC2
    clear hl2 hg2 w2 r2 CC CC1 TT
    refine W_loop [0, 1, 2, 8, 9, 10] (fun n s Hc => ∃ (l : Bs) (gone : Bool) (xr xo : AV) (rows : List (List AV)) (Hv : AH) (fs : List Bs), n = l.length ∧ Told H Hc p xr l gone xo rows Hv fs ∧ Cut b fs l gone (rest.drop m) ∧
      s = [(0, z2), (1, xs), (2, .v (.bool between)), (8, .ptr p 2 0 0), (9, xo), (10, .v (.int .i64 i))]) l2.length ?_ ?_
    · simp only [St.keep, St.get, reduceIte, Nat.reduceEqDiff]
      exact ⟨l2, gone2, xr2, xo, rows, Hv, fs, rfl, TT2, CC2, rfl⟩
    clear TT2 CC2
    rintro n s H3 ⟨l3, gone3, xr3, xo3, rows3, Hv3, fs3, rfl, T3, C3, rfl⟩
    have few3 := C3.few
    have hrl3 := T3.bs.len
    have leave : ∀ (s' : St), s' = [(0, z2), (1, xs), (2, .v (.bool between)), (8, .ptr p 2 0 0), (9, xo3), (10, .v (.int .i64 ((i + 1 : Nat) : Int)))] →
        ∃ m', m' < zs.length - i + rest.length ∧ ∃ (i' : Nat) (rest' l : Bs) (gone : Bool) (z xr xo : AV) (rows : List (List AV)) (Hv : AH) (fs : List Bs), m' = (zs.length - i') + rest'.length ∧ i' ≤ zs.length + 1 ∧ (i' = zs.length + 1 → rest' = []) ∧ RdS H 1 (rowsB rest') z ∧ Told H H3 p xr l gone xo rows Hv fs ∧ Cut b fs l gone rest' ∧
          s' = [(0, z), (1, xs), (2, .v (.bool between)), (8, .ptr p 2 0 0), (9, xo), (10, .v (.int .i64 i'))] := by
      intro s' hs
      refine ⟨_, ?_, i + 1, rest.drop m, l3, gone3, z2, xr3, xo3, rows3, Hv3, fs3, rfl, hle1, hend, hz2, T3, C3, hs⟩
      rw [List.length_drop]
      exact hdec
    cases between
    · repeat' (first | ((first | refine Z.W0 ?_ | refine Z.X0 ?_); simp only [go_sem, seval, wi]) | (refine hF _ _ ?_; clear hF F) | (refine Z.p0 ?_; simp only [St.put]) | refine Z.a0 ?_ | refine Z.b0 ?_ | refine Z.c0 ?_ | refine Z.e0 ?_ | refine Z.f0 ?_ | refine Z.h0 ?_ | refine Z.k0 ?_ | refine Z.o0 ?_ | refine Z.q0 rfl rfl fun F hF => ?_ | refine Z.s0 rfl rfl rfl rfl ?_ | refine Z.U0 rfl ?_)
      simp only [loopK]
      simp only [St.keep, St.get, reduceIte, Nat.reduceEqDiff]
      exact leave _ rfl
    · repeat' (first | ((first | refine Z.W0 ?_ | refine Z.X0 ?_); simp only [go_sem, seval]) | (refine hF _ _ ?_; clear hF F) | refine Z.a0 ?_ | refine Z.b0 ?_ | refine Z.h0 ?_ | refine Z.q0 rfl rfl fun F hF => ?_ | refine Z.r0 rfl rfl rfl rfl fun F hF => ?_)
      refine ready_ok T3.rdr ?_
      (refine hF _ _ ?_; clear hF F)
      cases hr : ready l3
      · repeat' (first | ((first | refine Z.W0 ?_ | refine Z.X0 ?_); simp only [go_sem, seval, wi]) | (refine hF _ _ ?_; clear hF F) | (refine Z.p0 ?_; simp only [St.put]) | refine Z.b0 ?_ | refine Z.c0 ?_ | refine Z.e0 ?_ | refine Z.f0 ?_ | refine Z.h0 ?_ | refine Z.k0 ?_ | refine Z.o0 ?_ | refine Z.q0 rfl rfl fun F hF => ?_ | refine Z.U0 rfl ?_)
        simp only [loopK]
        simp only [St.keep, St.get, reduceIte, Nat.reduceEqDiff]
        exact leave _ rfl
      · obtain ⟨g1, g2, g3, C4⟩ := C3.next hr
        repeat' (first | ((first | refine Z.W0 ?_ | refine Z.X0 ?_); simp only [go_sem, seval]) | (refine hF _ _ ?_; clear hF F) | (refine Z.p0 ?_; simp only [St.put]) | refine Z.a0 ?_ | refine Z.b0 ?_ | refine Z.c0 ?_ | refine Z.h0 ?_ | refine Z.l0 ?_ | refine Z.m0 ?_ | refine Z.q0 rfl rfl fun F hF => ?_ | refine Z.T0 rfl ?_)
        refine next_some T3.rdr hr fun H4 xr4 fx w4 r4 of nf => ?_
        obtain ⟨Hb, hon, hput⟩ := T3.put w4 r4 of nf (by omega)
        (refine hF _ _ ?_; clear hF F)
        repeat' (first | ((first | refine Z.W0 ?_ | refine Z.X0 ?_); simp only [go_sem, seval, of.cell, of.rd.cells]) | (refine hF _ _ ?_; clear hF F) | (refine Z.p0 ?_; simp only [St.put]) | refine Z.b0 ?_ | refine Z.c0 ?_ | refine Z.h0 ?_ | refine Z.q0 rfl rfl fun F hF => ?_)
        refine hon.app vt36 rfl rfl Tryd.underlying36 (fun k => by simp) (fun G => by simp [asrc]; rfl) (by simp; omega) fun xo' H5 hx' => ?_
        obtain ⟨Hv', T5⟩ := hput _ _ hx'
        (refine hF _ _ ?_; clear hF F)
        repeat' (first | ((first | refine Z.W0 ?_ | refine Z.X0 ?_); simp only [go_sem, seval]) | (refine hF _ _ ?_; clear hF F) | (refine Z.p0 ?_; simp only [St.put]) | refine Z.f0 ?_ | refine Z.h0 ?_ | refine Z.q0 rfl rfl fun F hF => ?_)
        simp only [loopK]
        simp only [St.keep, St.get, reduceIte, Nat.reduceEqDiff]
        exact ⟨_, tl l3 gone3 g3 g2, _, _, xr4, xo', _, Hv', _, rfl, T5, C4, rfl⟩
end Go.Proofs.YtboojmppmaepmaaDoor
/- In whatever pieces bytes come, the same frames are told: the law's walk. -/
namespace Go.Proofs.YtboojmppmaepmaaDoor
set_option maxHeartbeats 8000000
set_option linter.all false
open Go Go.Fw
attribute [local irreducible] Reg RegD seqK blockK loopK retK panK
set_option maxRecDepth 10000

variable {H : AH} {K : AV → AH → Prop} {J : Value → AH → Prop}

/-- One of the slices of bytes. -/
structure ElS (H : AH) (x i p y : AV) (f : Bs) : Prop where
  idx : ∀ F, aidx Tryd.prog 36 x i F = F p
  load : ∀ F, aload Tryd.prog 30 p H F = F y
  conv : ∀ F, aconv Tryd.prog 30 9 y H F = F (.v (.string (bs f)))
  len : ∀ F, alen Tryd.prog 30 y F = F (.v (.int .i64 f.length))
  rd : RdS H 1 (rowsB f) y
theorem elS {fs : List Bs} {rows : List (List AV)} {x : AV} (hx : RdS H 1 rows x) (hb : RdBs H fs rows) {k : Nat} (hk : k < fs.length) : ∃ p y, ElS H x (.v (.int .i64 k)) p y fs[k] := by
  have hk2 : k < rows.length := by rw [hb.len]; exact hk
  obtain ⟨p, hp, _, hi⟩ := hx.idx vt36 hk2
  obtain ⟨y, hy, hr⟩ := hb.get k hk hk2
  refine ⟨p, y, hi, fun F => ?_, convB hr, lenB hr, hr⟩
  rw [hp.load, hy]
  simp [acut, Tryd.underlying30, isAggD]
theorem lenS {fs : List Bs} {rows : List (List AV)} {x : AV} (hx : RdS H 1 rows x) (hb : RdBs H fs rows) : ∀ F, alen Tryd.prog 36 x F = F (.v (.int .i64 fs.length)) := fun F => by
  rw [hx.len vt36, hb.len]

def pos (fs : List Bs) (k : Nat) : Nat := (fs.take k).flatten.length
theorem flat_seg {fs : List Bs} {r : Bs} {k : Nat} (hk : k < fs.length) : (((fs.flatten ++ r).take ((fs.take k).flatten.length + fs[k].length)).drop (fs.take k).flatten.length) = fs[k] ∧ (fs.take k).flatten.length + fs[k].length ≤ (fs.flatten ++ r).length ∧ (fs.take (k + 1)).flatten.length = (fs.take k).flatten.length + fs[k].length := by
  have h1 : fs.flatten = (fs.take k).flatten ++ (fs[k] ++ (fs.drop (k + 1)).flatten) := by
    have := congrArg List.flatten (List.take_append_drop k fs)
    rw [List.flatten_append, List.drop_eq_getElem_cons hk, List.flatten_cons] at this
    exact this.symm
  refine ⟨?_, ?_, ?_⟩
  · rw [h1, List.drop_take, Nat.add_sub_cancel_left, List.append_assoc, List.drop_left, List.append_assoc, List.take_left]
  · rw [h1]; simp only [List.length_append]; omega
  · rw [List.take_succ_eq_append_getElem hk, List.flatten_append, List.length_append, List.flatten_cons, List.flatten_nil, List.append_nil]

theorem flat_count : ∀ {fs : List Bs}, (∀ f ∈ fs, 26 ≤ f.length) → 26 * fs.length ≤ fs.flatten.length
  | [], _ => by simp
  | f :: fs, h => by
    have h1 := h f (by simp)
    have h2 := flat_count (fs := fs) fun g hg => h g (by simp [hg])
    simp only [List.length_cons, List.flatten_cons, List.length_append]
    omega

theorem lawPieces_ok {b : Bs} {zs ys : List Int} {xb xs xt : AV} (hx : RdS H 1 (rowsB b) xb) (hb : b.length ≤ 1000000000) (hz : RdS H 1 (rowsI zs) xs) (hzl : zs.length ≤ 1000000000) (hy : RdS H 1 (rowsI ys) xt) (hyl : ys.length ≤ 1000000000)
    (hk : ∀ H', Le H H' → K (.v (.bool true)) H') : CallX Tryd.prog 7 [xb, xs, xt] H K J := by
  refine CallX.of_body Tryd.func7 nm7 rfl ?_; simp only [Tryd.ntmps7, List.length_cons, List.length_nil, argSt, Nat.reduceAdd, Nat.reduceSub]
  repeat' (first | ((first | refine Z.W0 ?_ | refine Z.X0 ?_); simp only [go_sem, seval]) | (refine hF _ _ ?_; clear hF F) | (refine Z.p0 ?_; simp only [St.put]) | refine Z.a0 ?_ | refine Z.b0 ?_ | refine Z.c0 ?_ | refine Z.h0 ?_ | refine Z.q0 rfl rfl fun F hF => ?_)
  refine awake_ok fun H1 e1 => ?_
  (refine hF _ _ ?_; clear hF F)
  repeat' (first | ((first | refine Z.W0 ?_ | refine Z.X0 ?_); simp only [go_sem, seval]) | (refine hF _ _ ?_; clear hF F) | (refine Z.p0 ?_; simp only [St.put]) | refine Z.a0 ?_ | refine Z.b0 ?_ | refine Z.c0 ?_ | refine Z.h0 ?_ | refine Z.q0 rfl rfl fun F hF => ?_)
  refine told_ok (zs := []) (hx.mono e1) hb .nil (by simp) fun H2 w1 q1 e2 r1 s1 => ?_
  (refine hF _ _ ?_; clear hF F)
  repeat' (first | ((first | refine Z.W0 ?_ | refine Z.X0 ?_); simp only [go_sem, seval]) | (refine hF _ _ ?_; clear hF F) | (refine Z.p0 ?_; simp only [St.put]) | refine Z.a0 ?_ | refine Z.b0 ?_ | refine Z.c0 ?_ | refine Z.h0 ?_ | refine Z.q0 rfl rfl fun F hF => ?_)
  refine told_ok (hx.mono (e1.trans e2)) hb (hz.mono (e1.trans e2)) hzl fun H3 w2 q2 e3 r2 s2 => ?_
  (refine hF _ _ ?_; clear hF F)
  repeat' (first | ((first | refine Z.W0 ?_ | refine Z.X0 ?_); simp only [go_sem, seval]) | (refine hF _ _ ?_; clear hF F) | (refine Z.p0 ?_; simp only [St.put]) | refine Z.a0 ?_ | refine Z.b0 ?_ | refine Z.c0 ?_ | refine Z.h0 ?_ | refine Z.q0 rfl rfl fun F hF => ?_)
  refine told_ok (hx.mono ((e1.trans e2).trans e3)) hb (hy.mono ((e1.trans e2).trans e3)) hyl fun H4 w3 q3 e4 r3 s3 => ?_
  have r1 := r1.mono (e3.trans e4)
  have s1 := s1.mono (e3.trans e4)
  have r2 := r2.mono e4
  have s2 := s2.mono e4
  have hle : Le H H4 := ((e1.trans e2).trans e3).trans e4
  have hx4 := hx.mono hle
  obtain ⟨rr, hflat, hge⟩ := cut_flat _ b (Nat.lt_succ_self _)
  obtain ⟨fs, hfs⟩ : ∃ fs, (cutF b).1 = fs := ⟨_, rfl⟩
  obtain ⟨gone, hg⟩ : ∃ gone, (cutF b).2 = gone := ⟨_, rfl⟩
  rw [hfs] at s1 s2 s3 hflat hge
  have hcnt := flat_count hge
  have hfl : fs.flatten.length ≤ b.length := by rw [hflat, List.length_append]; omega
  rw [hg]
  have l1 := lenS r1 s1
  have l2 := lenS r2 s2
  have l3 := lenS r3 s3
  (refine hF _ _ ?_; clear hF F)
  cases gone
  all_goals
    repeat' (first | ((first | refine Z.W0 ?_ | refine Z.X0 ?_); simp only [go_sem, seval, l1, l2, l3, hg]) | (refine hF _ _ ?_; clear hF F) | (refine Z.p0 ?_; simp only [St.put]) | refine Z.a0 ?_ | refine Z.b0 ?_ | refine Z.c0 ?_ | refine Z.h0 ?_ | refine Z.l0 ?_ | refine Z.m0 ?_ | refine Z.q0 rfl rfl fun F hF => ?_ | refine Z.r0 rfl rfl rfl rfl fun F hF => ?_ | refine Z.U0 rfl ?_)
    refine W_loop [0, 8, 10, 12, 14, 15] (fun n s H' => ∃ k : Nat, H' = H4 ∧ n + k = fs.length ∧ s = [(0, xb), (8, w1), (10, w2), (12, w3), (14, .v (.int .i64 (pos fs k))), (15, .v (.int .i64 k))]) fs.length ?_ ?_
    · simp only [St.keep, St.get, reduceIte, Nat.reduceEqDiff]
      exact ⟨0, trivial, by omega, by simp [pos]⟩
    rintro n s H' ⟨k, rfl, hn, rfl⟩
    cases n with
    | zero =>
      obtain rfl : k = fs.length := by omega
      have d : decide ((fs.length : Int) < (fs.length : Int)) = false := by simp
      repeat' (first | ((first | refine Z.W0 ?_ | refine Z.X0 ?_); simp only [go_sem, seval, l1, d]) | (refine hF _ _ ?_; clear hF F) | (refine Z.p0 ?_; simp only [St.put]) | refine Z.a0 ?_ | refine Z.b0 ?_ | refine Z.c0 ?_ | refine Z.e0 ?_ | refine Z.h0 ?_ | refine Z.k0 ?_ | refine Z.n0 ?_ | refine Z.o0 ?_ | refine Z.q0 rfl rfl fun F hF => ?_ | refine Z.U0 rfl ?_)
      simp only [retK, ares, pack, Tryd.results7, St.get, reduceIte, Nat.reduceEqDiff, aload, arow, List.toArray, Array.toList]
      exact hk _ hle
    | succ n =>
      have hlt : k < fs.length := by omega
      have d : decide ((k : Int) < (fs.length : Int)) = true := by simp; omega
      obtain ⟨p1, y1, E1⟩ := elS r1 s1 hlt
      obtain ⟨p2, y2, E2⟩ := elS r2 s2 hlt
      obtain ⟨p3, y3, E3⟩ := elS r3 s3 hlt
      obtain ⟨g1, g2, g3⟩ := flat_seg (r := rr) hlt
      rw [← hflat] at g1 g2
      have g3' : pos fs (k + 1) = pos fs k + fs[k].length := g3
      have g1' : ((b.take (pos fs k + fs[k].length)).drop (pos fs k)) = fs[k] := g1
      have g2' : pos fs k + fs[k].length ≤ b.length := g2
      have lx := lenB hx4
      have wa : IntKind.i64.wrap ((pos fs k : Int) + (fs[k].length : Int)) = ((pos fs k + fs[k].length : Nat) : Int) := by rw [wrap_of] <;> omega
      have wk : IntKind.i64.wrap ((k : Int) + 1) = ((k + 1 : Nat) : Int) := by rw [wrap_of] <;> omega
      have dg : decide (((pos fs k + fs[k].length : Nat) : Int) > (b.length : Int)) = false := by simp; omega
      repeat' (first | ((first | refine Z.W0 ?_ | refine Z.X0 ?_); simp only [go_sem, seval, l1, d, E1.idx, E1.load, E1.conv, E2.idx, E2.load, E2.conv, E3.idx, E3.load, E3.conv, E1.len, wa, lx, dg]) | (refine hF _ _ ?_; clear hF F) | (refine Z.p0 ?_; simp only [St.put]) | refine Z.a0 ?_ | refine Z.b0 ?_ | refine Z.c0 ?_ | refine Z.h0 ?_ | refine Z.l0 ?_ | refine Z.m0 ?_ | refine Z.q0 rfl rfl fun F hF => ?_ | refine Z.A0 rfl rfl rfl fun F hF => ?_ | refine W_drawn (id := 11) [0, 0, 3, 7, 15, 0, 0, 96, 224, 480, 1023, 2047, 4095, 4095, 16383, 32767, 65535, 4095, 4095, 397311, 921599, 1970175, 4194303, 8388607, 16777215, 33554431, 33554431, 33554431, 234881023, 503316479, 1040187391, 2147483647, 33554431, 4328521727, 17179869183, 34359738367, 68719476735, 137438953471, 137438953471, 137438953471, 137438953471, 137438953471, 3435973836799, 7834020347903, 16630113370111, 34772055228415, 70368744177663, 140737488355327, 137438953471, 137438953471, 844562369085439, 1970462275928063, 4222262089613311, 9007199254740991, 18014398509481983] [.a 0, .a 1, .a 2, .a 3, .a 4, .a 5, .a 6, .a 7, .a 8, .a 9, .a 10, .a 11, .a 12, .a 13, .a 14, .a 15, .a 16, .a 17, .a 18, .a 19, .a 20, .a 21, .a 22, .a 23, .a 24, .a 25, .a 26, .a 27, .a 28, .a 29, .a 30, .a 31, .a 32, .a 33, .a 34, .a 35, .a 36, .a 37, .a 38, .a 39, .a 40, .a 41, .a 42, .a 43, .a 44, .a 45, .a 46, .a 47, .a 48, .a 49, .a 50, .a 51, .a 52, .a 53, .a 54] mixed (by decide +kernel) ?_ | refine Z.T0 rfl ?_)
      refine hx4.cut (l := pos fs k) (h := pos fs k + fs[k].length) vt30 (.inr ⟨_, _, rfl, rfl⟩) (.inr ⟨_, _, rfl, rfl⟩) (by omega) (by simpa using g2') fun z1 hz1 _ => ?_
      rw [rowsB_take, rowsB_drop, g1'] at hz1
      (refine hF _ _ ?_; clear hF F)
      repeat' (first | ((first | refine Z.W0 ?_ | refine Z.X0 ?_); simp only [go_sem, seval, l1, E1.idx, E1.load, E1.conv, convB hz1, E1.len, wa, wk]) | (refine hF _ _ ?_; clear hF F) | (refine Z.p0 ?_; simp only [St.put]) | refine Z.b0 ?_ | refine Z.c0 ?_ | refine Z.f0 ?_ | refine Z.h0 ?_ | refine Z.m0 ?_ | refine Z.q0 rfl rfl fun F hF => ?_ | refine Z.A0 rfl rfl rfl fun F hF => ?_ | (refine Z.D0 ?_; simp only [St.put]) | refine Z.U0 rfl ?_)
      simp only [loopK]
      simp only [St.keep, St.get, reduceIte, Nat.reduceEqDiff]
      exact ⟨n, by omega, k + 1, trivial, by omega, by rw [g3']⟩
end Go.Proofs.YtboojmppmaepmaaDoor
/- A message comes out of its frame as it went in: the law's walk. -/
namespace Go.Proofs.YtboojmppmaepmaaDoor
set_option maxHeartbeats 8000000
set_option linter.all false
open Go Go.Fw
attribute [local irreducible] Reg RegD seqK blockK loopK retK panK
set_option maxRecDepth 10000

variable {H : AH} {K : AV → AH → Prop} {J : Value → AH → Prop}

theorem lawBack_ok {i j : Int} {v : Val} {cm : List AV} {x : AV} {raw : Bs} (hm : RdM H i j v cm) (hx : RdS H 1 (rowsB raw) x) (hr : raw.length ≤ 1000000000) (hk : ∀ H', Le H H' → K (.v (.bool true)) H') :
    CallX Tryd.prog 6 [.agg cm, x] H K J := by
  obtain ⟨m1, m2, m3, m4, m5, m6, m7, rfl, k1, k2, k3, k4, k5, k6, k7⟩ := hm.cells
  have okv : okV v := by obtain ⟨_, _, c, _, hv⟩ := hm; exact rdV_ok _ v c (Nat.lt_succ_self _) hv
  refine CallX.of_body Tryd.func6 nm6 rfl ?_; simp only [Tryd.ntmps6, List.length_cons, List.length_nil, argSt, Nat.reduceAdd, Nat.reduceSub]
  repeat' (first | ((first | refine Z.W0 ?_ | refine Z.X0 ?_); simp only [go_sem, seval, k1, k2, k3, k4, k5, k6, k7]) | refine Z.a0 ?_ | refine Z.b0 ?_ | refine Z.q0 rfl rfl fun F hF => ?_)
  (refine box_go2 fun b2 H1 e1 n1 o1 => ?_; refine hF _ _ ?_; clear hF F)
  repeat' (first | ((first | refine Z.W0 ?_ | refine Z.X0 ?_); simp only [go_sem, seval]) | (refine hF _ _ ?_; clear hF F) | (refine Z.p0 ?_; simp only [St.put]) | refine Z.a0 ?_ | refine Z.b0 ?_ | refine Z.c0 ?_ | refine Z.h0 ?_ | refine Z.q0 rfl rfl fun F hF => ?_)
  refine awake_ok fun H2 e2 => ?_
  (refine hF _ _ ?_; clear hF F)
  repeat' (first | ((first | refine Z.W0 ?_ | refine Z.X0 ?_); simp only [go_sem, seval]) | (refine hF _ _ ?_; clear hF F) | (refine Z.p0 ?_; simp only [St.put]) | refine Z.a0 ?_ | refine Z.b0 ?_ | refine Z.c0 ?_ | refine Z.h0 ?_ | refine Z.q0 rfl rfl fun F hF => ?_)
  have e12 := e1.trans e2
  refine parse_ok (hx.mono e12) hr fun H3 Hv3 cs3 e3 a3 le3 mm3 => ?_
  obtain ⟨a, b, c, d, e, f, g, rfl, q1, q2, q3, q4, q5, q6, q7⟩ := mm3.cells
  (refine hF _ _ ?_; clear hF F)
  repeat' (first | ((first | refine Z.W0 ?_ | refine Z.X0 ?_); simp only [go_sem, seval, q1, q2, q3, q4, q5, q6, q7]) | (refine hF _ _ ?_; clear hF F) | refine Z.h0 ?_ | refine Z.q0 rfl rfl fun F hF => ?_)
  (refine box_go2 fun b6 H4 e4 n4 o4 => ?_; refine hF _ _ ?_; clear hF F)
  repeat' (first | ((first | refine Z.W0 ?_ | refine Z.X0 ?_); simp only [go_sem, seval, o4, q1, q2, q3, q4, q5, q6, q7]) | (refine hF _ _ ?_; clear hF F) | (refine Z.p0 ?_; simp only [St.put]) | refine Z.a0 ?_ | refine Z.c0 ?_ | refine Z.h0 ?_ | refine Z.q0 rfl rfl fun F hF => ?_)
  generalize hq : AH.set H4 b6 _ = H5; have e5 : Le H3 H5 := (by rw [← hq]; exact e4.set' n4); have o5 := (congrFun hq b6).symm; rw [AH.set_same] at o5; clear hq
  have e15 := (e12.trans e3).trans e5
  by_cases hz : (parse raw).2 = 0
  case' pos =>
    obtain ⟨pi, pj, pv, hp1, hp2, hp3, hp4, hp5⟩ := frame_parse hz
    rw [hp1] at mm3
    have d0 : ((parse raw).2 == 0) = true := beq_iff_eq.2 hz
    repeat' (first | ((first | refine Z.W0 ?_ | refine Z.X0 ?_); simp only [go_sem, seval, d0, o5]) | (refine hF _ _ ?_; clear hF F) | (refine Z.p0 ?_; simp only [St.put]) | refine Z.a0 ?_ | refine Z.b0 ?_ | refine Z.c0 ?_ | refine Z.h0 ?_ | refine Z.q0 rfl rfl fun F hF => ?_ | refine Z.T0 rfl ?_)
    refine make_ok (mm3.mono (le3.trans e5)) (fun H6 e6 hne => absurd hp2 hne) (fun H6 H7 y e6 _ hy => ?_)
    simp only [Int.toNat_natCast, hp3] at hy
    have e16 := (e15.trans e6).trans hy.le
    have o2 := hy.le _ _ (e6 _ _ (e5 _ _ (e3 _ _ (e2 _ _ o1))))
    have hx6 := hx.mono e16
    (refine hF _ _ ?_; clear hF F)
    repeat' (first | ((first | refine Z.W0 ?_ | refine Z.X0 ?_); simp only [go_sem, seval, convB hy.rd, convB hx6, o2]) | (refine hF _ _ ?_; clear hF F) | (refine Z.p0 ?_; simp only [St.put]) | refine Z.a0 ?_ | refine Z.b0 ?_ | refine Z.c0 ?_ | refine Z.h0 ?_ | refine Z.m0 ?_ | refine Z.q0 rfl rfl fun F hF => ?_ | refine Z.r0 rfl rfl rfl rfl fun F hF => ?_ | refine Z.U0 rfl ?_)
  case' neg =>
    have d0 : ((parse raw).2 == 0) = false := beq_eq_false_iff_ne.2 hz
    have e16 := e15
    have o2 := e5 _ _ (e3 _ _ (e2 _ _ o1))
    repeat' (first | ((first | refine Z.W0 ?_ | refine Z.X0 ?_); simp only [go_sem, seval, d0, o2]) | (refine hF _ _ ?_; clear hF F) | (refine Z.p0 ?_; simp only [St.put]) | refine Z.a0 ?_ | refine Z.b0 ?_ | refine Z.c0 ?_ | refine Z.h0 ?_ | refine Z.m0 ?_ | refine Z.q0 rfl rfl fun F hF => ?_ | refine Z.U0 rfl ?_)
  all_goals
    refine make_ok (hm.mono e16) (fun H8 e8 hne => ?_) (fun H8 H9 y2 e8 he hy2 => ?_)
    · (refine hF _ _ ?_; clear hF F)
      have d1 : (makeErr i j v != 0) = true := bne_iff_ne.2 hne
      repeat' (first | ((first | refine Z.W0 ?_ | refine Z.X0 ?_); simp only [go_sem, seval, d1]) | (refine hF _ _ ?_; clear hF F) | (refine Z.p0 ?_; simp only [St.put]) | refine Z.a0 ?_ | refine Z.b0 ?_ | refine Z.c0 ?_ | refine Z.d0 ?_ | refine Z.h0 ?_ | refine Z.n0 ?_ | refine Z.q0 rfl rfl fun F hF => ?_ | refine Z.r0 rfl rfl rfl rfl fun F hF => ?_ | refine Z.T0 rfl ?_)
      simp only [retK, ares, pack, Tryd.results6, St.get, reduceIte, Nat.reduceEqDiff, aload, arow, List.toArray, Array.toList]
      exact hk _ (e16.trans e8)
    · obtain ⟨g1, g2, g3, g4⟩ := makeErr_zero he
      obtain ⟨s1, s2⟩ := enc_size g3 g4
      have hfl : (frame i.toNat j.toNat v).length = 21 + (encV v).length := (frm_frame _ _ _).len
      have e18 := (e16.trans e8).trans hy2.le
      have o28 := hy2.le _ _ (e8 _ _ o2)
      have hy2r := hy2.rd
      (refine hF _ _ ?_; clear hF F)
      repeat' (first | ((first | refine Z.W0 ?_ | refine Z.X0 ?_); simp only [go_sem, seval]) | (refine hF _ _ ?_; clear hF F) | (refine Z.p0 ?_; simp only [St.put]) | refine Z.a0 ?_ | refine Z.b0 ?_ | refine Z.c0 ?_ | refine Z.h0 ?_ | refine Z.m0 ?_ | refine Z.q0 rfl rfl fun F hF => ?_ | refine Z.r0 rfl rfl rfl rfl fun F hF => ?_ | refine Z.U0 rfl ?_)
      refine parse_ok hy2r (by omega) fun H10 Hv10 cs10 e10 a10 le10 mm10 => ?_
      rw [parse_frame okv he] at mm10 ⊢
      simp only at mm10
      obtain ⟨a', b', c', d', e', f', g', rfl, q1', q2', q3', q4', q5', q6', q7'⟩ := mm10.cells
      (refine hF _ _ ?_; clear hF F)
      repeat' (first | ((first | refine Z.W0 ?_ | refine Z.X0 ?_); simp only [go_sem, seval, q1', q2', q3', q4', q5', q6', q7']) | (refine hF _ _ ?_; clear hF F) | refine Z.h0 ?_ | refine Z.q0 rfl rfl fun F hF => ?_)
      (refine box_go2 fun b12 H11 e11 n11 o11 => ?_; refine hF _ _ ?_; clear hF F)
      repeat' (first | ((first | refine Z.W0 ?_ | refine Z.X0 ?_); simp only [go_sem, seval, o11, q1', q2', q3', q4', q5', q6', q7']) | (refine hF _ _ ?_; clear hF F) | (refine Z.p0 ?_; simp only [St.put]) | refine Z.a0 ?_ | refine Z.c0 ?_ | refine Z.h0 ?_ | refine Z.q0 rfl rfl fun F hF => ?_)
      generalize hq : AH.set H11 b12 _ = H12; have e12' : Le H10 H12 := (by rw [← hq]; exact e11.set' n11); have o12 := (congrFun hq b12).symm; rw [AH.set_same] at o12; clear hq
      have o212 := e12' _ _ (e10 _ _ o28)
      repeat' (first | ((first | refine Z.W0 ?_ | refine Z.X0 ?_); simp only [go_sem, seval, o12, o212]) | (refine hF _ _ ?_; clear hF F) | refine Z.b0 ?_ | refine Z.h0 ?_ | refine Z.q0 rfl rfl fun F hF => ?_)
      refine msame_ok (mm10.mono (le10.trans e12')) (hm.mono ((e18.trans e10).trans e12')) fun H13 e13 => ?_
      have hs : (sameV v v && decide (i = i) && decide (j = j)) = true := by rw [sameV_true rfl]; simp
      rw [hs]
      have hl13 := lenB (hy2r.mono ((e10.trans e12').trans e13))
      have d1 : decide (((frame i.toNat j.toNat v).length : Int) ≤ 131072) = true := by rw [hfl]; simp; omega
      have d2 : decide (((frame i.toNat j.toNat v).length : Int) ≥ 26) = true := by rw [hfl]; simp; omega
      (refine hF _ _ ?_; clear hF F)
      repeat' (first | ((first | refine Z.W0 ?_ | refine Z.X0 ?_); simp only [go_sem, seval, hl13, d1, d2]) | (refine hF _ _ ?_; clear hF F) | (refine Z.p0 ?_; simp only [St.put]) | refine Z.a0 ?_ | refine Z.b0 ?_ | refine Z.c0 ?_ | refine Z.h0 ?_ | refine Z.n0 ?_ | refine Z.q0 rfl rfl fun F hF => ?_ | refine Z.r0 rfl rfl rfl rfl fun F hF => ?_)
      simp only [retK, ares, pack, Tryd.results6, St.get, reduceIte, Nat.reduceEqDiff, aload, arow, List.toArray, Array.toList]
      exact hk _ (((e18.trans e10).trans e12').trans e13)
end Go.Proofs.YtboojmppmaepmaaDoor
/- Messages one behind another: the walk of the law. -/
namespace Go.Proofs.YtboojmppmaepmaaDoor
set_option maxHeartbeats 8000000
set_option linter.all false
open Go Go.Fw
attribute [local irreducible] Reg RegD seqK blockK loopK retK panK
set_option maxRecDepth 10000

variable {H : AH} {K : AV → AH → Prop} {J : Value → AH → Prop}

abbrev Msg := Int × Int × Val
def okM (m : Msg) : Bool := decide (makeErr m.1 m.2.1 m.2.2 = 0)
def frm (m : Msg) : Bs := frame m.1.toNat m.2.1.toNat m.2.2
theorem frm_len {m : Msg} (h : okM m = true) : (frm m).length = 21 + sizeV m.2.2 ∧ 26 ≤ (frm m).length ∧ (frm m).length ≤ 131072 ∧ num (frm m) 0 4 = (frm m).length := by
  have hm : makeErr m.1 m.2.1 m.2.2 = 0 := by simpa [okM] using h
  obtain ⟨_, _, g3, g4⟩ := makeErr_zero hm
  obtain ⟨s1, s2⟩ := enc_size g3 g4
  have F := frm_frame m.1.toNat m.2.1.toNat m.2.2
  have hl := F.len
  have h3 := (right_len g4).2.2
  refine ⟨by rw [← h3]; exact hl, ?_, ?_, ?_⟩
  · show 26 ≤ (frame _ _ _).length; omega
  · show (frame _ _ _).length ≤ _; omega
  · exact F.n0.num (by omega)

/-- Frames one behind another are cut into just these, whatever half a frame stands behind them. -/
theorem cut_row {t : Bs} (ht : t.length < 4) : ∀ (l : List Msg), (∀ m ∈ l, okM m = true) → cutF ((l.map frm).flatten ++ t) = (l.map frm, false)
  | [], _ => by
    simp only [List.map_nil, List.flatten_nil, List.nil_append]
    rw [cutF_eq, if_neg (fun h => by have := h.1; omega), if_neg (fun h => by have := (ready_iff.1 h).1; omega)]
  | m :: l, h => by
    obtain ⟨_, g1, g2, g3⟩ := frm_len (h m (by simp))
    have ih := cut_row ht l fun x hx => h x (by simp [hx])
    have e : ((m :: l).map frm).flatten ++ t = frm m ++ ((l.map frm).flatten ++ t) := by simp
    have hn : num (frm m ++ ((l.map frm).flatten ++ t)) 0 4 = (frm m).length := by rw [num_app (by omega), g3]
    rw [e, cutF_eq, if_neg, if_pos, hn, List.take_left, List.drop_left, ih]
    · rfl
    · exact ready_iff.2 ⟨by rw [List.length_append]; omega, by rw [hn, List.length_append]; omega⟩
    · intro hb
      have := hb.2
      rw [hn] at this
      simp only [lenOk, Bool.and_eq_false_iff, decide_eq_false_iff_not] at this
      omega

/-- Two slices that grow side by side. -/
structure Two (H0 H : AH) (xa : AV) (la : Bs) (xp : AV) (rp : List (List AV)) : Prop where
  le : Le H0 H
  a : Ow H 1 (rowsB la) xa
  p : Ow H 7 rp xp
  na : ∀ c, xa.blk = some c → H0 c = none ∧ xp.blk ≠ some c
  np : ∀ c, xp.blk = some c → H0 c = none
theorem Two.mono {H0 H H' : AH} {xa xp : AV} {la : Bs} {rp : List (List AV)} (h : Two H0 H xa la xp rp) (hle : Le H H') : Two H0 H' xa la xp rp :=
  ⟨h.le.trans hle, h.a.mono hle, h.p.mono hle, h.na, h.np⟩
theorem Two.appA {H0 H H' : AH} {xa xa' xp : AV} {la la' : Bs} {rp : List (List AV)} (h : Two H0 H xa la xp rp) (T : Turned H xa H' xa') (a : Ow H' 1 (rowsB la') xa') : Two H0 H' xa' la' xp rp := by
  refine ⟨fun c o hc => T.keep c o (h.le c o hc) (fun e => by rw [(h.na c e).1] at hc; cases hc), a, h.p.keep fun c hc => ?_, fun c hc => ?_, h.np⟩
  · rw [T.keep c _ (h.p.atb hc) (fun e => (h.na c e).2 hc), h.p.atb hc]
  · rcases T.new c hc with e | e
    · exact h.na c e
    · exact ⟨h.le.none e, fun e2 => by rw [h.p.atb e2] at e; cases e⟩
theorem Two.appP {H0 H H' : AH} {xa xp xp' : AV} {la : Bs} {rp rp' : List (List AV)} (h : Two H0 H xa la xp rp) (T : Turned H xp H' xp') (p : Ow H' 7 rp' xp') : Two H0 H' xa la xp' rp' := by
  refine ⟨fun c o hc => T.keep c o (h.le c o hc) (fun e => by rw [h.np c e] at hc; cases hc), h.a.keep fun c hc => ?_, p, fun c hc => ⟨(h.na c hc).1, fun e2 => ?_⟩, fun c hc => ?_⟩
  · rw [T.keep c _ (h.a.atb hc) (fun e => (h.na c hc).2 e), h.a.atb hc]
  · rcases T.new c e2 with e | e
    · exact (h.na c hc).2 e
    · rw [h.a.atb hc] at e; cases e
  · rcases T.new c hc with e | e
    · exact h.np c e
    · exact h.le.none e

/-- A message with its cells. -/
abbrev MR := Msg × List AV
def good (l : List MR) : List MR := l.filter fun q => okM q.1
def allB (l : List MR) : Bs := ((good l).map fun q => frm q.1).flatten
def putR (l : List MR) : List (List AV) := (good l).map (·.2)
theorem good_take {l : List MR} {k : Nat} (hk : k < l.length) : good (l.take (k + 1)) = good (l.take k) ++ if okM l[k].1 = true then [l[k]] else [] := by
  unfold good
  rw [List.take_succ_eq_append_getElem hk, List.filter_append]
  congr 1
  simp only [List.filter_cons, List.filter_nil]
theorem allB_take {l : List MR} {k : Nat} (hk : k < l.length) : allB (l.take (k + 1)) = allB (l.take k) ++ if okM l[k].1 = true then frm l[k].1 else [] := by
  unfold allB
  rw [good_take hk]
  split <;> simp
theorem putR_take {l : List MR} {k : Nat} (hk : k < l.length) : putR (l.take (k + 1)) = putR (l.take k) ++ if okM l[k].1 = true then [l[k].2] else [] := by
  unfold putR
  rw [good_take hk]
  split <;> simp
def weight : List MR → Nat
  | [] => 0
  | q :: r => 21 + sizeV q.1.2.2 + weight r
theorem allB_le : ∀ l : List MR, (allB l).length ≤ weight l
  | [] => by simp [allB, good, weight]
  | q :: r => by
    have ih := allB_le r
    unfold allB good at *
    simp only [List.filter_cons]
    split
    · rename_i h
      obtain ⟨g, _⟩ := frm_len h
      simp only [List.map_cons, List.flatten_cons, List.length_append, weight]
      omega
    · simp only [weight]; omega
theorem weight_take : ∀ (l : List MR) (k : Nat), weight (l.take k) ≤ weight l
  | [], k => by simp [weight]
  | q :: r, 0 => by simp [weight]
  | q :: r, k + 1 => by simp only [List.take_succ_cons, weight]; have := weight_take r k; omega
theorem weight_len : ∀ l : List MR, 21 * l.length ≤ weight l
  | [] => by simp [weight]
  | q :: r => by simp only [List.length_cons, weight]; have := weight_len r; omega

/-- One of the messages. -/
structure ElM (H : AH) (x i p : AV) (r : List AV) : Prop where
  idx : ∀ F, aidx Tryd.prog 62 x i F = F p
  load : ∀ F, aload Tryd.prog 27 p H F = F (.agg r)
theorem elM {rows : List (List AV)} {x : AV} (hx : RdS H 7 rows x) {k : Nat} (hk : k < rows.length) (hr : rows[k].length = 7) : ∃ p, ElM H x (.v (.int .i64 k)) p rows[k] := by
  obtain ⟨p, hp, _, hi⟩ := hx.idx vt62 hk
  refine ⟨p, hi, fun F => ?_⟩
  rw [hp.load]
  simp only [acut, Tryd.underlying27, Tryd.underlying26, isAggD, cl27, if_true, List.drop_zero]
  rw [List.take_of_length_le (by omega), hr]
  simp
end Go.Proofs.YtboojmppmaepmaaDoor
/- Messages one behind another: the walk of the law. -/
namespace Go.Proofs.YtboojmppmaepmaaDoor
set_option maxHeartbeats 8000000
set_option linter.all false
open Go Go.Fw
attribute [local irreducible] Reg RegD seqK blockK loopK retK panK
set_option maxRecDepth 10000

variable {H : AH} {K : AV → AH → Prop} {J : Value → AH → Prop}

theorem lawRow_ok {l : List MR} {zs : List Int} {xl xs : AV} (hx : RdS H 7 (l.map (·.2)) xl) (hm : ∀ q ∈ l, RdM H q.1.1 q.1.2.1 q.1.2.2 q.2) (hw : weight l ≤ 500000000) (hz : RdS H 1 (rowsI zs) xs) (hzl : zs.length ≤ 1000000000)
    (hk : ∀ H', Le H H' → K (.v (.bool true)) H') : CallX Tryd.prog 8 [xl, xs] H K J := by
  have hll := weight_len l
  have llen := hx.len vt62
  rw [List.length_map] at llen
  refine CallX.of_body Tryd.func8 nm8 rfl ?_; simp only [Tryd.ntmps8, List.length_cons, List.length_nil, argSt, Nat.reduceAdd, Nat.reduceSub]
  repeat' (first | ((first | refine Z.W0 ?_ | refine Z.X0 ?_); simp only [go_sem, seval]) | (refine hF _ _ ?_; clear hF F) | (refine Z.p0 ?_; simp only [St.put]) | refine Z.a0 ?_ | refine Z.b0 ?_ | refine Z.c0 ?_ | refine Z.h0 ?_ | refine Z.q0 rfl rfl fun F hF => ?_)
  refine awake_ok fun H1 e1 => ?_
  (refine hF _ _ ?_; clear hF F)
  repeat' (first | ((first | refine Z.W0 ?_ | refine Z.X0 ?_); simp only [go_sem, seval]) | (refine hF _ _ ?_; clear hF F) | (refine Z.p0 ?_; simp only [St.put]) | refine Z.a0 ?_ | refine Z.b0 ?_ | refine Z.c0 ?_ | refine Z.h0 ?_ | refine Z.l0 ?_ | refine Z.q0 rfl rfl fun F hF => ?_)
  refine W_loop [0, 1, 5, 6, 7, 8] (fun n s Hc => ∃ (k : Nat) (xa xp : AV), n + k = l.length ∧ Two H Hc xa (allB (l.take k)) xp (putR (l.take k)) ∧ s = [(0, xl), (1, xs), (5, .v (.bool true)), (6, xa), (7, xp), (8, .v (.int .i64 k))]) l.length ?_ ?_
  · simp only [St.keep, St.get, reduceIte, Nat.reduceEqDiff]
    exact ⟨0, _, _, by omega, ⟨e1, .nil, .nil, (fun c h => by cases h), (fun c h => by cases h)⟩, rfl⟩
  clear e1 H1
  rintro n s Hc ⟨k, xa, xp, hn, TT, rfl⟩
  have hwt := weight_take l k
  have hall := allB_le (l.take k)
  have llen1 := (hx.mono TT.le).len vt62
  rw [List.length_map] at llen1
  cases n with
  | succ n =>
    have hlt : k < l.length := by omega
    have d : decide ((k : Int) < (l.length : Int)) = true := by simp; omega
    have hmk := hm l[k] (List.getElem_mem hlt)
    obtain ⟨m1, m2, m3, m4, m5, m6, m7, hcs, c1, c2, c3, c4, c5, c6, c7⟩ := hmk.cells
    have hr7 : (l.map (·.2))[k]'(by simpa using hlt) = l[k].2 := by simp
    obtain ⟨pe, E⟩ := elM (hx.mono TT.le) (k := k) (by simpa using hlt) (by rw [hr7, hcs]; rfl)
    rw [hr7] at E
    have El : ∀ F, aload Tryd.prog 27 pe Hc F = F (.agg l[k].2) := E.load
    have hat := allB_take hlt
    have hpt := putR_take hlt
    have wk : IntKind.i64.wrap ((k : Int) + 1) = ((k + 1 : Nat) : Int) := by rw [wrap_of] <;> omega
    have hw1 := weight_take l (k + 1)
    have hall1 := allB_le (l.take (k + 1))
    repeat' (first | ((first | refine Z.W0 ?_ | refine Z.X0 ?_); simp only [go_sem, seval, llen1, d, E.idx, El]) | (refine hF _ _ ?_; clear hF F) | (refine Z.p0 ?_; simp only [St.put]) | refine Z.a0 ?_ | refine Z.b0 ?_ | refine Z.c0 ?_ | refine Z.h0 ?_ | refine Z.l0 ?_ | refine Z.m0 ?_ | refine Z.q0 rfl rfl fun F hF => ?_ | refine Z.T0 rfl ?_)
    refine make_ok (hmk.mono TT.le) (fun H2 e2 hne => ?_) (fun H2 H3 y e3 he hy => ?_)
    · (refine hF _ _ ?_; clear hF F)
      have d1 : (makeErr l[k].1.1 l[k].1.2.1 l[k].1.2.2 == 0) = false := beq_eq_false_iff_ne.2 hne
      have hno : okM l[k].1 = false := by unfold okM; exact decide_eq_false hne
      rw [hno] at hat hpt
      simp only [Bool.false_eq_true, if_false, List.append_nil] at hat hpt
      repeat' (first | ((first | refine Z.W0 ?_ | refine Z.X0 ?_); simp only [go_sem, seval, d1, wk]) | (refine hF _ _ ?_; clear hF F) | (refine Z.p0 ?_; simp only [St.put]) | refine Z.a0 ?_ | refine Z.b0 ?_ | refine Z.c0 ?_ | refine Z.f0 ?_ | refine Z.h0 ?_ | refine Z.m0 ?_ | refine Z.q0 rfl rfl fun F hF => ?_ | refine Z.U0 rfl ?_)
      simp only [loopK]
      simp only [St.keep, St.get, reduceIte, Nat.reduceEqDiff]
      exact ⟨n, by omega, k + 1, xa, xp, by omega, by rw [hat, hpt]; exact TT.mono e2, rfl⟩
    · have hyes : okM l[k].1 = true := by unfold okM; exact decide_eq_true he
      rw [hyes] at hat hpt
      simp only [if_true] at hat hpt
      have T2 := TT.mono (e3.trans hy.le)
      have hyr : RdS H2 1 (rowsB (frm l[k].1)) y := hy.rd
      have hfl := (frm_len hyes).2.2.1
      obtain ⟨Hb, hon, hsame⟩ := T2.a.on
      rw [hat, List.length_append] at hall1
      (refine hF _ _ ?_; clear hF F)
      repeat' (first | ((first | refine Z.W0 ?_ | refine Z.X0 ?_); simp only [go_sem, seval]) | (refine hF _ _ ?_; clear hF F) | (refine Z.p0 ?_; simp only [St.put]) | refine Z.a0 ?_ | refine Z.b0 ?_ | refine Z.c0 ?_ | refine Z.h0 ?_ | refine Z.q0 rfl rfl fun F hF => ?_ | refine Z.T0 rfl ?_)
      refine app30 hon hyr.src (by omega) fun xa' H4 hxa => ?_
      have T4 := T2.appA (hon.turned hxa) hxa.ow
      rw [← hat] at T4
      obtain ⟨pe4, E4⟩ := elM (hx.mono T4.le) (k := k) (by simpa using hlt) (by rw [hr7, hcs]; rfl)
      rw [hr7] at E4
      have El4 : ∀ F, aload Tryd.prog 27 pe4 H4 F = F (.agg [m1, m2, m3, m4, m5, m6, m7]) := by rw [← hcs]; exact E4.load
      (refine hF _ _ ?_; clear hF F)
      repeat' (first | ((first | refine Z.W0 ?_ | refine Z.X0 ?_); simp only [go_sem, seval, E4.idx, El4, c1, c2, c3, c4, c5, c6, c7]) | (refine hF _ _ ?_; clear hF F) | (refine Z.p0 ?_; simp only [St.put]) | refine Z.b0 ?_ | refine Z.c0 ?_ | refine Z.h0 ?_ | refine Z.q0 rfl rfl fun F hF => ?_)
      obtain ⟨Hp, hop, _⟩ := T4.p.on
      have hpl : (putR (l.take k)).length ≤ l.length := by
        unfold putR good
        rw [List.length_map]
        exact Nat.le_trans (List.length_filter_le _ _) (by simp; omega)
      refine hop.app vt62 rfl rfl Tryd.underlying62 (fun k => by simp) (fun G => by simp [asrc]; rfl) (by simp; omega) fun xp' H5 hxp => ?_
      have T5 := T4.appP (hop.turned hxp) hxp.ow
      rw [← hcs, ← hpt] at T5
      (refine hF _ _ ?_; clear hF F)
      repeat' (first | ((first | refine Z.W0 ?_ | refine Z.X0 ?_); simp only [go_sem, seval, wk]) | (refine hF _ _ ?_; clear hF F) | (refine Z.p0 ?_; simp only [St.put]) | refine Z.b0 ?_ | refine Z.c0 ?_ | refine Z.f0 ?_ | refine Z.h0 ?_ | refine Z.q0 rfl rfl fun F hF => ?_)
      simp only [loopK]
      simp only [St.keep, St.get, reduceIte, Nat.reduceEqDiff]
      exact ⟨n, by omega, k + 1, xa', xp', by omega, T5, rfl⟩
  | zero =>
    obtain rfl : k = l.length := by omega
    rw [List.take_length] at TT hall hwt
    have d : decide ((l.length : Int) < (l.length : Int)) = false := by simp
    repeat' (first | ((first | refine Z.W0 ?_ | refine Z.X0 ?_); simp only [go_sem, seval, llen1, d]) | (refine hF _ _ ?_; clear hF F) | (refine Z.p0 ?_; simp only [St.put]) | refine Z.a0 ?_ | refine Z.b0 ?_ | refine Z.c0 ?_ | refine Z.e0 ?_ | refine Z.h0 ?_ | refine Z.k0 ?_ | refine Z.o0 ?_ | refine Z.q0 rfl rfl fun F hF => ?_ | refine Z.U0 rfl ?_)
    refine app30 (l := []) (On.onil (H0 := Hc) (es := 1)) TT.a.rd.src (by simp only [List.length_nil]; omega) fun y1 H1 hy1 => ?_
    rw [List.nil_append] at hy1
    (refine hF _ _ ?_; clear hF F)
    repeat' (first | ((first | refine Z.W0 ?_ | refine Z.X0 ?_); simp only [go_sem, seval]) | (refine hF _ _ ?_; clear hF F) | refine Z.h0 ?_ | refine Z.q0 rfl rfl fun F hF => ?_)
    refine app30 (a := [100, 0]) hy1 (fun G => by simp [asrc, rowsB]) (by simp only [List.length_cons, List.length_nil]; omega) fun y2 H2 hy2 => ?_
    have eB : Le Hc H2 := hy2.le
    have hle2 : Le H H2 := TT.le.trans eB
    have llen2 := (hx.mono hle2).len vt62
    rw [List.length_map] at llen2
    have hy2r := hy2.rd
    have hgd : ∀ m ∈ (good l).map (·.1), okM m = true := by
      intro m hm
      obtain ⟨q, hq, rfl⟩ := List.mem_map.1 hm
      exact (List.mem_filter.1 hq).2
    have hcut := cut_row (t := [100, 0]) (by decide) ((good l).map (·.1)) hgd
    have hflat : (((good l).map (·.1)).map frm).flatten = allB l := by unfold allB; rw [List.map_map]; rfl
    rw [hflat] at hcut
    obtain ⟨G, hG⟩ : ∃ G, G = good l := ⟨_, rfl⟩
    have hGl : G.length ≤ l.length := by rw [hG]; exact List.length_filter_le _ _
    have hGm : ∀ q ∈ G, q ∈ l ∧ okM q.1 = true := fun q hq => by rw [hG] at hq; exact List.mem_filter.1 hq
    have hput : putR l = G.map (·.2) := by rw [hG]; rfl
    rw [← hG] at hcut
    (refine hF _ _ ?_; clear hF F)
    repeat' (first | ((first | refine Z.W0 ?_ | refine Z.X0 ?_); simp only [go_sem, seval, llen2]) | (refine hF _ _ ?_; clear hF F) | refine Z.h0 ?_ | refine Z.q0 rfl rfl fun F hF => ?_)
    refine told_ok hy2r (by simp only [List.length_append, List.length_cons, List.length_nil]; omega) (hz.mono hle2) hzl fun H3 xo rows e3 ro so => ?_
    rw [hcut] at so ⊢
    simp only at so
    have hle3 : Le H H3 := hle2.trans e3
    have lo := lenS ro so
    have hp3 := TT.p.rd.mono (eB.trans e3)
    rw [hput] at hp3
    have lp := hp3.len vt62
    simp only [List.length_map] at lo lp
    (refine hF _ _ ?_; clear hF F)
    repeat' (first | ((first | refine Z.W0 ?_ | refine Z.X0 ?_); simp only [go_sem, seval, lo, lp]) | (refine hF _ _ ?_; clear hF F) | (refine Z.p0 ?_; simp only [St.put]) | refine Z.a0 ?_ | refine Z.b0 ?_ | refine Z.c0 ?_ | refine Z.h0 ?_ | refine Z.l0 ?_ | refine Z.m0 ?_ | refine Z.q0 rfl rfl fun F hF => ?_ | refine Z.r0 rfl rfl rfl rfl fun F hF => ?_ | refine Z.U0 rfl ?_)
    refine W_loop [7, 11, 13] (fun n s Hc => ∃ k : Nat, n + k = G.length ∧ Le H3 Hc ∧ s = [(7, xp), (11, xo), (13, .v (.int .i64 k))]) G.length ?_ ?_
    · simp only [St.keep, St.get, reduceIte, Nat.reduceEqDiff]
      exact ⟨0, by omega, Le.refl _, rfl⟩
    rintro n s H4 ⟨k, hn, e4, rfl⟩
    have lo4 := lenS (ro.mono e4) (so.mono e4)
    simp only [List.length_map] at lo4
    cases n with
    | zero =>
      obtain rfl : k = G.length := by omega
      have d : decide ((G.length : Int) < (G.length : Int)) = false := by simp
      repeat' (first | ((first | refine Z.W0 ?_ | refine Z.X0 ?_); simp only [go_sem, seval, lo4, d]) | (refine hF _ _ ?_; clear hF F) | (refine Z.p0 ?_; simp only [St.put]) | refine Z.a0 ?_ | refine Z.b0 ?_ | refine Z.c0 ?_ | refine Z.e0 ?_ | refine Z.h0 ?_ | refine Z.k0 ?_ | refine Z.n0 ?_ | refine Z.o0 ?_ | refine Z.q0 rfl rfl fun F hF => ?_ | refine Z.U0 rfl ?_)
      simp only [retK, ares, pack, Tryd.results8, St.get, reduceIte, Nat.reduceEqDiff, aload, arow, List.toArray, Array.toList]
      exact hk _ (hle3.trans e4)
    | succ n =>
      have hlt : k < G.length := by omega
      have d : decide ((k : Int) < (G.length : Int)) = true := by simp; omega
      obtain ⟨hin, hok⟩ := hGm G[k] (List.getElem_mem hlt)
      have hmk := hm _ hin
      have hmake : makeErr G[k].1.1 G[k].1.2.1 G[k].1.2.2 = 0 := by simpa [okM] using hok
      have okv : okV G[k].1.2.2 := by obtain ⟨_, _, c, _, hv⟩ := hmk; exact rdV_ok _ _ c (Nat.lt_succ_self _) hv
      obtain ⟨pe, y, E⟩ := elS (ro.mono e4) (so.mono e4) (k := k) (by simpa using hlt)
      have hf : ((G.map (·.1)).map frm)[k]'(by simpa using hlt) = frm G[k].1 := by simp
      rw [hf] at E
      have hlen := (frm_len hok).2.2.1
      repeat' (first | ((first | refine Z.W0 ?_ | refine Z.X0 ?_); simp only [go_sem, seval, lo4, d, E.idx, E.load]) | (refine hF _ _ ?_; clear hF F) | (refine Z.p0 ?_; simp only [St.put]) | refine Z.a0 ?_ | refine Z.b0 ?_ | refine Z.c0 ?_ | refine Z.h0 ?_ | refine Z.l0 ?_ | refine Z.m0 ?_ | refine Z.q0 rfl rfl fun F hF => ?_ | refine Z.T0 rfl ?_)
      refine parse_ok E.rd (by omega) fun H5 Hv5 cs5 e5 a5 le5 mm5 => ?_
      have hpf : parse (frm G[k].1) = (G[k].1, 0) := parse_frame okv hmake
      rw [hpf] at mm5 ⊢
      simp only at mm5
      obtain ⟨a', b', c', d', e', f', g', rfl, q1', q2', q3', q4', q5', q6', q7'⟩ := mm5.cells
      (refine hF _ _ ?_; clear hF F)
      repeat' (first | ((first | refine Z.W0 ?_ | refine Z.X0 ?_); simp only [go_sem, seval, q1', q2', q3', q4', q5', q6', q7']) | (refine hF _ _ ?_; clear hF F) | refine Z.h0 ?_ | refine Z.q0 rfl rfl fun F hF => ?_)
      (refine box_go2 fun b14 H6 e6 n6 o6 => ?_; refine hF _ _ ?_; clear hF F)
      repeat' (first | ((first | refine Z.W0 ?_ | refine Z.X0 ?_); simp only [go_sem, seval, o6, q1', q2', q3', q4', q5', q6', q7']) | (refine hF _ _ ?_; clear hF F) | (refine Z.p0 ?_; simp only [St.put]) | refine Z.a0 ?_ | refine Z.c0 ?_ | refine Z.h0 ?_ | refine Z.q0 rfl rfl fun F hF => ?_)
      generalize hq : AH.set H6 b14 _ = H7; have e7 : Le H5 H7 := (by rw [← hq]; exact e6.set' n6); have o7 := (congrFun hq b14).symm; rw [AH.set_same] at o7; clear hq
      have e37 : Le H3 H7 := (e4.trans e5).trans e7
      obtain ⟨m1, m2, m3, m4, m5, m6, m7, hcs, _⟩ := hmk.cells
      have hr7 : (G.map (·.2))[k]'(by simpa using hlt) = G[k].2 := by simp
      obtain ⟨pm, EM⟩ := elM (hp3.mono e37) (k := k) (by simpa using hlt) (by rw [hr7, hcs]; rfl)
      rw [hr7] at EM
      have EMl : ∀ F, aload Tryd.prog 27 pm H7 F = F (.agg G[k].2) := EM.load
      repeat' (first | ((first | refine Z.W0 ?_ | refine Z.X0 ?_); simp only [go_sem, seval, o7, EM.idx, EMl]) | (refine hF _ _ ?_; clear hF F) | refine Z.h0 ?_ | refine Z.A0 rfl rfl rfl fun F hF => ?_ | refine Z.B0 rfl rfl rfl fun F hF => ?_ | refine W_drawn (id := 18) [0, 0, 0, 6, 14, 31, 63] [.a 0, .a 1, .a 2, .a 3, .a 4, .e 5 [], .e 6 []] mixed (by decide +kernel) ?_)
      refine msame_ok (mm5.mono (le5.trans e7)) (hmk.mono (hle3.trans e37)) fun H8 e8 => ?_
      have hs : (sameV G[k].1.2.2 G[k].1.2.2 && decide (G[k].1.1 = G[k].1.1) && decide (G[k].1.2.1 = G[k].1.2.1)) = true := by rw [sameV_true rfl]; simp
      rw [hs]
      have wk : IntKind.i64.wrap ((k : Int) + 1) = ((k + 1 : Nat) : Int) := by rw [wrap_of] <;> omega
      (refine hF _ _ ?_; clear hF F)
      repeat' (first | ((first | refine Z.W0 ?_ | refine Z.X0 ?_); simp only [go_sem, seval, wk]) | (refine hF _ _ ?_; clear hF F) | (refine Z.p0 ?_; simp only [St.put]) | refine Z.a0 ?_ | refine Z.b0 ?_ | refine Z.c0 ?_ | refine Z.f0 ?_ | refine Z.h0 ?_ | refine Z.m0 ?_ | refine Z.q0 rfl rfl fun F hF => ?_ | refine Z.r0 rfl rfl rfl rfl fun F hF => ?_ | refine Z.B0 rfl rfl rfl fun F hF => ?_ | (refine Z.D0 ?_; simp only [St.put]) | refine Z.U0 rfl ?_)
      simp only [loopK]
      simp only [St.keep, St.get, reduceIte, Nat.reduceEqDiff]
      exact ⟨n, by omega, k + 1, by omega, e37.trans e8, rfl⟩
end Go.Proofs.YtboojmppmaepmaaDoor
/- What came in, read: numbers, messages. -/
namespace Go.Proofs.YtboojmppmaepmaaDoor
set_option maxHeartbeats 8000000
set_option linter.all false
set_option maxRecDepth 10000
open Go Go.Fw Go.ChangeShapes Go.WideShapes Go.ChangeAt Go.RowKit Go.Lib

section
variable {H : Type} {enc : TypeId × Value → H} {w : World}
theorem rowsI_of : ∀ rows : List (List AV), (∀ r ∈ rows, ∃ c : Int, r = [.v (.int .i64 c)]) → ∃ l : List Int, rows = rowsI l
  | [], _ => ⟨[], rfl⟩
  | r :: rows, h => by
    obtain ⟨c, rfl⟩ := h r (by simp)
    obtain ⟨l, rfl⟩ := rowsI_of rows (fun q hq => h q (by simp [hq]))
    exact ⟨c :: l, rfl⟩
/-- Whole numbers that came in. -/
theorem rep_ints {v : Value} {d : DataW H} {ps : List MemPlace} (hv : ∃ a l c, v = .slice a l c) (h : DataW.Trod enc Tryd.prog w 0 (fun _ => true) true 58 v d ps) :
    ∃ l : List Int, Rep w (fun _ => False) (.imm 1 (rowsI l)) v ∧ (Rows.uptoBulk d ≤ 1000000000 → l.length ≤ 1000000000) := by
  obtain ⟨a, l, c, rfl⟩ := hv
  obtain ⟨n, h⟩ := h
  obtain ⟨rows, h1, _, h2⟩ := repL_slice (Q := fun _ r => ∃ c : Int, r = [.v (.int .i64 c)]) Tryd.underlying58 (by rw [cl3]; decide) h (fun m cs' d' p' _ _ h => by
    obtain ⟨z, _, r, hw⟩ := repL_int Tryd.underlying3 h
    exact ⟨[.v (.int .i64 z)], ⟨z, rfl⟩, r⟩)
  rw [cl3] at h1
  rcases h2 with ⟨_, rfl⟩ | ⟨el, sp, rfl, hl, hq⟩
  · exact ⟨[], h1.single, fun _ => by simp⟩
  · obtain ⟨l, rfl⟩ := rowsI_of rows (by
      intro r hr
      obtain ⟨i, hi, rfl⟩ := List.getElem_of_mem hr
      exact hq i _ _ (List.getElem?_eq_getElem (by omega)) (List.getElem?_eq_getElem hi))
    refine ⟨l, h1.single, fun hb => ?_⟩
    have := all_le el
    have := slice_le (el := el) (sp := sp)
    simp only [rowsI_length] at hl
    omega
/-- Messages that came in. -/
theorem rep_msgs {v : Value} {d : DataW H} {ps : List MemPlace} (hv : ∃ a l c, v = .slice a l c) (h : DataW.Trod enc Tryd.prog w 0 (fun _ => true) true 62 v d ps) :
    ∃ rows, Rep w (fun _ => False) (.imm 7 rows) v ∧ (Rows.uptoBulk d ≤ 1000000000 → rows.length ≤ 1000000000 ∧ ∀ r ∈ rows, ∃ i j x, RdM (fun _ => none) i j x r) := by
  obtain ⟨a, l, c, rfl⟩ := hv
  obtain ⟨n, h⟩ := h
  obtain ⟨rows, h1, h2⟩ := slice_rows (R := fun r => ∃ i j x, RdM (fun _ => none) i j x r) Tryd.underlying62 (by rw [cl27]; decide) h (fun m cs' d' p' _ _ h => repL_message h)
  rw [cl27] at h1
  exact ⟨rows, h1.single, h2⟩
end
end Go.Proofs.YtboojmppmaepmaaDoor
/- Messages that came in, with what they weigh. -/
namespace Go.Proofs.YtboojmppmaepmaaDoor
set_option maxHeartbeats 8000000
set_option linter.all false
set_option maxRecDepth 10000
open Go Go.Fw Go.ChangeShapes Go.WideShapes Go.ChangeAt Go.RowKit Go.Lib

section
variable {H : Type} {enc : TypeId × Value → H} {w : World}

/-- Pairwise. -/
def Pw (R : Nat → List AV → Prop) : List Nat → List (List AV) → Prop
  | [], rows => rows = []
  | b :: bs, rows => ∃ r rows', rows = r :: rows' ∧ R b r ∧ Pw R bs rows'
theorem pw_of {R : Nat → List AV → Prop} : ∀ (bs : List Nat) (rows : List (List AV)), bs.length = rows.length → (∀ (i : Nat) b r, bs[i]? = some b → rows[i]? = some r → R b r) → Pw R bs rows
  | [], [], _, _ => rfl
  | b :: bs, r :: rows, hl, h => ⟨r, rows, rfl, h 0 b r rfl rfl, pw_of bs rows (by simpa using hl) fun i b' r' h1 h2 => h (i + 1) b' r' (by simpa using h1) (by simpa using h2)⟩
theorem bulk_sum (l : List (DataW H)) : Rows.uptoBulkAll l = (l.map Rows.uptoBulk).sum := by
  induction l with
  | nil => rfl
  | cons x r ih => simp only [Rows.uptoBulkAll, List.map_cons, List.sum_cons, ih]
theorem slice_rows2 {t e : TypeId} {n : Nat} {cs : List Value} {d : DataW H} {ps : List MemPlace} {R : Nat → List AV → Prop} (ht : Tryd.prog.underlying t = some (.slice e)) (hz : Tryd.prog.cellsOf e ≠ 0) (h : tr enc Tryd.prog w n t cs = some (d, ps))
    (hel : ∀ m cs' d' p', m < n → cs'.length = Tryd.prog.cellsOf e → tr enc Tryd.prog w m e cs' = some (d', p') → ∃ r, (Rows.uptoBulk d' ≤ 1000000000 → R (Rows.uptoBulk d') r) ∧ RepL w r cs') :
    ∃ rows, RepL w [.imm (Tryd.prog.cellsOf e) rows] cs ∧ (Rows.uptoBulk d ≤ 1000000000 → rows.length ≤ 1000000000 ∧ ∃ bs : List Nat, bs.sum + 1 ≤ Rows.uptoBulk d ∧ Pw R bs rows) := by
  obtain ⟨rows, h1, _, h2⟩ := repL_slice (Q := fun d' r => Rows.uptoBulk d' ≤ 1000000000 → R (Rows.uptoBulk d') r) ht hz h hel
  refine ⟨rows, h1, fun hb => ?_⟩
  rcases h2 with ⟨rfl, rfl⟩ | ⟨el, sp, rfl, hl, hq⟩
  · exact ⟨by simp, [], by simp [Rows.uptoBulk], rfl⟩
  · have hs := slice_le (el := el) (sp := sp)
    refine ⟨by have := all_le el; omega, el.map Rows.uptoBulk, by rw [← bulk_sum]; exact hs, pw_of _ _ (by simpa using hl) fun i b r h1 h2 => ?_⟩
    simp only [List.getElem?_map, Option.map_eq_some_iff] at h1
    obtain ⟨d', hd', rfl⟩ := h1
    exact hq i _ _ hd' h2 (by have := le_all hd'; omega)

theorem rdVs_of2 {Hv : AH} : ∀ (bs : List Nat) (rows : List (List AV)), Pw (fun b r => ∃ v, RdV Hv v r ∧ sizeV v + 13 ≤ 20 * b) bs rows → ∃ l, RdVs Hv l rows ∧ ∀ i, i + l.length ≤ 10000000000 → sizeL i l ≤ 20 * bs.sum
  | [], rows, h => ⟨[], h, fun i _ => by simp [sizeL]⟩
  | b :: bs, rows, h => by
    obtain ⟨r, rows', rfl, ⟨v, hv, hs⟩, hp⟩ := h
    obtain ⟨l, hl, hsum⟩ := rdVs_of2 bs rows' hp
    refine ⟨v :: l, ⟨r, rows', rfl, hv, hl⟩, fun i hi => ?_⟩
    rw [List.length_cons] at hi
    have h1 := hsum (i + 1) (by omega)
    have h2 := itoa_short (k := i) (by omega)
    simp only [sizeL, List.sum_cons]
    omega
theorem rdFs_of2 {Hv : AH} : ∀ (bs : List Nat) (rows : List (List AV)), Pw (fun b r => ∃ nm v c, r = .v (.string (Go.Fw.bs nm)) :: c ∧ nm.length ≤ 1000000000 ∧ RdV Hv v c ∧ 2 + nm.length + sizeV v ≤ 20 * b) bs rows → ∃ l, RdFs Hv l rows ∧ sizeD l ≤ 20 * bs.sum
  | [], rows, h => ⟨[], h, by simp [sizeD]⟩
  | b :: bs, rows, h => by
    obtain ⟨r, rows', rfl, ⟨nm, v, c, rfl, hn, hv, hs⟩, hp⟩ := h
    obtain ⟨l, hl, hsum⟩ := rdFs_of2 bs rows' hp
    refine ⟨(nm, v) :: l, ⟨c, rows', rfl, hn, hv, hl⟩, ?_⟩
    simp only [sizeD, List.sum_cons]
    omega

theorem repL_value2 : ∀ (n : Nat) (cs : List Value) (d : DataW H) (ps : List MemPlace), tr enc Tryd.prog w n 25 cs = some (d, ps) →
    ∃ r, (Rows.uptoBulk d ≤ 1000000000 → ∃ v, RdV (fun _ => none) v r ∧ sizeV v + 13 ≤ 20 * Rows.uptoBulk d) ∧ RepL w r cs := by
  intro n
  induction n using Nat.strongRecOn with
  | ind n ih =>
    intro cs d ps h
    obtain ⟨m, ds, rfl, rfl, hc, hl, hf⟩ := tr_struct Tryd.underlying25 h
    rw [cl25] at hc
    obtain ⟨c0, c1, c2, c3, c4, rfl⟩ : ∃ c0 c1 c2 c3 c4, cs = [c0, c1, c2, c3, c4] := by
      match cs, hc with
      | [c0, c1, c2, c3, c4], _ => exact ⟨c0, c1, c2, c3, c4, rfl⟩
    obtain ⟨d0, _, i0, h0⟩ := hf 0 _ rfl
    obtain ⟨d1, _, i1, h1⟩ := hf 1 _ rfl
    obtain ⟨d2, _, i2, h2⟩ := hf 2 _ rfl
    obtain ⟨d3, _, i3, h3⟩ := hf 3 _ rfl
    obtain ⟨d4, _, i4, h4⟩ := hf 4 _ rfl
    simp only [List.getElem_toArray, List.getElem_cons_zero, List.getElem_cons_succ, cl3, cl9, cl22, cl23, List.drop_zero, List.drop_succ_cons, List.take_succ_cons, List.take_zero] at h0 h1 h2 h3 h4
    obtain ⟨z0, _, r0, w0⟩ := repL_int Tryd.underlying3 h0
    obtain ⟨z1, _, r1, w1⟩ := repL_int Tryd.underlying3 h1
    obtain ⟨s2, e2, r2, _⟩ := repL_string Tryd.underlying9 h2
    obtain ⟨rl, r3, q3⟩ := slice_rows2 (R := fun b r => ∃ v, RdV (fun _ => none) v r ∧ sizeV v + 13 ≤ 20 * b) Tryd.underlying22 (by rw [cl25]; decide) h3 (fun m' cs' d' p' hm _ h => ih m' (by omega) cs' d' p' h)
    obtain ⟨rd, r4, q4⟩ := slice_rows2 (R := fun b r => ∃ nm v c, r = .v (.string (Go.Fw.bs nm)) :: c ∧ nm.length ≤ 1000000000 ∧ RdV (fun _ => none) v c ∧ 2 + nm.length + sizeV v ≤ 20 * b) Tryd.underlying23 (by rw [cl66]; decide) h4 (fun m' cs' d' p' hm hcl h => by
      rw [cl66] at hcl
      obtain ⟨m2, ds2, rfl, rfl, _, hl2, hf2⟩ := tr_struct Tryd.underlying66 h
      obtain ⟨k0, k1, k2, k3, k4, k5, rfl⟩ : ∃ k0 k1 k2 k3 k4 k5, cs' = [k0, k1, k2, k3, k4, k5] := by
        match cs', hcl with
        | [k0, k1, k2, k3, k4, k5], _ => exact ⟨k0, k1, k2, k3, k4, k5, rfl⟩
      obtain ⟨e0, _, j0, g0⟩ := hf2 0 _ rfl
      obtain ⟨e1, _, j1, g1⟩ := hf2 1 _ rfl
      simp only [List.getElem_toArray, List.getElem_cons_zero, List.getElem_cons_succ, cl9, cl25, List.drop_zero, List.drop_succ_cons, List.take_succ_cons, List.take_zero] at g0 g1
      obtain ⟨nm, en, rn, _⟩ := repL_string Tryd.underlying9 g0
      obtain ⟨c, a1, a2⟩ := ih m2 (by omega) _ _ _ g1
      refine ⟨.v (.string nm) :: c, fun hb => ?_, rn.append a2⟩
      obtain ⟨ea, eb, rfl⟩ : ∃ ea eb, ds2 = [ea, eb] := by
        match ds2, hl2 with
        | [ea, eb], _ => exact ⟨ea, eb, rfl⟩
      simp only [List.getElem?_cons_zero, List.getElem?_cons_succ, Option.some.injEq] at j0 j1
      subst j0 j1
      rw [en] at hb ⊢
      simp only [Rows.uptoBulk, Rows.uptoBulkAll] at hb ⊢
      obtain ⟨v, hv, hs⟩ := a1 (by omega)
      have hnl : nm.data.toList.length = nm.size := by rw [Array.length_toList]; rfl
      refine ⟨nm.data.toList, v, c, by rw [bs_of], by omega, hv, by omega⟩)
    rw [cl25] at r3
    rw [cl66] at r4
    refine ⟨[.v (.int .i64 z0), .v (.int .i64 z1), .v (.string s2), .imm 5 rl, .imm 6 rd], fun hb => ?_, (((r0.append r1).append r2).append r3).append r4⟩
    obtain ⟨da, db, dc, dd, de, rfl⟩ : ∃ da db dc dd de, ds = [da, db, dc, dd, de] := by
      match ds, hl with
      | [da, db, dc, dd, de], _ => exact ⟨da, db, dc, dd, de, rfl⟩
    simp only [List.getElem?_cons_zero, List.getElem?_cons_succ, Option.some.injEq] at i0 i1 i2 i3 i4
    subst i0 i1 i2 i3 i4
    rw [e2] at hb ⊢
    simp only [Rows.uptoBulk, Rows.uptoBulkAll] at hb ⊢
    have p0 := one_le da
    have p1 := one_le db
    obtain ⟨p3, b3, s3, p3'⟩ := q3 (by omega)
    obtain ⟨p4, b4, s4, p4'⟩ := q4 (by omega)
    obtain ⟨lv, hlv, sl⟩ := rdVs_of2 b3 rl p3'
    obtain ⟨dv, hdv, sd⟩ := rdFs_of2 b4 rd p4'
    have n3 := hlv.len
    have n4 := hdv.len
    have sl0 := sl 0 (by omega)
    refine ⟨.mk z0 z1 s2.data.toList lv dv, ?_, ?_⟩
    · have := RdV.mk (H := fun _ => none) (k := z0) (i := z1) (t := s2.data.toList) (l := lv) (d := dv) (lit_wf w0) (lit_wf w1) (by omega) (by omega) (by omega) (.imm rl) (.imm rd) hlv hdv
      rw [bs_of] at this
      exact this
    · rw [sizeV]
      repeat' split
      all_goals omega

/-- Messages that came in. -/
theorem mr_of : ∀ (bs : List Nat) (rows : List (List AV)), Pw (fun b r => ∃ i j x, RdM (fun _ => none) i j x r ∧ 21 + sizeV x ≤ 40 * b) bs rows → ∃ l : List MR, rows = l.map (·.2) ∧ (∀ q ∈ l, RdM (fun _ => none) q.1.1 q.1.2.1 q.1.2.2 q.2) ∧ weight l ≤ 40 * bs.sum
  | [], rows, h => ⟨[], h, (fun q hq => by simp at hq), by simp [weight]⟩
  | b :: bs, rows, h => by
    obtain ⟨r, rows', rfl, ⟨i, j, x, hm, hs⟩, hp⟩ := h
    obtain ⟨l, rfl, g1, g2⟩ := mr_of bs rows' hp
    refine ⟨((i, j, x), r) :: l, rfl, fun q hq => ?_, ?_⟩
    · simp only [List.mem_cons] at hq
      rcases hq with rfl | hq
      · exact hm
      · exact g1 q hq
    · simp only [weight, List.sum_cons]
      omega
theorem rep_msgs2 {v : Value} {d : DataW H} {ps : List MemPlace} (hv : ∃ a l c, v = .slice a l c) (h : DataW.Trod enc Tryd.prog w 0 (fun _ => true) true 62 v d ps) :
    ∃ rows, Rep w (fun _ => False) (.imm 7 rows) v ∧ (Rows.uptoBulk d ≤ 10000000 → ∃ l : List MR, rows = l.map (·.2) ∧ (∀ q ∈ l, RdM (fun _ => none) q.1.1 q.1.2.1 q.1.2.2 q.2) ∧ weight l ≤ 500000000) := by
  obtain ⟨a, l, c, rfl⟩ := hv
  obtain ⟨n, h⟩ := h
  obtain ⟨rows, h1, h2⟩ := slice_rows2 (R := fun b r => ∃ i j x, RdM (fun _ => none) i j x r ∧ 21 + sizeV x ≤ 40 * b) Tryd.underlying62 (by rw [cl27]; decide) h (fun m cs' d' p' _ _ h => by
    obtain ⟨m2, ds, rfl, rfl, hc, hl, hf⟩ := tr_struct Tryd.underlying27 h
    rw [cl27] at hc
    obtain ⟨c0, c1, c2, c3, c4, c5, c6, rfl⟩ : ∃ c0 c1 c2 c3 c4 c5 c6, cs' = [c0, c1, c2, c3, c4, c5, c6] := by
      match cs', hc with
      | [c0, c1, c2, c3, c4, c5, c6], _ => exact ⟨c0, c1, c2, c3, c4, c5, c6, rfl⟩
    obtain ⟨d0, _, i0, h0⟩ := hf 0 _ rfl
    obtain ⟨d1, _, i1, h1⟩ := hf 1 _ rfl
    obtain ⟨d2, _, i2, h2⟩ := hf 2 _ rfl
    simp only [List.getElem_toArray, List.getElem_cons_zero, List.getElem_cons_succ, cl3, cl25, List.drop_zero, List.drop_succ_cons, List.take_succ_cons, List.take_zero] at h0 h1 h2
    obtain ⟨z0, _, r0, w0⟩ := repL_int Tryd.underlying3 h0
    obtain ⟨z1, _, r1, w1⟩ := repL_int Tryd.underlying3 h1
    obtain ⟨c, a1, a2⟩ := repL_value2 _ _ _ _ h2
    refine ⟨.v (.int .i64 z0) :: .v (.int .i64 z1) :: c, fun hb => ?_, (r0.append r1).append a2⟩
    simp only [Rows.uptoBulk] at hb ⊢
    have b2 := le_all i2
    obtain ⟨v, hv, hs⟩ := a1 (by omega)
    exact ⟨z0, z1, v, ⟨lit_wf w0, lit_wf w1, c, rfl, hv⟩, by omega⟩)
  rw [cl27] at h1
  refine ⟨rows, h1.single, fun hb => ?_⟩
  obtain ⟨_, bs, hs, hp⟩ := h2 (by omega)
  obtain ⟨l, g1, g2, g3⟩ := mr_of bs rows hp
  exact ⟨l, g1, g2, by omega⟩
end
theorem small_of2 {H : Type} {l gs : List (DataW H)} {i : Nat} {d : DataW H} (hd : l[i]? = some d) (hk : Rows.uptoSmall H (l ++ gs) = true) : Rows.uptoBulk d ≤ 10000000 := by
  have h := of_decide_eq_true hk
  have h2 := le_all (l := l ++ gs) (i := i) (d := d) (by rw [List.getElem?_append_left (List.getElem?_eq_some_iff.1 hd).1]; exact hd)
  omega
end Go.Proofs.YtboojmppmaepmaaDoor
