/- The walks and the plain laws that the row rests on, part 4: Yf Yg Yh Yi Yj. -/
import Derived.Test.YtboojmppmaepmaaDoorQ3
/- Bytes cut into frames: in whatever pieces they come. -/
namespace Go.Proofs.YtboojmppmaepmaaDoor
set_option maxHeartbeats 8000000
set_option linter.all false
open Go Go.Fw

def badHead (l : Bs) : Prop := 4 ≤ l.length ∧ lenOk (num l 0 4) = false
instance (l : Bs) : Decidable (badHead l) := by unfold badHead; infer_instance
def cut : Nat → Bs → List Bs × Bool
  | 0, _ => ([], false)
  | f + 1, l => if badHead l then ([], true) else if ready l = true then (l.take (num l 0 4) :: (cut f (l.drop (num l 0 4))).1, (cut f (l.drop (num l 0 4))).2) else ([], false)
def cutF (l : Bs) : List Bs × Bool := cut (l.length + 1) l

theorem ready_iff {l : Bs} : ready l = true ↔ 4 ≤ l.length ∧ num l 0 4 ≤ l.length := by simp [ready]
theorem good_len {l : Bs} (h : ¬ badHead l) (h4 : 4 ≤ l.length) : 26 ≤ num l 0 4 ∧ num l 0 4 ≤ 131072 := by
  have : lenOk (num l 0 4) = true := by
    cases e : lenOk (num l 0 4)
    · exact absurd ⟨h4, e⟩ h
    · rfl
  simp only [lenOk, Bool.and_eq_true, decide_eq_true_eq] at this
  omega
theorem cut_fuel : ∀ (f g : Nat) (l : Bs), l.length < f → l.length < g → cut f l = cut g l := by
  intro f
  induction f with
  | zero => intro g l h; omega
  | succ f ih =>
    intro g l hf hg
    obtain ⟨g, rfl⟩ : ∃ g', g = g' + 1 := ⟨g - 1, by omega⟩
    simp only [cut]
    by_cases hb : badHead l
    · rw [if_pos hb, if_pos hb]
    · rw [if_neg hb, if_neg hb]
      by_cases hr : ready l = true
      · obtain ⟨r1, r2⟩ := ready_iff.1 hr
        have := good_len hb r1
        rw [if_pos hr, if_pos hr, ih g (l.drop (num l 0 4)) (by simp; omega) (by simp; omega)]
      · rw [if_neg hr, if_neg hr]
theorem cutF_eq (l : Bs) : cutF l = if badHead l then ([], true) else if ready l = true then (l.take (num l 0 4) :: (cutF (l.drop (num l 0 4))).1, (cutF (l.drop (num l 0 4))).2) else ([], false) := by
  unfold cutF
  conv => lhs; unfold cut
  by_cases hb : badHead l
  · rw [if_pos hb, if_pos hb]
  · rw [if_neg hb, if_neg hb]
    by_cases hr : ready l = true
    · obtain ⟨r1, r2⟩ := ready_iff.1 hr
      have := good_len hb r1
      rw [if_pos hr, if_pos hr, cut_fuel l.length ((l.drop (num l 0 4)).length + 1) _ (by simp; omega) (by omega)]
    · rw [if_neg hr, if_neg hr]

theorem num_app {l r : Bs} (h : 4 ≤ l.length) : num (l ++ r) 0 4 = num l 0 4 := by
  unfold num
  rw [List.drop_zero, List.drop_zero, List.take_append_of_le_length (by omega)]
theorem bad_app {l r : Bs} (h : badHead l) : badHead (l ++ r) := ⟨by rw [List.length_append]; have := h.1; omega, by rw [num_app h.1]; exact h.2⟩
theorem bad_of_app {l r : Bs} (h4 : 4 ≤ l.length) (h : badHead (l ++ r)) : badHead l := ⟨h4, by have := h.2; rwa [num_app h4] at this⟩

/-- What is known of the reading of b, when the frames fs are told, the reader holds l, and rest is still to come. -/
structure Cut (b : Bs) (fs : List Bs) (l : Bs) (gone : Bool) (rest : Bs) : Prop where
  few : 26 * fs.length + l.length + rest.length ≤ b.length
  going : gone = false → ¬ badHead l ∧ cutF b = (fs ++ (cutF (l ++ rest)).1, (cutF (l ++ rest)).2)
  stopped : gone = true → l = [] ∧ cutF b = (fs, true)

theorem Cut.start (b : Bs) : Cut b [] [] false b :=
  ⟨by simp, fun _ => ⟨(fun h => by have := h.1; simp at this), by simp⟩, (fun h => by cases h)⟩
theorem settle_bad {l : Bs} {g : Bool} (h : badHead l) : settle l g = ([], true) := if_pos h
theorem settle_good {l : Bs} {g : Bool} (h : ¬ badHead l) : settle l g = (l, g) := if_neg h
/-- Bytes come. -/
theorem Cut.feed {b : Bs} {fs : List Bs} {l p r : Bs} {gone : Bool} (h : Cut b fs l gone (p ++ r)) : Cut b fs (feed l gone p).1 (feed l gone p).2 r := by
  have hf := h.few
  rw [List.length_append] at hf
  unfold Go.Proofs.YtboojmppmaepmaaDoor.feed
  cases gone with
  | true =>
    rw [if_pos rfl]
    obtain ⟨g1, g2⟩ := h.stopped rfl
    exact ⟨by simp only; omega, (fun e => by cases e), fun _ => ⟨g1, g2⟩⟩
  | false =>
    rw [if_neg (by simp)]
    obtain ⟨g1, g2⟩ := h.going rfl
    by_cases hb : badHead (l ++ p)
    · rw [settle_bad hb]
      have hb2 : badHead (l ++ (p ++ r)) := by rw [← List.append_assoc]; exact bad_app hb
      refine ⟨by simp only [List.length_nil]; omega, (fun e => by cases e), fun _ => ⟨rfl, ?_⟩⟩
      rw [g2, cutF_eq, if_pos hb2]
      simp
    · rw [settle_good hb]
      refine ⟨by simp only [List.length_append]; omega, fun _ => ⟨hb, ?_⟩, fun e => (by simp at e)⟩
      rw [g2, List.append_assoc]
/-- A frame is told. -/
theorem Cut.next {b : Bs} {fs : List Bs} {l r : Bs} {gone : Bool} (h : Cut b fs l gone r) (hr : ready l = true) :
    gone = false ∧ 26 ≤ num l 0 4 ∧ num l 0 4 ≤ l.length ∧ Cut b (fs ++ [l.take (num l 0 4)]) (settle (l.drop (num l 0 4)) gone).1 (settle (l.drop (num l 0 4)) gone).2 r := by
  obtain ⟨r1, r2⟩ := ready_iff.1 hr
  have hf := h.few
  cases gone with
  | true =>
    obtain ⟨g1, _⟩ := h.stopped rfl
    rw [g1] at r1; simp at r1
  | false =>
    obtain ⟨g1, g2⟩ := h.going rfl
    obtain ⟨n1, n2⟩ := good_len g1 r1
    have hng : ¬ badHead (l ++ r) := fun hb => g1 (bad_of_app r1 hb)
    have hre : ready (l ++ r) = true := ready_iff.2 ⟨by rw [List.length_append]; omega, by rw [num_app r1, List.length_append]; omega⟩
    have hstep : cutF (l ++ r) = (l.take (num l 0 4) :: (cutF (l.drop (num l 0 4) ++ r)).1, (cutF (l.drop (num l 0 4) ++ r)).2) := by
      rw [cutF_eq, if_neg hng, if_pos hre, num_app r1, List.take_append_of_le_length r2, List.drop_append_of_le_length r2]
    refine ⟨rfl, n1, r2, ?_⟩
    by_cases hb : badHead (l.drop (num l 0 4))
    · rw [settle_bad hb]
      refine ⟨by simp only [List.length_nil, List.length_append, List.length_cons]; omega, (fun e => by cases e), fun _ => ⟨rfl, ?_⟩⟩
      rw [g2, hstep, cutF_eq (l.drop (num l 0 4) ++ r), if_pos (bad_app hb)]
    · rw [settle_good hb]
      refine ⟨by simp only [List.length_drop, List.length_append, List.length_cons, List.length_nil]; omega, fun _ => ⟨hb, ?_⟩, fun e => (by simp at e)⟩
      rw [g2, hstep]
      simp
/-- No more comes. -/
theorem Cut.done {b : Bs} {fs : List Bs} {l : Bs} {gone : Bool} (h : Cut b fs l gone []) (hr : ready l = false) : cutF b = (fs, gone) := by
  cases gone with
  | true => exact (h.stopped rfl).2
  | false =>
    obtain ⟨g1, g2⟩ := h.going rfl
    rw [g2, List.append_nil, cutF_eq, if_neg g1, hr]
    simp

/-- The frames stand one behind another at the head. -/
theorem cut_flat : ∀ (m : Nat) (b : Bs), b.length < m → ∃ r, b = (cutF b).1.flatten ++ r ∧ ∀ f ∈ (cutF b).1, 26 ≤ f.length := by
  intro m
  induction m with
  | zero => intro b h; omega
  | succ m ih =>
    intro b h
    rw [cutF_eq]
    by_cases hb : badHead b
    · rw [if_pos hb]
      exact ⟨b, by simp, fun f hf => by simp at hf⟩
    · rw [if_neg hb]
      by_cases hr : ready b = true
      · obtain ⟨r1, r2⟩ := ready_iff.1 hr
        obtain ⟨n1, n2⟩ := good_len hb r1
        rw [if_pos hr]
        obtain ⟨r, g1, g2⟩ := ih (b.drop (num b 0 4)) (by simp; omega)
        refine ⟨r, ?_, ?_⟩
        · simp only [List.flatten_cons, List.append_assoc]
          rw [← g1, List.take_append_drop]
        · intro f hf
          simp only [List.mem_cons] at hf
          rcases hf with rfl | hf
          · simp; omega
          · exact g2 f hf
      · rw [if_neg hr]
        exact ⟨b, by simp, fun f hf => by simp at hf⟩
end Go.Proofs.YtboojmppmaepmaaDoor
/- All frames that a reader tells: what is kept. -/
namespace Go.Proofs.YtboojmppmaepmaaDoor
set_option maxHeartbeats 8000000
set_option linter.all false
open Go Go.Fw
attribute [local irreducible] Reg RegD seqK blockK loopK retK panK
set_option maxRecDepth 10000

variable {H : AH} {K : AV → AH → Prop} {J : Value → AH → Prop}

/-- These rows are slices of these bytes. -/
def RdBs (H : AH) : List Bs → List (List AV) → Prop
  | [], r => r = []
  | f :: l, r => ∃ x r', r = [x] :: r' ∧ RdS H 1 (rowsB f) x ∧ RdBs H l r'
theorem RdBs.len {l : List Bs} : ∀ {r : List (List AV)}, RdBs H l r → r.length = l.length := by
  induction l with
  | nil => intro r h; simp only [RdBs] at h; subst h; rfl
  | cons v l ih =>
    intro r h
    obtain ⟨c, r', rfl, _, h2⟩ := h
    simp [ih h2]
theorem RdBs.get {l : List Bs} : ∀ {r : List (List AV)}, RdBs H l r → ∀ (k : Nat) (h1 : k < l.length) (h2 : k < r.length), ∃ x, r[k] = [x] ∧ RdS H 1 (rowsB l[k]) x := by
  induction l with
  | nil => intro r h k h1; simp at h1
  | cons v l ih =>
    intro r h k h1 h2
    obtain ⟨c, r', rfl, hv, hl⟩ := h
    cases k with
    | zero => exact ⟨c, rfl, hv⟩
    | succ k => exact ih hl k (by simpa using h1) (by simpa using h2)
theorem RdBs.snoc {l : List Bs} {f : Bs} {x : AV} : ∀ {r : List (List AV)}, RdBs H l r → RdS H 1 (rowsB f) x → RdBs H (l ++ [f]) (r ++ [[x]]) := by
  induction l with
  | nil => intro r h k; simp only [RdBs] at h; subst h; exact ⟨x, [], rfl, k, rfl⟩
  | cons v l ih =>
    intro r h k
    obtain ⟨c, r', rfl, hv, hl⟩ := h
    exact ⟨c, r' ++ [[x]], rfl, hv, ih hl k⟩
theorem RdBs.mono {H1 : AH} (hle : Le H H1) : ∀ {l : List Bs} {r : List (List AV)}, RdBs H l r → RdBs H1 l r
  | [], r, h => h
  | f :: l, r, h => by
    obtain ⟨c, r', rfl, hv, hl⟩ := h
    exact ⟨c, r', rfl, hv.mono hle, RdBs.mono hle hl⟩

/-- A reader at work: apart from what was there before (H0); what it told lies in Hv. -/
structure Told (H0 H : AH) (p : Nat) (xr : AV) (l : Bs) (gone : Bool) (xo : AV) (rows : List (List AV)) (Hv : AH) (fs : List Bs) : Prop where
  rdr : Rdr H p xr l gone
  le : Le H0 H
  np : H0 p = none
  nx : ∀ c, xr.blk = some c → H0 c = none
  out : Ow H 1 rows xo
  no : ∀ c, xo.blk = some c → H0 c = none ∧ c ≠ p ∧ xr.blk ≠ some c
  bs : RdBs Hv fs rows
  ap : Apart H0 Hv
  lv : Le Hv H
  vp : Hv p = none
  vx : ∀ c, xr.blk = some c → Hv c = none
  vo : ∀ c, xo.blk = some c → Hv c = none

theorem Told.start {H0 H : AH} {p : Nat} (r : Rdr H p (.v (.slice none 0 0)) [] false) (e : Le H0 H) (np : H0 p = none) : Told H0 H p (.v (.slice none 0 0)) [] false (.v (.slice none 0 0)) [] (fun _ => none) [] :=
  ⟨r, e, np, (fun c h => by cases h), .nil, (fun c h => by cases h), rfl, (fun _ _ _ => rfl), (fun _ _ h => by cases h), rfl, (fun _ _ => rfl), (fun _ _ => rfl)⟩

/-- A call on the reader. -/
theorem Told.went {H0 H H' : AH} {p : Nat} {xr xr' : AV} {l l' : Bs} {g g' : Bool} {xo : AV} {rows : List (List AV)} {Hv : AH} {fs : List Bs} (h : Told H0 H p xr l g xo rows Hv fs) (w : Went p H xr H' xr') (r : Rdr H' p xr' l' g') :
    Told H0 H' p xr' l' g' xo rows Hv fs := by
  have keep : ∀ c o, H c = some o → c ≠ p → xr.blk ≠ some c → H' c = some o := w.keep
  have new : ∀ c, xr'.blk = some c → c = p ∨ xr.blk = some c ∨ H c = none := w.new
  refine ⟨r, fun c o hc => keep c o (h.le c o hc) (fun e => by rw [e, h.np] at hc; cases hc) (fun e => by rw [h.nx c e] at hc; cases hc), h.np, fun c hc => ?_, ?_, fun c hc => ⟨(h.no c hc).1, (h.no c hc).2.1, fun e => ?_⟩, h.bs, h.ap, fun c o hc => keep c o (h.lv c o hc) (fun e => by rw [e, h.vp] at hc; cases hc) (fun e => by rw [h.vx c e] at hc; cases hc), h.vp, fun c hc => ?_, h.vo⟩
  · rcases new c hc with e | e | e
    · rw [e]; exact h.np
    · exact h.nx c e
    · exact h.le.none e
  · refine h.out.keep fun c hc => ?_
    obtain ⟨_, n2, n3⟩ := h.no c hc
    rw [keep c _ (h.out.atb hc) n2 n3, h.out.atb hc]
  · obtain ⟨_, n2, n3⟩ := h.no c hc
    rcases new c e with e | e | e
    · exact n2 e
    · exact n3 e
    · rw [h.out.atb hc] at e; cases e
  · rcases new c hc with e | e | e
    · rw [e]; exact h.vp
    · exact h.vx c e
    · exact h.lv.none e

/-- A frame is put to those that were told. -/
theorem Told.put {H0 H H' : AH} {p : Nat} {xr xr' : AV} {l l' : Bs} {g g' : Bool} {xo fx : AV} {rows : List (List AV)} {Hv : AH} {fs : List Bs} {f : Bs} (h : Told H0 H p xr l g xo rows Hv fs) (w : Went p H xr H' xr') (r : Rdr H' p xr' l' g')
    (of : Ow H' 1 (rowsB f) fx) (nf : ∀ c, fx.blk = some c → H c = none ∧ xr'.blk ≠ some c) (hb : rows.length ≤ 1000000000) :
    ∃ Hb, On Hb 1 rows H' xo ∧ ∀ xo' H'', On Hb 1 (rows ++ [[fx]]) H'' xo' → ∃ Hv', Told H0 H'' p xr' l' g' xo' (rows ++ [[fx]]) Hv' (fs ++ [f]) := by
  have h' := h.went w r
  obtain ⟨Hb, hon, hsame⟩ := h'.out.on
  refine ⟨Hb, hon, fun xo' H'' hon' => ?_⟩
  have T := hon.turned hon'
  have hxo : ∀ c, xo.blk = some c → ∃ o, H c = some o := fun c hc => ⟨_, h.out.atb hc⟩
  have keepv : ∀ c o, Hv c = some o → H'' c = some o := fun c o hc => T.keep c o (h'.lv c o hc) (fun e => by rw [h'.vo c e] at hc; cases hc)
  have keepf : ∀ c, fx.blk = some c → H'' c = some ⟨1, rowsB f⟩ := fun c hc => T.keep c _ (of.atb hc) (fun e => by
    obtain ⟨o, ho⟩ := hxo c e
    rw [(nf c hc).1] at ho; cases ho)
  have hfp : ∀ c, fx.blk = some c → c ≠ p := fun c hc e => by have := (nf c hc).1; rw [e, h.rdr.at_] at this; cases this
  have hvf : ∀ c, fx.blk = some c → Hv c = none := fun c hc => h.lv.none (nf c hc).1
  obtain ⟨Hf, hHf⟩ : ∃ Hf : AH, ∀ c, Hf c = if fx.blk = some c then H'' c else none := ⟨fun c => if fx.blk = some c then H'' c else none, fun c => rfl⟩
  have lf : Le Hf H'' := fun c o hc => by
    rw [hHf] at hc
    split at hc
    · exact hc
    · cases hc
  have ff : ∀ c, fx.blk = some c → Hf c = some ⟨1, rowsB f⟩ := fun c hc => by rw [hHf, if_pos hc, keepf c hc]
  have fn : ∀ c, fx.blk ≠ some c → Hf c = none := fun c hc => by rw [hHf, if_neg hc]
  have dis : ∀ c o, Hf c = some o → Hv c = none := fun c o hc => by
    by_cases e : fx.blk = some c
    · exact hvf c e
    · rw [fn c e] at hc; cases hc
  have rf : RdS Hf 1 (rowsB f) fx := of.rd.keep fun c hc => by rw [ff c hc, of.atb hc]
  refine ⟨orH Hv Hf, ⟨⟨T.keep p _ h'.rdr.at_ (fun e => (h'.no p e).2.1 rfl), h'.rdr.vec.keep fun c hc => ?_, h'.rdr.few⟩, fun c o hc => T.keep c o (h'.le c o hc) (fun e => by rw [(h'.no c e).1] at hc; cases hc), h.np, h'.nx, hon'.ow, fun c hc => ?_,
    (h.bs.mono (orH_l _ _)).snoc (rf.mono (orH_r dis)), fun c o hc => ?_, orH_le (fun c o hc => keepv c o hc) lf, ?_, fun c hc => ?_, fun c hc => ?_⟩⟩
  · rw [T.keep c _ (h'.rdr.vec.atb hc) (fun e => (h'.no c e).2.2 hc), h'.rdr.vec.atb hc]
  · rcases T.new c hc with e | e
    · exact h'.no c e
    · refine ⟨h'.le.none e, fun e2 => ?_, fun e2 => ?_⟩
      · rw [e2, h'.rdr.at_] at e; cases e
      · rw [h'.rdr.vec.atb e2] at e; cases e
  · refine orH_none (h.ap c o hc) (fn c fun e => ?_)
    have := h.le.none (nf c e).1
    rw [this] at hc; cases hc
  · exact orH_none h.vp (fn p fun e => hfp p e rfl)
  · exact orH_none (h'.vx c hc) (fn c fun e => (nf c e).2 hc)
  · rcases T.new c hc with e | e
    · refine orH_none (h.vo c e) (fn c fun e2 => ?_)
      obtain ⟨o, ho⟩ := hxo c e
      rw [(nf c e2).1] at ho; cases ho
    · refine orH_none (h'.lv.none e) (fn c fun e2 => ?_)
      rw [of.atb e2] at e; cases e
end Go.Proofs.YtboojmppmaepmaaDoor
/- All frames that a reader tells: the walk. -/
namespace Go.Proofs.YtboojmppmaepmaaDoor
set_option maxHeartbeats 8000000
set_option linter.all false
open Go Go.Fw
attribute [local irreducible] Reg RegD seqK blockK loopK retK panK
set_option maxRecDepth 10000

variable {H : AH} {K : AV → AH → Prop} {J : Value → AH → Prop}

def rowsI (l : List Int) : List (List AV) := l.map fun z => [AV.v (.int .i64 z)]
@[simp] theorem rowsI_length (l : List Int) : (rowsI l).length = l.length := by simp [rowsI]
theorem elI {H : AH} {l : List Int} {x : AV} (hx : RdS H 1 (rowsI l) x) {k : Nat} (hk : k < l.length) : ∃ p, (∀ F, aidx Tryd.prog 58 x (.v (.int .i64 k)) F = F p) ∧ ∀ F, aload Tryd.prog 3 p H F = F (.v (.int .i64 l[k])) := by
  obtain ⟨p, hp, _, hi⟩ := hx.idx vt58 (k := k) (by simpa using hk)
  refine ⟨p, hi, fun F => ?_⟩
  rw [hp.load]
  simp [acut, Tryd.underlying3, isAggD, rowsI]
theorem band63 (z : Int) : ∃ q : Nat, q ≤ 63 ∧ IntKind.i64.wrap (band .i64 z 63) = (q : Int) := by
  have h : (BitVec.ofInt 64 z &&& BitVec.ofInt 64 63).toNat ≤ 63 := by
    rw [BitVec.toNat_and]
    exact Nat.and_le_right
  refine ⟨(BitVec.ofInt 64 z &&& BitVec.ofInt 64 63).toNat, h, ?_⟩
  show IntKind.i64.wrap (((BitVec.ofInt 64 z &&& BitVec.ofInt 64 63).toNat : Nat) : Int) = _
  rw [wrap_of] <;> omega

theorem told_ok {b : Bs} {zs : List Int} {xb xs : AV} {between : Bool} (hx : RdS H 1 (rowsB b) xb) (hb : b.length ≤ 1000000000) (hz : RdS H 1 (rowsI zs) xs) (hzl : zs.length ≤ 1000000000)
    (hk : ∀ H' xo rows, Le H H' → RdS H' 1 rows xo → RdBs H' (cutF b).1 rows → K (.tup [xo, .v (.bool (cutF b).2)]) H') : CallX Tryd.prog 29 [xb, xs, .v (.bool between)] H K J := by
  refine CallX.of_body Tryd.func29 nm29 rfl ?_; simp only [Tryd.ntmps29, List.length_cons, List.length_nil, argSt, Nat.reduceAdd, Nat.reduceSub]
  repeat' (first | ((first | refine Z.W0 ?_ | refine Z.X0 ?_); simp only [go_sem, seval]) | (refine hF _ _ ?_; clear hF F) | (refine Z.p0 ?_; simp only [St.put]) | refine Z.a0 ?_ | refine Z.b0 ?_ | refine Z.c0 ?_ | refine Z.h0 ?_ | refine Z.q0 rfl rfl fun F hF => ?_)
  refine new_ok fun H1 p e1 np r1 => ?_
  (refine hF _ _ ?_; clear hF F)
  repeat' (first | ((first | refine Z.W0 ?_ | refine Z.X0 ?_); simp only [go_sem, seval]) | (refine hF _ _ ?_; clear hF F) | (refine Z.p0 ?_; simp only [St.put]) | refine Z.a0 ?_ | refine Z.b0 ?_ | refine Z.c0 ?_ | refine Z.h0 ?_ | refine Z.l0 ?_ | refine Z.q0 rfl rfl fun F hF => ?_)
  refine W_loop [0, 1, 2, 8, 9, 10] (fun n s Hc => ∃ (i : Nat) (rest l : Bs) (gone : Bool) (z xr xo : AV) (rows : List (List AV)) (Hv : AH) (fs : List Bs), n = (zs.length - i) + rest.length ∧ i ≤ zs.length + 1 ∧ (i = zs.length + 1 → rest = []) ∧ RdS H 1 (rowsB rest) z ∧ Told H Hc p xr l gone xo rows Hv fs ∧ Cut b fs l gone rest ∧
    s = [(0, z), (1, xs), (2, .v (.bool between)), (8, .ptr p 2 0 0), (9, xo), (10, .v (.int .i64 i))]) (zs.length + b.length) ?_ ?_
  · simp only [St.keep, St.get, reduceIte, Nat.reduceEqDiff]
    exact ⟨0, b, [], false, xb, _, _, [], _, [], by omega, by omega, (fun h => by omega), hx, Told.start r1 e1 np, Cut.start b, rfl⟩
  clear r1 e1 H1
  rintro n s Hc ⟨i, rest, l, gone, z, xr, xo, rows, Hv, fs, rfl, hi, hi2, hzr, TT, CC, rfl⟩
  have few := CC.few
  have lz := lenB (hzr.mono TT.le)
  have lzs := (hz.mono TT.le).len vt58
  rw [rowsI_length] at lzs
  by_cases hre : rest.length = 0
  case pos =>
    obtain rfl : rest = [] := List.eq_nil_of_length_eq_zero hre
    have d0 : decide ((([] : Bs).length : Int) > 0) = false := by simp
    repeat' (first | ((first | refine Z.W0 ?_ | refine Z.X0 ?_); simp only [go_sem, seval, lz, d0]) | (refine hF _ _ ?_; clear hF F) | (refine Z.p0 ?_; simp only [St.put]) | refine Z.a0 ?_ | refine Z.b0 ?_ | refine Z.c0 ?_ | refine Z.e0 ?_ | refine Z.h0 ?_ | refine Z.k0 ?_ | refine Z.l0 ?_ | refine Z.o0 ?_ | refine Z.q0 rfl rfl fun F hF => ?_ | refine Z.U0 rfl ?_)
    clear lz lzs
    refine W_loop [8, 9] (fun n s Hc => ∃ (l : Bs) (gone : Bool) (xr xo : AV) (rows : List (List AV)) (Hv : AH) (fs : List Bs), n = l.length ∧ Told H Hc p xr l gone xo rows Hv fs ∧ Cut b fs l gone [] ∧ s = [(8, .ptr p 2 0 0), (9, xo)]) l.length ?_ ?_
    · simp only [St.keep, St.get, reduceIte, Nat.reduceEqDiff]
      exact ⟨l, gone, xr, xo, rows, Hv, fs, rfl, TT, CC, rfl⟩
    clear TT CC few
    rintro n s Hc ⟨l, gone, xr, xo, rows, Hv, fs, rfl, TT, CC, rfl⟩
    have few := CC.few
    have hrl := TT.bs.len
    cases hr : ready l
    · repeat' (first | ((first | refine Z.W0 ?_ | refine Z.X0 ?_); simp only [go_sem, seval]) | (refine hF _ _ ?_; clear hF F) | refine Z.a0 ?_ | refine Z.b0 ?_ | refine Z.h0 ?_ | refine Z.l0 ?_ | refine Z.q0 rfl rfl fun F hF => ?_)
      refine next_none TT.rdr hr ?_
      (refine hF _ _ ?_; clear hF F)
      repeat' (first | ((first | refine Z.W0 ?_ | refine Z.X0 ?_); simp only [go_sem, seval]) | (refine hF _ _ ?_; clear hF F) | (refine Z.p0 ?_; simp only [St.put]) | refine Z.a0 ?_ | refine Z.b0 ?_ | refine Z.c0 ?_ | refine Z.h0 ?_ | refine Z.q0 rfl rfl fun F hF => ?_ | refine Z.T0 rfl ?_)
      refine broken_ok TT.rdr ?_
      (refine hF _ _ ?_; clear hF F)
      repeat' (first | ((first | refine Z.W0 ?_ | refine Z.X0 ?_); simp only [go_sem, seval]) | (refine hF _ _ ?_; clear hF F) | (refine Z.p0 ?_; simp only [St.put]) | refine Z.c0 ?_ | refine Z.d0 ?_ | refine Z.g0 ?_ | refine Z.h0 ?_ | refine Z.j0 ?_ | refine Z.n0 ?_ | refine Z.q0 rfl rfl fun F hF => ?_)
      simp only [retK, ares, pack, Tryd.results29, St.get, reduceIte, Nat.reduceEqDiff, aload, arow, List.toArray, Array.toList]
      have hd := CC.done hr
      rw [hd] at hk
      exact hk _ _ _ TT.le TT.out.rd (TT.bs.mono TT.lv)
    · obtain ⟨g1, g2, g3, CC'⟩ := CC.next hr
      repeat' (first | ((first | refine Z.W0 ?_ | refine Z.X0 ?_); simp only [go_sem, seval]) | (refine hF _ _ ?_; clear hF F) | refine Z.a0 ?_ | refine Z.b0 ?_ | refine Z.h0 ?_ | refine Z.l0 ?_ | refine Z.q0 rfl rfl fun F hF => ?_)
      refine next_some TT.rdr hr fun H2 xr2 fx w2 r2 of nf => ?_
      obtain ⟨Hb, hon, hput⟩ := TT.put w2 r2 of nf (by omega)
      (refine hF _ _ ?_; clear hF F)
      repeat' (first | ((first | refine Z.W0 ?_ | refine Z.X0 ?_); simp only [go_sem, seval, of.cell, of.rd.cells]) | (refine hF _ _ ?_; clear hF F) | (refine Z.p0 ?_; simp only [St.put]) | refine Z.a0 ?_ | refine Z.b0 ?_ | refine Z.c0 ?_ | refine Z.h0 ?_ | refine Z.m0 ?_ | refine Z.q0 rfl rfl fun F hF => ?_ | refine Z.U0 rfl ?_)
      refine hon.app vt36 rfl rfl Tryd.underlying36 (fun k => by simp) (fun G => by simp [asrc]; rfl) (by simp; omega) fun xo' H3 hx' => ?_
      obtain ⟨Hv', TT'⟩ := hput _ _ hx'
      (refine hF _ _ ?_; clear hF F)
      repeat' (first | ((first | refine Z.W0 ?_ | refine Z.X0 ?_); simp only [go_sem, seval]) | (refine hF _ _ ?_; clear hF F) | (refine Z.p0 ?_; simp only [St.put]) | refine Z.f0 ?_ | refine Z.h0 ?_ | refine Z.q0 rfl rfl fun F hF => ?_)
      simp only [loopK]
      simp only [St.keep, St.get, reduceIte, Nat.reduceEqDiff]
      have h5 : (settle (l.drop (num l 0 4)) gone).1.length < l.length := by
        have h6 := CC'.few
        simp only [List.length_append, List.length_cons, List.length_nil] at h6
        unfold settle
        split
        · simp only [List.length_nil]; omega
        · simp only [List.length_drop]; omega
      exact ⟨_, h5, _, _, xr2, xo', _, Hv', _, rfl, TT', CC', rfl⟩
  have d0 : decide ((rest.length : Int) > 0) = true := by simp; omega
  have tl : ∀ (l : Bs) (gone : Bool) (g3 : num l 0 4 ≤ l.length) (g2 : 26 ≤ num l 0 4), (settle (l.drop (num l 0 4)) gone).1.length < l.length := by
    intro l gone g3 g2
    unfold settle
    split
    · simp only [List.length_nil]; omega
    · simp only [List.length_drop]; omega
  have wi : IntKind.i64.wrap ((i : Int) + 1) = ((i + 1 : Nat) : Int) := by rw [wrap_of] <;> omega
  by_cases hlt : i < zs.length
  case' pos =>
    have d1 : decide ((i : Int) < (zs.length : Int)) = true := by simp; omega
    obtain ⟨pe, E1, E2⟩ := elI (hz.mono TT.le) hlt
    obtain ⟨q, hq63, hq⟩ := band63 zs[i]
    obtain ⟨m, hm⟩ : ∃ m, m = min q rest.length := ⟨_, rfl⟩
    have hmin : (if (rest.length : Int) < (q : Int) then (rest.length : Int) else (q : Int)) = (m : Int) := by
      rw [hm]
      split <;> omega
    have hml : m ≤ rest.length := by omega
    have hdec : (zs.length - (i + 1)) + (rest.length - m) < (zs.length - i) + rest.length := by omega
    have hend : i + 1 = zs.length + 1 → rest.drop m = [] := by omega
    have hle1 : i + 1 ≤ zs.length + 1 := by omega
    repeat' (first | ((first | refine Z.W0 ?_ | refine Z.X0 ?_); simp only [go_sem, seval, lz, lzs, d0, d1, E1, E2, hq, hmin]) | (refine hF _ _ ?_; clear hF F) | (refine Z.p0 ?_; simp only [St.put]) | refine Z.a0 ?_ | refine Z.b0 ?_ | refine Z.c0 ?_ | refine Z.h0 ?_ | refine Z.l0 ?_ | refine Z.m0 ?_ | refine Z.q0 rfl rfl fun F hF => ?_ | refine Z.T0 rfl ?_)
  case' neg =>
    have d1 : decide ((i : Int) < (zs.length : Int)) = false := by simp; omega
    obtain ⟨m, hm⟩ : ∃ m, m = rest.length := ⟨_, rfl⟩
    have hml : m ≤ rest.length := by omega
    have hdec : (zs.length - (i + 1)) + (rest.length - m) < (zs.length - i) + rest.length := by omega
    have hi4 : i ≤ zs.length := by
      by_cases e : i = zs.length + 1
      · exact absurd (by rw [hi2 e]; rfl) hre
      · omega
    have hend : i + 1 = zs.length + 1 → rest.drop m = [] := fun _ => List.drop_of_length_le (by omega)
    have hle1 : i + 1 ≤ zs.length + 1 := by omega
    rw [← hm] at lz d0
    repeat' (first | ((first | refine Z.W0 ?_ | refine Z.X0 ?_); simp only [go_sem, seval, lz, lzs, d0, d1]) | (refine hF _ _ ?_; clear hF F) | (refine Z.p0 ?_; simp only [St.put]) | refine Z.a0 ?_ | refine Z.b0 ?_ | refine Z.c0 ?_ | refine Z.h0 ?_ | refine Z.l0 ?_ | refine Z.m0 ?_ | refine Z.q0 rfl rfl fun F hF => ?_ | refine Z.T0 rfl ?_ | refine Z.U0 rfl ?_)
  all_goals
    refine hzr.cut (l := 0) (h := m) vt30 (.inr ⟨_, _, rfl, rfl⟩) (.inl ⟨rfl, rfl⟩) (by omega) (by simpa using hml) fun z1 hz1 _ => ?_
    rw [rowsB_take, List.drop_zero] at hz1
    (refine hF _ _ ?_; clear hF F)
    repeat' (first | ((first | refine Z.W0 ?_ | refine Z.X0 ?_); simp only [go_sem, seval]) | refine Z.q0 rfl rfl fun F hF => ?_)
    refine feed_ok TT.rdr (hz1.mono TT.le) (by simp; omega) fun H2 xr2 w2 r2 => ?_
    have TT2 := TT.went w2 r2
    have CC1 : Cut b fs l gone (rest.take m ++ rest.drop m) := by rw [List.take_append_drop]; exact CC
    have CC2 := CC1.feed
    (refine hF _ _ ?_; clear hF F)
    repeat' (first | ((first | refine Z.W0 ?_ | refine Z.X0 ?_); simp only [go_sem, seval]) | (refine hF _ _ ?_; clear hF F) | (refine Z.p0 ?_; simp only [St.put]) | refine Z.a0 ?_ | refine Z.b0 ?_ | refine Z.c0 ?_ | refine Z.h0 ?_ | refine Z.q0 rfl rfl fun F hF => ?_)
    refine hzr.cut (l := m) (h := rest.length) vt30 (.inl ⟨rfl, by simp⟩) (.inr ⟨_, _, rfl, rfl⟩) (by omega) (by simp) fun z2 hz2 _ => ?_
    rw [rowsB_take, List.take_length, rowsB_drop] at hz2
    (refine hF _ _ ?_; clear hF F)
    repeat' (first | ((first | refine Z.W0 ?_ | refine Z.X0 ?_); simp only [go_sem, seval]) | (refine hF _ _ ?_; clear hF F) | (refine Z.p0 ?_; simp only [St.put]) | refine Z.c0 ?_ | refine Z.h0 ?_ | refine Z.l0 ?_ | refine Z.q0 rfl rfl fun F hF => ?_)
    generalize hl2 : (feed l gone (rest.take m)).1 = l2 at TT2 CC2
    generalize hg2 : (feed l gone (rest.take m)).2 = gone2 at TT2 CC2
    clear hl2 hg2 w2 r2 CC CC1 TT
    refine W_loop [0, 1, 2, 8, 9, 10] (fun n s Hc => ∃ (l : Bs) (gone : Bool) (xr xo : AV) (rows : List (List AV)) (Hv : AH) (fs : List Bs), n = l.length ∧ Told H Hc p xr l gone xo rows Hv fs ∧ Cut b fs l gone (rest.drop m) ∧
      s = [(0, z2), (1, xs), (2, .v (.bool between)), (8, .ptr p 2 0 0), (9, xo), (10, .v (.int .i64 i))]) l2.length ?_ ?_
    · simp only [St.keep, St.get, reduceIte, Nat.reduceEqDiff]
      exact ⟨l2, gone2, xr2, xo, rows, Hv, fs, rfl, TT2, CC2, rfl⟩
    clear TT2 CC2
    rintro n s H3 ⟨l3, gone3, xr3, xo3, rows3, Hv3, fs3, rfl, T3, C3, rfl⟩
    have few3 := C3.few
    have hrl3 := T3.bs.len
    have leave : ∀ (s' : St), s' = [(0, z2), (1, xs), (2, .v (.bool between)), (8, .ptr p 2 0 0), (9, xo3), (10, .v (.int .i64 ((i + 1 : Nat) : Int)))] →
        ∃ m', m' < zs.length - i + rest.length ∧ ∃ (i' : Nat) (rest' l : Bs) (gone : Bool) (z xr xo : AV) (rows : List (List AV)) (Hv : AH) (fs : List Bs), m' = (zs.length - i') + rest'.length ∧ i' ≤ zs.length + 1 ∧ (i' = zs.length + 1 → rest' = []) ∧ RdS H 1 (rowsB rest') z ∧ Told H H3 p xr l gone xo rows Hv fs ∧ Cut b fs l gone rest' ∧
          s' = [(0, z), (1, xs), (2, .v (.bool between)), (8, .ptr p 2 0 0), (9, xo), (10, .v (.int .i64 i'))] := by
      intro s' hs
      refine ⟨_, ?_, i + 1, rest.drop m, l3, gone3, z2, xr3, xo3, rows3, Hv3, fs3, rfl, hle1, hend, hz2, T3, C3, hs⟩
      rw [List.length_drop]
      exact hdec
    cases between
    · repeat' (first | ((first | refine Z.W0 ?_ | refine Z.X0 ?_); simp only [go_sem, seval, wi]) | (refine hF _ _ ?_; clear hF F) | (refine Z.p0 ?_; simp only [St.put]) | refine Z.a0 ?_ | refine Z.b0 ?_ | refine Z.c0 ?_ | refine Z.e0 ?_ | refine Z.f0 ?_ | refine Z.h0 ?_ | refine Z.k0 ?_ | refine Z.o0 ?_ | refine Z.q0 rfl rfl fun F hF => ?_ | refine Z.s0 rfl rfl rfl rfl ?_ | refine Z.U0 rfl ?_)
      simp only [loopK]
      simp only [St.keep, St.get, reduceIte, Nat.reduceEqDiff]
      exact leave _ rfl
    · repeat' (first | ((first | refine Z.W0 ?_ | refine Z.X0 ?_); simp only [go_sem, seval]) | (refine hF _ _ ?_; clear hF F) | refine Z.a0 ?_ | refine Z.b0 ?_ | refine Z.h0 ?_ | refine Z.q0 rfl rfl fun F hF => ?_ | refine Z.r0 rfl rfl rfl rfl fun F hF => ?_)
      refine ready_ok T3.rdr ?_
      (refine hF _ _ ?_; clear hF F)
      cases hr : ready l3
      · repeat' (first | ((first | refine Z.W0 ?_ | refine Z.X0 ?_); simp only [go_sem, seval, wi]) | (refine hF _ _ ?_; clear hF F) | (refine Z.p0 ?_; simp only [St.put]) | refine Z.b0 ?_ | refine Z.c0 ?_ | refine Z.e0 ?_ | refine Z.f0 ?_ | refine Z.h0 ?_ | refine Z.k0 ?_ | refine Z.o0 ?_ | refine Z.q0 rfl rfl fun F hF => ?_ | refine Z.U0 rfl ?_)
        simp only [loopK]
        simp only [St.keep, St.get, reduceIte, Nat.reduceEqDiff]
        exact leave _ rfl
      · obtain ⟨g1, g2, g3, C4⟩ := C3.next hr
        repeat' (first | ((first | refine Z.W0 ?_ | refine Z.X0 ?_); simp only [go_sem, seval]) | (refine hF _ _ ?_; clear hF F) | (refine Z.p0 ?_; simp only [St.put]) | refine Z.a0 ?_ | refine Z.b0 ?_ | refine Z.c0 ?_ | refine Z.h0 ?_ | refine Z.l0 ?_ | refine Z.m0 ?_ | refine Z.q0 rfl rfl fun F hF => ?_ | refine Z.T0 rfl ?_)
        refine next_some T3.rdr hr fun H4 xr4 fx w4 r4 of nf => ?_
        obtain ⟨Hb, hon, hput⟩ := T3.put w4 r4 of nf (by omega)
        (refine hF _ _ ?_; clear hF F)
        repeat' (first | ((first | refine Z.W0 ?_ | refine Z.X0 ?_); simp only [go_sem, seval, of.cell, of.rd.cells]) | (refine hF _ _ ?_; clear hF F) | (refine Z.p0 ?_; simp only [St.put]) | refine Z.b0 ?_ | refine Z.c0 ?_ | refine Z.h0 ?_ | refine Z.q0 rfl rfl fun F hF => ?_)
        refine hon.app vt36 rfl rfl Tryd.underlying36 (fun k => by simp) (fun G => by simp [asrc]; rfl) (by simp; omega) fun xo' H5 hx' => ?_
        obtain ⟨Hv', T5⟩ := hput _ _ hx'
        (refine hF _ _ ?_; clear hF F)
        repeat' (first | ((first | refine Z.W0 ?_ | refine Z.X0 ?_); simp only [go_sem, seval]) | (refine hF _ _ ?_; clear hF F) | (refine Z.p0 ?_; simp only [St.put]) | refine Z.f0 ?_ | refine Z.h0 ?_ | refine Z.q0 rfl rfl fun F hF => ?_)
        simp only [loopK]
        simp only [St.keep, St.get, reduceIte, Nat.reduceEqDiff]
        exact ⟨_, tl l3 gone3 g3 g2, _, _, xr4, xo', _, Hv', _, rfl, T5, C4, rfl⟩
end Go.Proofs.YtboojmppmaepmaaDoor
/- In whatever pieces bytes come, the same frames are told: the law's walk. -/
namespace Go.Proofs.YtboojmppmaepmaaDoor
set_option maxHeartbeats 8000000
set_option linter.all false
open Go Go.Fw
attribute [local irreducible] Reg RegD seqK blockK loopK retK panK
set_option maxRecDepth 10000

variable {H : AH} {K : AV → AH → Prop} {J : Value → AH → Prop}

/-- One of the slices of bytes. -/
structure ElS (H : AH) (x i p y : AV) (f : Bs) : Prop where
  idx : ∀ F, aidx Tryd.prog 36 x i F = F p
  load : ∀ F, aload Tryd.prog 30 p H F = F y
  conv : ∀ F, aconv Tryd.prog 30 9 y H F = F (.v (.string (bs f)))
  len : ∀ F, alen Tryd.prog 30 y F = F (.v (.int .i64 f.length))
  rd : RdS H 1 (rowsB f) y
theorem elS {fs : List Bs} {rows : List (List AV)} {x : AV} (hx : RdS H 1 rows x) (hb : RdBs H fs rows) {k : Nat} (hk : k < fs.length) : ∃ p y, ElS H x (.v (.int .i64 k)) p y fs[k] := by
  have hk2 : k < rows.length := by rw [hb.len]; exact hk
  obtain ⟨p, hp, _, hi⟩ := hx.idx vt36 hk2
  obtain ⟨y, hy, hr⟩ := hb.get k hk hk2
  refine ⟨p, y, hi, fun F => ?_, convB hr, lenB hr, hr⟩
  rw [hp.load, hy]
  simp [acut, Tryd.underlying30, isAggD]
theorem lenS {fs : List Bs} {rows : List (List AV)} {x : AV} (hx : RdS H 1 rows x) (hb : RdBs H fs rows) : ∀ F, alen Tryd.prog 36 x F = F (.v (.int .i64 fs.length)) := fun F => by
  rw [hx.len vt36, hb.len]

def pos (fs : List Bs) (k : Nat) : Nat := (fs.take k).flatten.length
theorem flat_seg {fs : List Bs} {r : Bs} {k : Nat} (hk : k < fs.length) : (((fs.flatten ++ r).take ((fs.take k).flatten.length + fs[k].length)).drop (fs.take k).flatten.length) = fs[k] ∧ (fs.take k).flatten.length + fs[k].length ≤ (fs.flatten ++ r).length ∧ (fs.take (k + 1)).flatten.length = (fs.take k).flatten.length + fs[k].length := by
  have h1 : fs.flatten = (fs.take k).flatten ++ (fs[k] ++ (fs.drop (k + 1)).flatten) := by
    have := congrArg List.flatten (List.take_append_drop k fs)
    rw [List.flatten_append, List.drop_eq_getElem_cons hk, List.flatten_cons] at this
    exact this.symm
  refine ⟨?_, ?_, ?_⟩
  · rw [h1, List.drop_take, Nat.add_sub_cancel_left, List.append_assoc, List.drop_left, List.append_assoc, List.take_left]
  · rw [h1]; simp only [List.length_append]; omega
  · rw [List.take_succ_eq_append_getElem hk, List.flatten_append, List.length_append, List.flatten_cons, List.flatten_nil, List.append_nil]

theorem flat_count : ∀ {fs : List Bs}, (∀ f ∈ fs, 26 ≤ f.length) → 26 * fs.length ≤ fs.flatten.length
  | [], _ => by simp
  | f :: fs, h => by
    have h1 := h f (by simp)
    have h2 := flat_count (fs := fs) fun g hg => h g (by simp [hg])
    simp only [List.length_cons, List.flatten_cons, List.length_append]
    omega

theorem lawPieces_ok {b : Bs} {zs ys : List Int} {xb xs xt : AV} (hx : RdS H 1 (rowsB b) xb) (hb : b.length ≤ 1000000000) (hz : RdS H 1 (rowsI zs) xs) (hzl : zs.length ≤ 1000000000) (hy : RdS H 1 (rowsI ys) xt) (hyl : ys.length ≤ 1000000000)
    (hk : ∀ H', Le H H' → K (.v (.bool true)) H') : CallX Tryd.prog 7 [xb, xs, xt] H K J := by
  refine CallX.of_body Tryd.func7 nm7 rfl ?_; simp only [Tryd.ntmps7, List.length_cons, List.length_nil, argSt, Nat.reduceAdd, Nat.reduceSub]
  repeat' (first | ((first | refine Z.W0 ?_ | refine Z.X0 ?_); simp only [go_sem, seval]) | (refine hF _ _ ?_; clear hF F) | (refine Z.p0 ?_; simp only [St.put]) | refine Z.a0 ?_ | refine Z.b0 ?_ | refine Z.c0 ?_ | refine Z.h0 ?_ | refine Z.q0 rfl rfl fun F hF => ?_)
  refine awake_ok fun H1 e1 => ?_
  (refine hF _ _ ?_; clear hF F)
  repeat' (first | ((first | refine Z.W0 ?_ | refine Z.X0 ?_); simp only [go_sem, seval]) | (refine hF _ _ ?_; clear hF F) | (refine Z.p0 ?_; simp only [St.put]) | refine Z.a0 ?_ | refine Z.b0 ?_ | refine Z.c0 ?_ | refine Z.h0 ?_ | refine Z.q0 rfl rfl fun F hF => ?_)
  refine told_ok (zs := []) (hx.mono e1) hb .nil (by simp) fun H2 w1 q1 e2 r1 s1 => ?_
  (refine hF _ _ ?_; clear hF F)
  repeat' (first | ((first | refine Z.W0 ?_ | refine Z.X0 ?_); simp only [go_sem, seval]) | (refine hF _ _ ?_; clear hF F) | (refine Z.p0 ?_; simp only [St.put]) | refine Z.a0 ?_ | refine Z.b0 ?_ | refine Z.c0 ?_ | refine Z.h0 ?_ | refine Z.q0 rfl rfl fun F hF => ?_)
  refine told_ok (hx.mono (e1.trans e2)) hb (hz.mono (e1.trans e2)) hzl fun H3 w2 q2 e3 r2 s2 => ?_
  (refine hF _ _ ?_; clear hF F)
  repeat' (first | ((first | refine Z.W0 ?_ | refine Z.X0 ?_); simp only [go_sem, seval]) | (refine hF _ _ ?_; clear hF F) | (refine Z.p0 ?_; simp only [St.put]) | refine Z.a0 ?_ | refine Z.b0 ?_ | refine Z.c0 ?_ | refine Z.h0 ?_ | refine Z.q0 rfl rfl fun F hF => ?_)
  refine told_ok (hx.mono ((e1.trans e2).trans e3)) hb (hy.mono ((e1.trans e2).trans e3)) hyl fun H4 w3 q3 e4 r3 s3 => ?_
  have r1 := r1.mono (e3.trans e4)
  have s1 := s1.mono (e3.trans e4)
  have r2 := r2.mono e4
  have s2 := s2.mono e4
  have hle : Le H H4 := ((e1.trans e2).trans e3).trans e4
  have hx4 := hx.mono hle
  obtain ⟨rr, hflat, hge⟩ := cut_flat _ b (Nat.lt_succ_self _)
  obtain ⟨fs, hfs⟩ : ∃ fs, (cutF b).1 = fs := ⟨_, rfl⟩
  obtain ⟨gone, hg⟩ : ∃ gone, (cutF b).2 = gone := ⟨_, rfl⟩
  rw [hfs] at s1 s2 s3 hflat hge
  have hcnt := flat_count hge
  have hfl : fs.flatten.length ≤ b.length := by rw [hflat, List.length_append]; omega
  rw [hg]
  have l1 := lenS r1 s1
  have l2 := lenS r2 s2
  have l3 := lenS r3 s3
  (refine hF _ _ ?_; clear hF F)
  cases gone
  all_goals
    repeat' (first | ((first | refine Z.W0 ?_ | refine Z.X0 ?_); simp only [go_sem, seval, l1, l2, l3, hg]) | (refine hF _ _ ?_; clear hF F) | (refine Z.p0 ?_; simp only [St.put]) | refine Z.a0 ?_ | refine Z.b0 ?_ | refine Z.c0 ?_ | refine Z.h0 ?_ | refine Z.l0 ?_ | refine Z.m0 ?_ | refine Z.q0 rfl rfl fun F hF => ?_ | refine Z.r0 rfl rfl rfl rfl fun F hF => ?_ | refine Z.U0 rfl ?_)
    refine W_loop [0, 8, 10, 12, 14, 15] (fun n s H' => ∃ k : Nat, H' = H4 ∧ n + k = fs.length ∧ s = [(0, xb), (8, w1), (10, w2), (12, w3), (14, .v (.int .i64 (pos fs k))), (15, .v (.int .i64 k))]) fs.length ?_ ?_
    · simp only [St.keep, St.get, reduceIte, Nat.reduceEqDiff]
      exact ⟨0, trivial, by omega, by simp [pos]⟩
    rintro n s H' ⟨k, rfl, hn, rfl⟩
    cases n with
    | zero =>
      obtain rfl : k = fs.length := by omega
      have d : decide ((fs.length : Int) < (fs.length : Int)) = false := by simp
      repeat' (first | ((first | refine Z.W0 ?_ | refine Z.X0 ?_); simp only [go_sem, seval, l1, d]) | (refine hF _ _ ?_; clear hF F) | (refine Z.p0 ?_; simp only [St.put]) | refine Z.a0 ?_ | refine Z.b0 ?_ | refine Z.c0 ?_ | refine Z.e0 ?_ | refine Z.h0 ?_ | refine Z.k0 ?_ | refine Z.n0 ?_ | refine Z.o0 ?_ | refine Z.q0 rfl rfl fun F hF => ?_ | refine Z.U0 rfl ?_)
      simp only [retK, ares, pack, Tryd.results7, St.get, reduceIte, Nat.reduceEqDiff, aload, arow, List.toArray, Array.toList]
      exact hk _ hle
    | succ n =>
      have hlt : k < fs.length := by omega
      have d : decide ((k : Int) < (fs.length : Int)) = true := by simp; omega
      obtain ⟨p1, y1, E1⟩ := elS r1 s1 hlt
      obtain ⟨p2, y2, E2⟩ := elS r2 s2 hlt
      obtain ⟨p3, y3, E3⟩ := elS r3 s3 hlt
      obtain ⟨g1, g2, g3⟩ := flat_seg (r := rr) hlt
      rw [← hflat] at g1 g2
      have g3' : pos fs (k + 1) = pos fs k + fs[k].length := g3
      have g1' : ((b.take (pos fs k + fs[k].length)).drop (pos fs k)) = fs[k] := g1
      have g2' : pos fs k + fs[k].length ≤ b.length := g2
      have lx := lenB hx4
      have wa : IntKind.i64.wrap ((pos fs k : Int) + (fs[k].length : Int)) = ((pos fs k + fs[k].length : Nat) : Int) := by rw [wrap_of] <;> omega
      have wk : IntKind.i64.wrap ((k : Int) + 1) = ((k + 1 : Nat) : Int) := by rw [wrap_of] <;> omega
      have dg : decide (((pos fs k + fs[k].length : Nat) : Int) > (b.length : Int)) = false := by simp; omega
      repeat' (first | ((first | refine Z.W0 ?_ | refine Z.X0 ?_); simp only [go_sem, seval, l1, d, E1.idx, E1.load, E1.conv, E2.idx, E2.load, E2.conv, E3.idx, E3.load, E3.conv, E1.len, wa, lx, dg]) | (refine hF _ _ ?_; clear hF F) | (refine Z.p0 ?_; simp only [St.put]) | refine Z.a0 ?_ | refine Z.b0 ?_ | refine Z.c0 ?_ | refine Z.h0 ?_ | refine Z.l0 ?_ | refine Z.m0 ?_ | refine Z.q0 rfl rfl fun F hF => ?_ | refine Z.A0 rfl rfl rfl fun F hF => ?_ | refine W_drawn (id := 11) [0, 0, 3, 7, 15, 0, 0, 96, 224, 480, 1023, 2047, 4095, 4095, 16383, 32767, 65535, 4095, 4095, 397311, 921599, 1970175, 4194303, 8388607, 16777215, 33554431, 33554431, 33554431, 234881023, 503316479, 1040187391, 2147483647, 33554431, 4328521727, 17179869183, 34359738367, 68719476735, 137438953471, 137438953471, 137438953471, 137438953471, 137438953471, 3435973836799, 7834020347903, 16630113370111, 34772055228415, 70368744177663, 140737488355327, 137438953471, 137438953471, 844562369085439, 1970462275928063, 4222262089613311, 9007199254740991, 18014398509481983] [.a 0, .a 1, .a 2, .a 3, .a 4, .a 5, .a 6, .a 7, .a 8, .a 9, .a 10, .a 11, .a 12, .a 13, .a 14, .a 15, .a 16, .a 17, .a 18, .a 19, .a 20, .a 21, .a 22, .a 23, .a 24, .a 25, .a 26, .a 27, .a 28, .a 29, .a 30, .a 31, .a 32, .a 33, .a 34, .a 35, .a 36, .a 37, .a 38, .a 39, .a 40, .a 41, .a 42, .a 43, .a 44, .a 45, .a 46, .a 47, .a 48, .a 49, .a 50, .a 51, .a 52, .a 53, .a 54] mixed (by decide +kernel) ?_ | refine Z.T0 rfl ?_)
      refine hx4.cut (l := pos fs k) (h := pos fs k + fs[k].length) vt30 (.inr ⟨_, _, rfl, rfl⟩) (.inr ⟨_, _, rfl, rfl⟩) (by omega) (by simpa using g2') fun z1 hz1 _ => ?_
      rw [rowsB_take, rowsB_drop, g1'] at hz1
      (refine hF _ _ ?_; clear hF F)
      repeat' (first | ((first | refine Z.W0 ?_ | refine Z.X0 ?_); simp only [go_sem, seval, l1, E1.idx, E1.load, E1.conv, convB hz1, E1.len, wa, wk]) | (refine hF _ _ ?_; clear hF F) | (refine Z.p0 ?_; simp only [St.put]) | refine Z.b0 ?_ | refine Z.c0 ?_ | refine Z.f0 ?_ | refine Z.h0 ?_ | refine Z.m0 ?_ | refine Z.q0 rfl rfl fun F hF => ?_ | refine Z.A0 rfl rfl rfl fun F hF => ?_ | (refine Z.D0 ?_; simp only [St.put]) | refine Z.U0 rfl ?_)
      simp only [loopK]
      simp only [St.keep, St.get, reduceIte, Nat.reduceEqDiff]
      exact ⟨n, by omega, k + 1, trivial, by omega, by rw [g3']⟩
end Go.Proofs.YtboojmppmaepmaaDoor
/- What came in, read: numbers, messages. -/
namespace Go.Proofs.YtboojmppmaepmaaDoor
set_option maxHeartbeats 8000000
set_option linter.all false
set_option maxRecDepth 10000
open Go Go.Fw Go.ChangeShapes Go.WideShapes Go.ChangeAt Go.RowKit Go.Lib

section
variable {H : Type} {enc : TypeId × Value → H} {w : World}
theorem rowsI_of : ∀ rows : List (List AV), (∀ r ∈ rows, ∃ c : Int, r = [.v (.int .i64 c)]) → ∃ l : List Int, rows = rowsI l
  | [], _ => ⟨[], rfl⟩
  | r :: rows, h => by
    obtain ⟨c, rfl⟩ := h r (by simp)
    obtain ⟨l, rfl⟩ := rowsI_of rows (fun q hq => h q (by simp [hq]))
    exact ⟨c :: l, rfl⟩
/-- Whole numbers that came in. -/
theorem rep_ints {v : Value} {d : DataW H} {ps : List MemPlace} (hv : ∃ a l c, v = .slice a l c) (h : DataW.Trod enc Tryd.prog w 0 (fun _ => true) true 58 v d ps) :
    ∃ l : List Int, Rep w (fun _ => False) (.imm 1 (rowsI l)) v ∧ (Rows.uptoBulk d ≤ 1000000000 → l.length ≤ 1000000000) := by
  obtain ⟨a, l, c, rfl⟩ := hv
  obtain ⟨n, h⟩ := h
  obtain ⟨rows, h1, _, h2⟩ := repL_slice (Q := fun _ r => ∃ c : Int, r = [.v (.int .i64 c)]) Tryd.underlying58 (by rw [cl3]; decide) h (fun m cs' d' p' _ _ h => by
    obtain ⟨z, _, r, hw⟩ := repL_int Tryd.underlying3 h
    exact ⟨[.v (.int .i64 z)], ⟨z, rfl⟩, r⟩)
  rw [cl3] at h1
  rcases h2 with ⟨_, rfl⟩ | ⟨el, sp, rfl, hl, hq⟩
  · exact ⟨[], h1.single, fun _ => by simp⟩
  · obtain ⟨l, rfl⟩ := rowsI_of rows (by
      intro r hr
      obtain ⟨i, hi, rfl⟩ := List.getElem_of_mem hr
      exact hq i _ _ (List.getElem?_eq_getElem (by omega)) (List.getElem?_eq_getElem hi))
    refine ⟨l, h1.single, fun hb => ?_⟩
    have := all_le el
    have := slice_le (el := el) (sp := sp)
    simp only [rowsI_length] at hl
    omega
/-- Messages that came in. -/
theorem rep_msgs {v : Value} {d : DataW H} {ps : List MemPlace} (hv : ∃ a l c, v = .slice a l c) (h : DataW.Trod enc Tryd.prog w 0 (fun _ => true) true 62 v d ps) :
    ∃ rows, Rep w (fun _ => False) (.imm 7 rows) v ∧ (Rows.uptoBulk d ≤ 1000000000 → rows.length ≤ 1000000000 ∧ ∀ r ∈ rows, ∃ i j x, RdM (fun _ => none) i j x r) := by
  obtain ⟨a, l, c, rfl⟩ := hv
  obtain ⟨n, h⟩ := h
  obtain ⟨rows, h1, h2⟩ := slice_rows (R := fun r => ∃ i j x, RdM (fun _ => none) i j x r) Tryd.underlying62 (by rw [cl27]; decide) h (fun m cs' d' p' _ _ h => repL_message h)
  rw [cl27] at h1
  exact ⟨rows, h1.single, h2⟩
end
end Go.Proofs.YtboojmppmaepmaaDoor
