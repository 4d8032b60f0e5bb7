/- The walks and the plain laws that the row rests on, part 4: Yf Yg Yh Yi Yo Yn Yr Ys Yp Yq Yt Yu Yv Yj Yc. -/
import Derived.Test.YtboojmppmaepmaaDoorQ3
/- Bytes cut into frames: in whatever pieces they come. -/
namespace Go.Proofs.YtboojmppmaepmaaDoor
set_option maxHeartbeats 8000000
set_option linter.all false
open Go Go.Fw

def badHead (l : Bs) : Prop := 4 ≤ l.length ∧ lenOk (num l 0 4) = false
instance (l : Bs) : Decidable (badHead l) := by unfold badHead; infer_instance
def cut : Nat → Bs → List Bs × Bool
  | 0, _ => ([], false)
  | f + 1, l => if badHead l then ([], true) else if ready l = true then (l.take (num l 0 4) :: (cut f (l.drop (num l 0 4))).1, (cut f (l.drop (num l 0 4))).2) else ([], false)
def cutF (l : Bs) : List Bs × Bool := cut (l.length + 1) l

theorem ready_iff {l : Bs} : ready l = true ↔ 4 ≤ l.length ∧ num l 0 4 ≤ l.length := by simp [ready]
theorem good_len {l : Bs} (h : ¬ badHead l) (h4 : 4 ≤ l.length) : 26 ≤ num l 0 4 ∧ num l 0 4 ≤ 131072 := by
  have : lenOk (num l 0 4) = true := by
    cases e : lenOk (num l 0 4)
    · exact absurd ⟨h4, e⟩ h
    · rfl
  simp only [lenOk, Bool.and_eq_true, decide_eq_true_eq] at this
  omega
theorem cut_fuel : ∀ (f g : Nat) (l : Bs), l.length < f → l.length < g → cut f l = cut g l := by
  intro f
  induction f with
  | zero => intro g l h; omega
  | succ f ih =>
    intro g l hf hg
    obtain ⟨g, rfl⟩ : ∃ g', g = g' + 1 := ⟨g - 1, by omega⟩
    simp only [cut]
    by_cases hb : badHead l
    · rw [if_pos hb, if_pos hb]
    · rw [if_neg hb, if_neg hb]
      by_cases hr : ready l = true
      · obtain ⟨r1, r2⟩ := ready_iff.1 hr
        have := good_len hb r1
        rw [if_pos hr, if_pos hr, ih g (l.drop (num l 0 4)) (by simp; omega) (by simp; omega)]
      · rw [if_neg hr, if_neg hr]
theorem cutF_eq (l : Bs) : cutF l = if badHead l then ([], true) else if ready l = true then (l.take (num l 0 4) :: (cutF (l.drop (num l 0 4))).1, (cutF (l.drop (num l 0 4))).2) else ([], false) := by
  unfold cutF
  conv => lhs; unfold cut
  by_cases hb : badHead l
  · rw [if_pos hb, if_pos hb]
  · rw [if_neg hb, if_neg hb]
    by_cases hr : ready l = true
    · obtain ⟨r1, r2⟩ := ready_iff.1 hr
      have := good_len hb r1
      rw [if_pos hr, if_pos hr, cut_fuel l.length ((l.drop (num l 0 4)).length + 1) _ (by simp; omega) (by omega)]
    · rw [if_neg hr, if_neg hr]

theorem num_app {l r : Bs} (h : 4 ≤ l.length) : num (l ++ r) 0 4 = num l 0 4 := by
  unfold num
  rw [List.drop_zero, List.drop_zero, List.take_append_of_le_length (by omega)]
theorem bad_app {l r : Bs} (h : badHead l) : badHead (l ++ r) := ⟨by rw [List.length_append]; have := h.1; omega, by rw [num_app h.1]; exact h.2⟩
theorem bad_of_app {l r : Bs} (h4 : 4 ≤ l.length) (h : badHead (l ++ r)) : badHead l := ⟨h4, by have := h.2; rwa [num_app h4] at this⟩

/-- What is known of the reading of b, when the frames fs are told, the reader holds l, and rest is still to come. -/
structure Cut (b : Bs) (fs : List Bs) (l : Bs) (gone : Bool) (rest : Bs) : Prop where
  few : 26 * fs.length + l.length + rest.length ≤ b.length
  going : gone = false → ¬ badHead l ∧ cutF b = (fs ++ (cutF (l ++ rest)).1, (cutF (l ++ rest)).2)
  stopped : gone = true → l = [] ∧ cutF b = (fs, true)

theorem Cut.start (b : Bs) : Cut b [] [] false b :=
  ⟨by simp, fun _ => ⟨(fun h => by have := h.1; simp at this), by simp⟩, (fun h => by cases h)⟩
theorem settle_bad {l : Bs} {g : Bool} (h : badHead l) : settle l g = ([], true) := if_pos h
theorem settle_good {l : Bs} {g : Bool} (h : ¬ badHead l) : settle l g = (l, g) := if_neg h
/-- Bytes come. -/
theorem Cut.feed {b : Bs} {fs : List Bs} {l p r : Bs} {gone : Bool} (h : Cut b fs l gone (p ++ r)) : Cut b fs (feed l gone p).1 (feed l gone p).2 r := by
  have hf := h.few
  rw [List.length_append] at hf
  unfold Go.Proofs.YtboojmppmaepmaaDoor.feed
  cases gone with
  | true =>
    rw [if_pos rfl]
    obtain ⟨g1, g2⟩ := h.stopped rfl
    exact ⟨by simp only; omega, (fun e => by cases e), fun _ => ⟨g1, g2⟩⟩
  | false =>
    rw [if_neg (by simp)]
    obtain ⟨g1, g2⟩ := h.going rfl
    by_cases hb : badHead (l ++ p)
    · rw [settle_bad hb]
      have hb2 : badHead (l ++ (p ++ r)) := by rw [← List.append_assoc]; exact bad_app hb
      refine ⟨by simp only [List.length_nil]; omega, (fun e => by cases e), fun _ => ⟨rfl, ?_⟩⟩
      rw [g2, cutF_eq, if_pos hb2]
      simp
    · rw [settle_good hb]
      refine ⟨by simp only [List.length_append]; omega, fun _ => ⟨hb, ?_⟩, fun e => (by simp at e)⟩
      rw [g2, List.append_assoc]
/-- A frame is told. -/
theorem Cut.next {b : Bs} {fs : List Bs} {l r : Bs} {gone : Bool} (h : Cut b fs l gone r) (hr : ready l = true) :
    gone = false ∧ 26 ≤ num l 0 4 ∧ num l 0 4 ≤ l.length ∧ Cut b (fs ++ [l.take (num l 0 4)]) (settle (l.drop (num l 0 4)) gone).1 (settle (l.drop (num l 0 4)) gone).2 r := by
  obtain ⟨r1, r2⟩ := ready_iff.1 hr
  have hf := h.few
  cases gone with
  | true =>
    obtain ⟨g1, _⟩ := h.stopped rfl
    rw [g1] at r1; simp at r1
  | false =>
    obtain ⟨g1, g2⟩ := h.going rfl
    obtain ⟨n1, n2⟩ := good_len g1 r1
    have hng : ¬ badHead (l ++ r) := fun hb => g1 (bad_of_app r1 hb)
    have hre : ready (l ++ r) = true := ready_iff.2 ⟨by rw [List.length_append]; omega, by rw [num_app r1, List.length_append]; omega⟩
    have hstep : cutF (l ++ r) = (l.take (num l 0 4) :: (cutF (l.drop (num l 0 4) ++ r)).1, (cutF (l.drop (num l 0 4) ++ r)).2) := by
      rw [cutF_eq, if_neg hng, if_pos hre, num_app r1, List.take_append_of_le_length r2, List.drop_append_of_le_length r2]
    refine ⟨rfl, n1, r2, ?_⟩
    by_cases hb : badHead (l.drop (num l 0 4))
    · rw [settle_bad hb]
      refine ⟨by simp only [List.length_nil, List.length_append, List.length_cons]; omega, (fun e => by cases e), fun _ => ⟨rfl, ?_⟩⟩
      rw [g2, hstep, cutF_eq (l.drop (num l 0 4) ++ r), if_pos (bad_app hb)]
    · rw [settle_good hb]
      refine ⟨by simp only [List.length_drop, List.length_append, List.length_cons, List.length_nil]; omega, fun _ => ⟨hb, ?_⟩, fun e => (by simp at e)⟩
      rw [g2, hstep]
      simp
/-- No more comes. -/
theorem Cut.done {b : Bs} {fs : List Bs} {l : Bs} {gone : Bool} (h : Cut b fs l gone []) (hr : ready l = false) : cutF b = (fs, gone) := by
  cases gone with
  | true => exact (h.stopped rfl).2
  | false =>
    obtain ⟨g1, g2⟩ := h.going rfl
    rw [g2, List.append_nil, cutF_eq, if_neg g1, hr]
    simp

/-- The frames stand one behind another at the head. -/
theorem cut_flat : ∀ (m : Nat) (b : Bs), b.length < m → ∃ r, b = (cutF b).1.flatten ++ r ∧ ∀ f ∈ (cutF b).1, 26 ≤ f.length := by
  intro m
  induction m with
  | zero => intro b h; omega
  | succ m ih =>
    intro b h
    rw [cutF_eq]
    by_cases hb : badHead b
    · rw [if_pos hb]
      exact ⟨b, by simp, fun f hf => by simp at hf⟩
    · rw [if_neg hb]
      by_cases hr : ready b = true
      · obtain ⟨r1, r2⟩ := ready_iff.1 hr
        obtain ⟨n1, n2⟩ := good_len hb r1
        rw [if_pos hr]
        obtain ⟨r, g1, g2⟩ := ih (b.drop (num b 0 4)) (by simp; omega)
        refine ⟨r, ?_, ?_⟩
        · simp only [List.flatten_cons, List.append_assoc]
          rw [← g1, List.take_append_drop]
        · intro f hf
          simp only [List.mem_cons] at hf
          rcases hf with rfl | hf
          · simp; omega
          · exact g2 f hf
      · rw [if_neg hr]
        exact ⟨b, by simp, fun f hf => by simp at hf⟩
end Go.Proofs.YtboojmppmaepmaaDoor
/- All frames that a reader tells: what is kept. -/
namespace Go.Proofs.YtboojmppmaepmaaDoor
set_option maxHeartbeats 8000000
set_option linter.all false
open Go Go.Fw
attribute [local irreducible] Reg RegD seqK blockK loopK retK panK
set_option maxRecDepth 10000

variable {H : AH} {K : AV → AH → Prop} {J : Value → AH → Prop}

/-- These rows are slices of these bytes. -/
def RdBs (H : AH) : List Bs → List (List AV) → Prop
  | [], r => r = []
  | f :: l, r => ∃ x r', r = [x] :: r' ∧ RdS H 1 (rowsB f) x ∧ RdBs H l r'
theorem RdBs.len {l : List Bs} : ∀ {r : List (List AV)}, RdBs H l r → r.length = l.length := by
  induction l with
  | nil => intro r h; simp only [RdBs] at h; subst h; rfl
  | cons v l ih =>
    intro r h
    obtain ⟨c, r', rfl, _, h2⟩ := h
    simp [ih h2]
theorem RdBs.get {l : List Bs} : ∀ {r : List (List AV)}, RdBs H l r → ∀ (k : Nat) (h1 : k < l.length) (h2 : k < r.length), ∃ x, r[k] = [x] ∧ RdS H 1 (rowsB l[k]) x := by
  induction l with
  | nil => intro r h k h1; simp at h1
  | cons v l ih =>
    intro r h k h1 h2
    obtain ⟨c, r', rfl, hv, hl⟩ := h
    cases k with
    | zero => exact ⟨c, rfl, hv⟩
    | succ k => exact ih hl k (by simpa using h1) (by simpa using h2)
theorem RdBs.snoc {l : List Bs} {f : Bs} {x : AV} : ∀ {r : List (List AV)}, RdBs H l r → RdS H 1 (rowsB f) x → RdBs H (l ++ [f]) (r ++ [[x]]) := by
  induction l with
  | nil => intro r h k; simp only [RdBs] at h; subst h; exact ⟨x, [], rfl, k, rfl⟩
  | cons v l ih =>
    intro r h k
    obtain ⟨c, r', rfl, hv, hl⟩ := h
    exact ⟨c, r' ++ [[x]], rfl, hv, ih hl k⟩
theorem RdBs.mono {H1 : AH} (hle : Le H H1) : ∀ {l : List Bs} {r : List (List AV)}, RdBs H l r → RdBs H1 l r
  | [], r, h => h
  | f :: l, r, h => by
    obtain ⟨c, r', rfl, hv, hl⟩ := h
    exact ⟨c, r', rfl, hv.mono hle, RdBs.mono hle hl⟩

/-- A reader at work: apart from what was there before (H0); what it told lies in Hv. -/
structure Told (H0 H : AH) (p : Nat) (xr : AV) (l : Bs) (gone : Bool) (xo : AV) (rows : List (List AV)) (Hv : AH) (fs : List Bs) : Prop where
  rdr : Rdr H p xr l gone
  le : Le H0 H
  np : H0 p = none
  nx : ∀ c, xr.blk = some c → H0 c = none
  out : Ow H 1 rows xo
  no : ∀ c, xo.blk = some c → H0 c = none ∧ c ≠ p ∧ xr.blk ≠ some c
  bs : RdBs Hv fs rows
  ap : Apart H0 Hv
  lv : Le Hv H
  vp : Hv p = none
  vx : ∀ c, xr.blk = some c → Hv c = none
  vo : ∀ c, xo.blk = some c → Hv c = none

theorem Told.start {H0 H : AH} {p : Nat} (r : Rdr H p (.v (.slice none 0 0)) [] false) (e : Le H0 H) (np : H0 p = none) : Told H0 H p (.v (.slice none 0 0)) [] false (.v (.slice none 0 0)) [] (fun _ => none) [] :=
  ⟨r, e, np, (fun c h => by cases h), .nil, (fun c h => by cases h), rfl, (fun _ _ _ => rfl), (fun _ _ h => by cases h), rfl, (fun _ _ => rfl), (fun _ _ => rfl)⟩

/-- A call on the reader. -/
theorem Told.went {H0 H H' : AH} {p : Nat} {xr xr' : AV} {l l' : Bs} {g g' : Bool} {xo : AV} {rows : List (List AV)} {Hv : AH} {fs : List Bs} (h : Told H0 H p xr l g xo rows Hv fs) (w : Went p H xr H' xr') (r : Rdr H' p xr' l' g') :
    Told H0 H' p xr' l' g' xo rows Hv fs := by
  have keep : ∀ c o, H c = some o → c ≠ p → xr.blk ≠ some c → H' c = some o := w.keep
  have new : ∀ c, xr'.blk = some c → c = p ∨ xr.blk = some c ∨ H c = none := w.new
  refine ⟨r, fun c o hc => keep c o (h.le c o hc) (fun e => by rw [e, h.np] at hc; cases hc) (fun e => by rw [h.nx c e] at hc; cases hc), h.np, fun c hc => ?_, ?_, fun c hc => ⟨(h.no c hc).1, (h.no c hc).2.1, fun e => ?_⟩, h.bs, h.ap, fun c o hc => keep c o (h.lv c o hc) (fun e => by rw [e, h.vp] at hc; cases hc) (fun e => by rw [h.vx c e] at hc; cases hc), h.vp, fun c hc => ?_, h.vo⟩
  · rcases new c hc with e | e | e
    · rw [e]; exact h.np
    · exact h.nx c e
    · exact h.le.none e
  · refine h.out.keep fun c hc => ?_
    obtain ⟨_, n2, n3⟩ := h.no c hc
    rw [keep c _ (h.out.atb hc) n2 n3, h.out.atb hc]
  · obtain ⟨_, n2, n3⟩ := h.no c hc
    rcases new c e with e | e | e
    · exact n2 e
    · exact n3 e
    · rw [h.out.atb hc] at e; cases e
  · rcases new c hc with e | e | e
    · rw [e]; exact h.vp
    · exact h.vx c e
    · exact h.lv.none e

/-- A frame is put to those that were told. -/
theorem Told.put {H0 H H' : AH} {p : Nat} {xr xr' : AV} {l l' : Bs} {g g' : Bool} {xo fx : AV} {rows : List (List AV)} {Hv : AH} {fs : List Bs} {f : Bs} (h : Told H0 H p xr l g xo rows Hv fs) (w : Went p H xr H' xr') (r : Rdr H' p xr' l' g')
    (of : Ow H' 1 (rowsB f) fx) (nf : ∀ c, fx.blk = some c → H c = none ∧ xr'.blk ≠ some c) (hb : rows.length ≤ 1000000000) :
    ∃ Hb, On Hb 1 rows H' xo ∧ ∀ xo' H'', On Hb 1 (rows ++ [[fx]]) H'' xo' → ∃ Hv', Told H0 H'' p xr' l' g' xo' (rows ++ [[fx]]) Hv' (fs ++ [f]) := by
  have h' := h.went w r
  obtain ⟨Hb, hon, hsame⟩ := h'.out.on
  refine ⟨Hb, hon, fun xo' H'' hon' => ?_⟩
  have T := hon.turned hon'
  have hxo : ∀ c, xo.blk = some c → ∃ o, H c = some o := fun c hc => ⟨_, h.out.atb hc⟩
  have keepv : ∀ c o, Hv c = some o → H'' c = some o := fun c o hc => T.keep c o (h'.lv c o hc) (fun e => by rw [h'.vo c e] at hc; cases hc)
  have keepf : ∀ c, fx.blk = some c → H'' c = some ⟨1, rowsB f⟩ := fun c hc => T.keep c _ (of.atb hc) (fun e => by
    obtain ⟨o, ho⟩ := hxo c e
    rw [(nf c hc).1] at ho; cases ho)
  have hfp : ∀ c, fx.blk = some c → c ≠ p := fun c hc e => by have := (nf c hc).1; rw [e, h.rdr.at_] at this; cases this
  have hvf : ∀ c, fx.blk = some c → Hv c = none := fun c hc => h.lv.none (nf c hc).1
  obtain ⟨Hf, hHf⟩ : ∃ Hf : AH, ∀ c, Hf c = if fx.blk = some c then H'' c else none := ⟨fun c => if fx.blk = some c then H'' c else none, fun c => rfl⟩
  have lf : Le Hf H'' := fun c o hc => by
    rw [hHf] at hc
    split at hc
    · exact hc
    · cases hc
  have ff : ∀ c, fx.blk = some c → Hf c = some ⟨1, rowsB f⟩ := fun c hc => by rw [hHf, if_pos hc, keepf c hc]
  have fn : ∀ c, fx.blk ≠ some c → Hf c = none := fun c hc => by rw [hHf, if_neg hc]
  have dis : ∀ c o, Hf c = some o → Hv c = none := fun c o hc => by
    by_cases e : fx.blk = some c
    · exact hvf c e
    · rw [fn c e] at hc; cases hc
  have rf : RdS Hf 1 (rowsB f) fx := of.rd.keep fun c hc => by rw [ff c hc, of.atb hc]
  refine ⟨orH Hv Hf, ⟨⟨T.keep p _ h'.rdr.at_ (fun e => (h'.no p e).2.1 rfl), h'.rdr.vec.keep fun c hc => ?_, h'.rdr.few⟩, fun c o hc => T.keep c o (h'.le c o hc) (fun e => by rw [(h'.no c e).1] at hc; cases hc), h.np, h'.nx, hon'.ow, fun c hc => ?_,
    (h.bs.mono (orH_l _ _)).snoc (rf.mono (orH_r dis)), fun c o hc => ?_, orH_le (fun c o hc => keepv c o hc) lf, ?_, fun c hc => ?_, fun c hc => ?_⟩⟩
  · rw [T.keep c _ (h'.rdr.vec.atb hc) (fun e => (h'.no c e).2.2 hc), h'.rdr.vec.atb hc]
  · rcases T.new c hc with e | e
    · exact h'.no c e
    · refine ⟨h'.le.none e, fun e2 => ?_, fun e2 => ?_⟩
      · rw [e2, h'.rdr.at_] at e; cases e
      · rw [h'.rdr.vec.atb e2] at e; cases e
  · refine orH_none (h.ap c o hc) (fn c fun e => ?_)
    have := h.le.none (nf c e).1
    rw [this] at hc; cases hc
  · exact orH_none h.vp (fn p fun e => hfp p e rfl)
  · exact orH_none (h'.vx c hc) (fn c fun e => (nf c e).2 hc)
  · rcases T.new c hc with e | e
    · refine orH_none (h.vo c e) (fn c fun e2 => ?_)
      obtain ⟨o, ho⟩ := hxo c e
      rw [(nf c e2).1] at ho; cases ho
    · refine orH_none (h'.lv.none e) (fn c fun e2 => ?_)
      rw [of.atb e2] at e; cases e
end Go.Proofs.YtboojmppmaepmaaDoor
/- All frames that a reader tells: the walk. -/
namespace Go.Proofs.YtboojmppmaepmaaDoor
set_option maxHeartbeats 8000000
set_option linter.all false
open Go Go.Fw
attribute [local irreducible] Reg RegD seqK blockK loopK retK panK
set_option maxRecDepth 10000

variable {H : AH} {K : AV → AH → Prop} {J : Value → AH → Prop}

def rowsI (l : List Int) : List (List AV) := l.map fun z => [AV.v (.int .i64 z)]
@[simp] theorem rowsI_length (l : List Int) : (rowsI l).length = l.length := by simp [rowsI]
theorem elI {H : AH} {l : List Int} {x : AV} (hx : RdS H 1 (rowsI l) x) {k : Nat} (hk : k < l.length) : ∃ p, (∀ F, aidx Tryd.prog 58 x (.v (.int .i64 k)) F = F p) ∧ ∀ F, aload Tryd.prog 3 p H F = F (.v (.int .i64 l[k])) := by
  obtain ⟨p, hp, _, hi⟩ := hx.idx vt58 (k := k) (by simpa using hk)
  refine ⟨p, hi, fun F => ?_⟩
  rw [hp.load]
  simp [acut, Tryd.underlying3, isAggD, rowsI]
theorem band63 (z : Int) : ∃ q : Nat, q ≤ 63 ∧ IntKind.i64.wrap (band .i64 z 63) = (q : Int) := by
  have h : (BitVec.ofInt 64 z &&& BitVec.ofInt 64 63).toNat ≤ 63 := by
    rw [BitVec.toNat_and]
    exact Nat.and_le_right
  refine ⟨(BitVec.ofInt 64 z &&& BitVec.ofInt 64 63).toNat, h, ?_⟩
  show IntKind.i64.wrap (((BitVec.ofInt 64 z &&& BitVec.ofInt 64 63).toNat : Nat) : Int) = _
  rw [wrap_of] <;> omega

theorem told_ok {b : Bs} {zs : List Int} {xb xs : AV} {between : Bool} (hx : RdS H 1 (rowsB b) xb) (hb : b.length ≤ 1000000000) (hz : RdS H 1 (rowsI zs) xs) (hzl : zs.length ≤ 1000000000)
    (hk : ∀ H' xo rows, Le H H' → RdS H' 1 rows xo → RdBs H' (cutF b).1 rows → K (.tup [xo, .v (.bool (cutF b).2)]) H') : CallX Tryd.prog 29 [xb, xs, .v (.bool between)] H K J := by
  refine CallX.of_body Tryd.func29 nm29 rfl ?_; simp only [Tryd.ntmps29, List.length_cons, List.length_nil, argSt, Nat.reduceAdd, Nat.reduceSub]
  repeat' (first | ((first | refine Z.W0 ?_ | refine Z.X0 ?_); simp only [go_sem, seval]) | (refine hF _ _ ?_; clear hF F) | (refine Z.p0 ?_; simp only [St.put]) | refine Z.a0 ?_ | refine Z.b0 ?_ | refine Z.c0 ?_ | refine Z.h0 ?_ | refine Z.q0 rfl rfl fun F hF => ?_)
  refine new_ok fun H1 p e1 np r1 => ?_
  (refine hF _ _ ?_; clear hF F)
  repeat' (first | ((first | refine Z.W0 ?_ | refine Z.X0 ?_); simp only [go_sem, seval]) | (refine hF _ _ ?_; clear hF F) | (refine Z.p0 ?_; simp only [St.put]) | refine Z.a0 ?_ | refine Z.b0 ?_ | refine Z.c0 ?_ | refine Z.h0 ?_ | refine Z.l0 ?_ | refine Z.q0 rfl rfl fun F hF => ?_)
  refine W_loop [0, 1, 2, 8, 9, 10] (fun n s Hc => ∃ (i : Nat) (rest l : Bs) (gone : Bool) (z xr xo : AV) (rows : List (List AV)) (Hv : AH) (fs : List Bs), n = (zs.length - i) + rest.length ∧ i ≤ zs.length + 1 ∧ (i = zs.length + 1 → rest = []) ∧ RdS H 1 (rowsB rest) z ∧ Told H Hc p xr l gone xo rows Hv fs ∧ Cut b fs l gone rest ∧
    s = [(0, z), (1, xs), (2, .v (.bool between)), (8, .ptr p 2 0 0), (9, xo), (10, .v (.int .i64 i))]) (zs.length + b.length) ?_ ?_
  · simp only [St.keep, St.get, reduceIte, Nat.reduceEqDiff]
    exact ⟨0, b, [], false, xb, _, _, [], _, [], by omega, by omega, (fun h => by omega), hx, Told.start r1 e1 np, Cut.start b, rfl⟩
  clear r1 e1 H1
  rintro n s Hc ⟨i, rest, l, gone, z, xr, xo, rows, Hv, fs, rfl, hi, hi2, hzr, TT, CC, rfl⟩
  have few := CC.few
  have lz := lenB (hzr.mono TT.le)
  have lzs := (hz.mono TT.le).len vt58
  rw [rowsI_length] at lzs
  by_cases hre : rest.length = 0
  case pos =>
    obtain rfl : rest = [] := List.eq_nil_of_length_eq_zero hre
    have d0 : decide ((([] : Bs).length : Int) > 0) = false := by simp
    repeat' (first | ((first | refine Z.W0 ?_ | refine Z.X0 ?_); simp only [go_sem, seval, lz, d0]) | (refine hF _ _ ?_; clear hF F) | (refine Z.p0 ?_; simp only [St.put]) | refine Z.a0 ?_ | refine Z.b0 ?_ | refine Z.c0 ?_ | refine Z.e0 ?_ | refine Z.h0 ?_ | refine Z.k0 ?_ | refine Z.l0 ?_ | refine Z.o0 ?_ | refine Z.q0 rfl rfl fun F hF => ?_ | refine Z.U0 rfl ?_)
    clear lz lzs
    refine W_loop [8, 9] (fun n s Hc => ∃ (l : Bs) (gone : Bool) (xr xo : AV) (rows : List (List AV)) (Hv : AH) (fs : List Bs), n = l.length ∧ Told H Hc p xr l gone xo rows Hv fs ∧ Cut b fs l gone [] ∧ s = [(8, .ptr p 2 0 0), (9, xo)]) l.length ?_ ?_
    · simp only [St.keep, St.get, reduceIte, Nat.reduceEqDiff]
      exact ⟨l, gone, xr, xo, rows, Hv, fs, rfl, TT, CC, rfl⟩
    clear TT CC few
    rintro n s Hc ⟨l, gone, xr, xo, rows, Hv, fs, rfl, TT, CC, rfl⟩
    have few := CC.few
    have hrl := TT.bs.len
    cases hr : ready l
    · repeat' (first | ((first | refine Z.W0 ?_ | refine Z.X0 ?_); simp only [go_sem, seval]) | (refine hF _ _ ?_; clear hF F) | refine Z.a0 ?_ | refine Z.b0 ?_ | refine Z.h0 ?_ | refine Z.l0 ?_ | refine Z.q0 rfl rfl fun F hF => ?_)
      refine next_none TT.rdr hr ?_
      (refine hF _ _ ?_; clear hF F)
      repeat' (first | ((first | refine Z.W0 ?_ | refine Z.X0 ?_); simp only [go_sem, seval]) | (refine hF _ _ ?_; clear hF F) | (refine Z.p0 ?_; simp only [St.put]) | refine Z.a0 ?_ | refine Z.b0 ?_ | refine Z.c0 ?_ | refine Z.h0 ?_ | refine Z.q0 rfl rfl fun F hF => ?_ | refine Z.T0 rfl ?_)
      refine broken_ok TT.rdr ?_
      (refine hF _ _ ?_; clear hF F)
      repeat' (first | ((first | refine Z.W0 ?_ | refine Z.X0 ?_); simp only [go_sem, seval]) | (refine hF _ _ ?_; clear hF F) | (refine Z.p0 ?_; simp only [St.put]) | refine Z.c0 ?_ | refine Z.d0 ?_ | refine Z.g0 ?_ | refine Z.h0 ?_ | refine Z.j0 ?_ | refine Z.n0 ?_ | refine Z.q0 rfl rfl fun F hF => ?_)
      simp only [retK, ares, pack, Tryd.results29, St.get, reduceIte, Nat.reduceEqDiff, aload, arow, List.toArray, Array.toList]
      have hd := CC.done hr
      rw [hd] at hk
      exact hk _ _ _ TT.le TT.out.rd (TT.bs.mono TT.lv)
    · obtain ⟨g1, g2, g3, CC'⟩ := CC.next hr
      repeat' (first | ((first | refine Z.W0 ?_ | refine Z.X0 ?_); simp only [go_sem, seval]) | (refine hF _ _ ?_; clear hF F) | refine Z.a0 ?_ | refine Z.b0 ?_ | refine Z.h0 ?_ | refine Z.l0 ?_ | refine Z.q0 rfl rfl fun F hF => ?_)
      refine next_some TT.rdr hr fun H2 xr2 fx w2 r2 of nf => ?_
      obtain ⟨Hb, hon, hput⟩ := TT.put w2 r2 of nf (by omega)
      (refine hF _ _ ?_; clear hF F)
      repeat' (first | ((first | refine Z.W0 ?_ | refine Z.X0 ?_); simp only [go_sem, seval, of.cell, of.rd.cells]) | (refine hF _ _ ?_; clear hF F) | (refine Z.p0 ?_; simp only [St.put]) | refine Z.a0 ?_ | refine Z.b0 ?_ | refine Z.c0 ?_ | refine Z.h0 ?_ | refine Z.m0 ?_ | refine Z.q0 rfl rfl fun F hF => ?_ | refine Z.U0 rfl ?_)
      refine hon.app vt36 rfl rfl Tryd.underlying36 (fun k => by simp) (fun G => by simp [asrc]; rfl) (by simp; omega) fun xo' H3 hx' => ?_
      obtain ⟨Hv', TT'⟩ := hput _ _ hx'
      (refine hF _ _ ?_; clear hF F)
      repeat' (first | ((first | refine Z.W0 ?_ | refine Z.X0 ?_); simp only [go_sem, seval]) | (refine hF _ _ ?_; clear hF F) | (refine Z.p0 ?_; simp only [St.put]) | refine Z.f0 ?_ | refine Z.h0 ?_ | refine Z.q0 rfl rfl fun F hF => ?_)
      simp only [loopK]
      simp only [St.keep, St.get, reduceIte, Nat.reduceEqDiff]
      have h5 : (settle (l.drop (num l 0 4)) gone).1.length < l.length := by
        have h6 := CC'.few
        simp only [List.length_append, List.length_cons, List.length_nil] at h6
        unfold settle
        split
        · simp only [List.length_nil]; omega
        · simp only [List.length_drop]; omega
      exact ⟨_, h5, _, _, xr2, xo', _, Hv', _, rfl, TT', CC', rfl⟩
  have d0 : decide ((rest.length : Int) > 0) = true := by simp; omega
  have tl : ∀ (l : Bs) (gone : Bool) (g3 : num l 0 4 ≤ l.length) (g2 : 26 ≤ num l 0 4), (settle (l.drop (num l 0 4)) gone).1.length < l.length := by
    intro l gone g3 g2
    unfold settle
    split
    · simp only [List.length_nil]; omega
    · simp only [List.length_drop]; omega
  have wi : IntKind.i64.wrap ((i : Int) + 1) = ((i + 1 : Nat) : Int) := by rw [wrap_of] <;> omega
  by_cases hlt : i < zs.length
  case' pos =>
    have d1 : decide ((i : Int) < (zs.length : Int)) = true := by simp; omega
    obtain ⟨pe, E1, E2⟩ := elI (hz.mono TT.le) hlt
    obtain ⟨q, hq63, hq⟩ := band63 zs[i]
    obtain ⟨m, hm⟩ : ∃ m, m = min q rest.length := ⟨_, rfl⟩
    have hmin : (if (rest.length : Int) < (q : Int) then (rest.length : Int) else (q : Int)) = (m : Int) := by
      rw [hm]
      split <;> omega
    have hml : m ≤ rest.length := by omega
    have hdec : (zs.length - (i + 1)) + (rest.length - m) < (zs.length - i) + rest.length := by omega
    have hend : i + 1 = zs.length + 1 → rest.drop m = [] := by omega
    have hle1 : i + 1 ≤ zs.length + 1 := by omega
    repeat' (first | ((first | refine Z.W0 ?_ | refine Z.X0 ?_); simp only [go_sem, seval, lz, lzs, d0, d1, E1, E2, hq, hmin]) | (refine hF _ _ ?_; clear hF F) | (refine Z.p0 ?_; simp only [St.put]) | refine Z.a0 ?_ | refine Z.b0 ?_ | refine Z.c0 ?_ | refine Z.h0 ?_ | refine Z.l0 ?_ | refine Z.m0 ?_ | refine Z.q0 rfl rfl fun F hF => ?_ | refine Z.T0 rfl ?_)
  case' neg =>
    have d1 : decide ((i : Int) < (zs.length : Int)) = false := by simp; omega
    obtain ⟨m, hm⟩ : ∃ m, m = rest.length := ⟨_, rfl⟩
    have hml : m ≤ rest.length := by omega
    have hdec : (zs.length - (i + 1)) + (rest.length - m) < (zs.length - i) + rest.length := by omega
    have hi4 : i ≤ zs.length := by
      by_cases e : i = zs.length + 1
      · exact absurd (by rw [hi2 e]; rfl) hre
      · omega
    have hend : i + 1 = zs.length + 1 → rest.drop m = [] := fun _ => List.drop_of_length_le (by omega)
    have hle1 : i + 1 ≤ zs.length + 1 := by omega
    rw [← hm] at lz d0
    repeat' (first | ((first | refine Z.W0 ?_ | refine Z.X0 ?_); simp only [go_sem, seval, lz, lzs, d0, d1]) | (refine hF _ _ ?_; clear hF F) | (refine Z.p0 ?_; simp only [St.put]) | refine Z.a0 ?_ | refine Z.b0 ?_ | refine Z.c0 ?_ | refine Z.h0 ?_ | refine Z.l0 ?_ | refine Z.m0 ?_ | refine Z.q0 rfl rfl fun F hF => ?_ | refine Z.T0 rfl ?_ | refine Z.U0 rfl ?_)
  all_goals
    refine hzr.cut (l := 0) (h := m) vt30 (.inr ⟨_, _, rfl, rfl⟩) (.inl ⟨rfl, rfl⟩) (by omega) (by simpa using hml) fun z1 hz1 _ => ?_
    rw [rowsB_take, List.drop_zero] at hz1
    (refine hF _ _ ?_; clear hF F)
    repeat' (first | ((first | refine Z.W0 ?_ | refine Z.X0 ?_); simp only [go_sem, seval]) | refine Z.q0 rfl rfl fun F hF => ?_)
    refine feed_ok TT.rdr (hz1.mono TT.le) (by simp; omega) fun H2 xr2 w2 r2 => ?_
    have TT2 := TT.went w2 r2
    have CC1 : Cut b fs l gone (rest.take m ++ rest.drop m) := by rw [List.take_append_drop]; exact CC
    have CC2 := CC1.feed
    (refine hF _ _ ?_; clear hF F)
    repeat' (first | ((first | refine Z.W0 ?_ | refine Z.X0 ?_); simp only [go_sem, seval]) | (refine hF _ _ ?_; clear hF F) | (refine Z.p0 ?_; simp only [St.put]) | refine Z.a0 ?_ | refine Z.b0 ?_ | refine Z.c0 ?_ | refine Z.h0 ?_ | refine Z.q0 rfl rfl fun F hF => ?_)
    refine hzr.cut (l := m) (h := rest.length) vt30 (.inl ⟨rfl, by simp⟩) (.inr ⟨_, _, rfl, rfl⟩) (by omega) (by simp) fun z2 hz2 _ => ?_
    rw [rowsB_take, List.take_length, rowsB_drop] at hz2
    (refine hF _ _ ?_; clear hF F)
    repeat' (first | ((first | refine Z.W0 ?_ | refine Z.X0 ?_); simp only [go_sem, seval]) | (refine hF _ _ ?_; clear hF F) | (refine Z.p0 ?_; simp only [St.put]) | refine Z.c0 ?_ | refine Z.h0 ?_ | refine Z.l0 ?_ | refine Z.q0 rfl rfl fun F hF => ?_)
    generalize hl2 : (feed l gone (rest.take m)).1 = l2 at TT2 CC2
    generalize hg2 : (feed l gone (rest.take m)).2 = gone2 at TT2 CC2
    clear hl2 hg2 w2 r2 CC CC1 TT
    refine W_loop [0, 1, 2, 8, 9, 10] (fun n s Hc => ∃ (l : Bs) (gone : Bool) (xr xo : AV) (rows : List (List AV)) (Hv : AH) (fs : List Bs), n = l.length ∧ Told H Hc p xr l gone xo rows Hv fs ∧ Cut b fs l gone (rest.drop m) ∧
      s = [(0, z2), (1, xs), (2, .v (.bool between)), (8, .ptr p 2 0 0), (9, xo), (10, .v (.int .i64 i))]) l2.length ?_ ?_
    · simp only [St.keep, St.get, reduceIte, Nat.reduceEqDiff]
      exact ⟨l2, gone2, xr2, xo, rows, Hv, fs, rfl, TT2, CC2, rfl⟩
    clear TT2 CC2
    rintro n s H3 ⟨l3, gone3, xr3, xo3, rows3, Hv3, fs3, rfl, T3, C3, rfl⟩
    have few3 := C3.few
    have hrl3 := T3.bs.len
    have leave : ∀ (s' : St), s' = [(0, z2), (1, xs), (2, .v (.bool between)), (8, .ptr p 2 0 0), (9, xo3), (10, .v (.int .i64 ((i + 1 : Nat) : Int)))] →
        ∃ m', m' < zs.length - i + rest.length ∧ ∃ (i' : Nat) (rest' l : Bs) (gone : Bool) (z xr xo : AV) (rows : List (List AV)) (Hv : AH) (fs : List Bs), m' = (zs.length - i') + rest'.length ∧ i' ≤ zs.length + 1 ∧ (i' = zs.length + 1 → rest' = []) ∧ RdS H 1 (rowsB rest') z ∧ Told H H3 p xr l gone xo rows Hv fs ∧ Cut b fs l gone rest' ∧
          s' = [(0, z), (1, xs), (2, .v (.bool between)), (8, .ptr p 2 0 0), (9, xo), (10, .v (.int .i64 i'))] := by
      intro s' hs
      refine ⟨_, ?_, i + 1, rest.drop m, l3, gone3, z2, xr3, xo3, rows3, Hv3, fs3, rfl, hle1, hend, hz2, T3, C3, hs⟩
      rw [List.length_drop]
      exact hdec
    cases between
    · repeat' (first | ((first | refine Z.W0 ?_ | refine Z.X0 ?_); simp only [go_sem, seval, wi]) | (refine hF _ _ ?_; clear hF F) | (refine Z.p0 ?_; simp only [St.put]) | refine Z.a0 ?_ | refine Z.b0 ?_ | refine Z.c0 ?_ | refine Z.e0 ?_ | refine Z.f0 ?_ | refine Z.h0 ?_ | refine Z.k0 ?_ | refine Z.o0 ?_ | refine Z.q0 rfl rfl fun F hF => ?_ | refine Z.s0 rfl rfl rfl rfl ?_ | refine Z.U0 rfl ?_)
      simp only [loopK]
      simp only [St.keep, St.get, reduceIte, Nat.reduceEqDiff]
      exact leave _ rfl
    · repeat' (first | ((first | refine Z.W0 ?_ | refine Z.X0 ?_); simp only [go_sem, seval]) | (refine hF _ _ ?_; clear hF F) | refine Z.a0 ?_ | refine Z.b0 ?_ | refine Z.h0 ?_ | refine Z.q0 rfl rfl fun F hF => ?_ | refine Z.r0 rfl rfl rfl rfl fun F hF => ?_)
      refine ready_ok T3.rdr ?_
      (refine hF _ _ ?_; clear hF F)
      cases hr : ready l3
      · repeat' (first | ((first | refine Z.W0 ?_ | refine Z.X0 ?_); simp only [go_sem, seval, wi]) | (refine hF _ _ ?_; clear hF F) | (refine Z.p0 ?_; simp only [St.put]) | refine Z.b0 ?_ | refine Z.c0 ?_ | refine Z.e0 ?_ | refine Z.f0 ?_ | refine Z.h0 ?_ | refine Z.k0 ?_ | refine Z.o0 ?_ | refine Z.q0 rfl rfl fun F hF => ?_ | refine Z.U0 rfl ?_)
        simp only [loopK]
        simp only [St.keep, St.get, reduceIte, Nat.reduceEqDiff]
        exact leave _ rfl
      · obtain ⟨g1, g2, g3, C4⟩ := C3.next hr
        repeat' (first | ((first | refine Z.W0 ?_ | refine Z.X0 ?_); simp only [go_sem, seval]) | (refine hF _ _ ?_; clear hF F) | (refine Z.p0 ?_; simp only [St.put]) | refine Z.a0 ?_ | refine Z.b0 ?_ | refine Z.c0 ?_ | refine Z.h0 ?_ | refine Z.l0 ?_ | refine Z.m0 ?_ | refine Z.q0 rfl rfl fun F hF => ?_ | refine Z.T0 rfl ?_)
        refine next_some T3.rdr hr fun H4 xr4 fx w4 r4 of nf => ?_
        obtain ⟨Hb, hon, hput⟩ := T3.put w4 r4 of nf (by omega)
        (refine hF _ _ ?_; clear hF F)
        repeat' (first | ((first | refine Z.W0 ?_ | refine Z.X0 ?_); simp only [go_sem, seval, of.cell, of.rd.cells]) | (refine hF _ _ ?_; clear hF F) | (refine Z.p0 ?_; simp only [St.put]) | refine Z.b0 ?_ | refine Z.c0 ?_ | refine Z.h0 ?_ | refine Z.q0 rfl rfl fun F hF => ?_)
        refine hon.app vt36 rfl rfl Tryd.underlying36 (fun k => by simp) (fun G => by simp [asrc]; rfl) (by simp; omega) fun xo' H5 hx' => ?_
        obtain ⟨Hv', T5⟩ := hput _ _ hx'
        (refine hF _ _ ?_; clear hF F)
        repeat' (first | ((first | refine Z.W0 ?_ | refine Z.X0 ?_); simp only [go_sem, seval]) | (refine hF _ _ ?_; clear hF F) | (refine Z.p0 ?_; simp only [St.put]) | refine Z.f0 ?_ | refine Z.h0 ?_ | refine Z.q0 rfl rfl fun F hF => ?_)
        simp only [loopK]
        simp only [St.keep, St.get, reduceIte, Nat.reduceEqDiff]
        exact ⟨_, tl l3 gone3 g3 g2, _, _, xr4, xo', _, Hv', _, rfl, T5, C4, rfl⟩
end Go.Proofs.YtboojmppmaepmaaDoor
/- In whatever pieces bytes come, the same frames are told: the law's walk. -/
namespace Go.Proofs.YtboojmppmaepmaaDoor
set_option maxHeartbeats 8000000
set_option linter.all false
open Go Go.Fw
attribute [local irreducible] Reg RegD seqK blockK loopK retK panK
set_option maxRecDepth 10000

variable {H : AH} {K : AV → AH → Prop} {J : Value → AH → Prop}

/-- One of the slices of bytes. -/
structure ElS (H : AH) (x i p y : AV) (f : Bs) : Prop where
  idx : ∀ F, aidx Tryd.prog 36 x i F = F p
  load : ∀ F, aload Tryd.prog 30 p H F = F y
  conv : ∀ F, aconv Tryd.prog 30 9 y H F = F (.v (.string (bs f)))
  len : ∀ F, alen Tryd.prog 30 y F = F (.v (.int .i64 f.length))
  rd : RdS H 1 (rowsB f) y
theorem elS {fs : List Bs} {rows : List (List AV)} {x : AV} (hx : RdS H 1 rows x) (hb : RdBs H fs rows) {k : Nat} (hk : k < fs.length) : ∃ p y, ElS H x (.v (.int .i64 k)) p y fs[k] := by
  have hk2 : k < rows.length := by rw [hb.len]; exact hk
  obtain ⟨p, hp, _, hi⟩ := hx.idx vt36 hk2
  obtain ⟨y, hy, hr⟩ := hb.get k hk hk2
  refine ⟨p, y, hi, fun F => ?_, convB hr, lenB hr, hr⟩
  rw [hp.load, hy]
  simp [acut, Tryd.underlying30, isAggD]
theorem lenS {fs : List Bs} {rows : List (List AV)} {x : AV} (hx : RdS H 1 rows x) (hb : RdBs H fs rows) : ∀ F, alen Tryd.prog 36 x F = F (.v (.int .i64 fs.length)) := fun F => by
  rw [hx.len vt36, hb.len]

def pos (fs : List Bs) (k : Nat) : Nat := (fs.take k).flatten.length
theorem flat_seg {fs : List Bs} {r : Bs} {k : Nat} (hk : k < fs.length) : (((fs.flatten ++ r).take ((fs.take k).flatten.length + fs[k].length)).drop (fs.take k).flatten.length) = fs[k] ∧ (fs.take k).flatten.length + fs[k].length ≤ (fs.flatten ++ r).length ∧ (fs.take (k + 1)).flatten.length = (fs.take k).flatten.length + fs[k].length := by
  have h1 : fs.flatten = (fs.take k).flatten ++ (fs[k] ++ (fs.drop (k + 1)).flatten) := by
    have := congrArg List.flatten (List.take_append_drop k fs)
    rw [List.flatten_append, List.drop_eq_getElem_cons hk, List.flatten_cons] at this
    exact this.symm
  refine ⟨?_, ?_, ?_⟩
  · rw [h1, List.drop_take, Nat.add_sub_cancel_left, List.append_assoc, List.drop_left, List.append_assoc, List.take_left]
  · rw [h1]; simp only [List.length_append]; omega
  · rw [List.take_succ_eq_append_getElem hk, List.flatten_append, List.length_append, List.flatten_cons, List.flatten_nil, List.append_nil]

theorem flat_count : ∀ {fs : List Bs}, (∀ f ∈ fs, 26 ≤ f.length) → 26 * fs.length ≤ fs.flatten.length
  | [], _ => by simp
  | f :: fs, h => by
    have h1 := h f (by simp)
    have h2 := flat_count (fs := fs) fun g hg => h g (by simp [hg])
    simp only [List.length_cons, List.flatten_cons, List.length_append]
    omega

theorem lawPieces_ok {b : Bs} {zs ys : List Int} {xb xs xt : AV} (hx : RdS H 1 (rowsB b) xb) (hb : b.length ≤ 1000000000) (hz : RdS H 1 (rowsI zs) xs) (hzl : zs.length ≤ 1000000000) (hy : RdS H 1 (rowsI ys) xt) (hyl : ys.length ≤ 1000000000)
    (hk : ∀ H', Le H H' → K (.v (.bool true)) H') : CallX Tryd.prog 7 [xb, xs, xt] H K J := by
  refine CallX.of_body Tryd.func7 nm7 rfl ?_; simp only [Tryd.ntmps7, List.length_cons, List.length_nil, argSt, Nat.reduceAdd, Nat.reduceSub]
  repeat' (first | ((first | refine Z.W0 ?_ | refine Z.X0 ?_); simp only [go_sem, seval]) | (refine hF _ _ ?_; clear hF F) | (refine Z.p0 ?_; simp only [St.put]) | refine Z.a0 ?_ | refine Z.b0 ?_ | refine Z.c0 ?_ | refine Z.h0 ?_ | refine Z.q0 rfl rfl fun F hF => ?_)
  refine awake_ok fun H1 e1 => ?_
  (refine hF _ _ ?_; clear hF F)
  repeat' (first | ((first | refine Z.W0 ?_ | refine Z.X0 ?_); simp only [go_sem, seval]) | (refine hF _ _ ?_; clear hF F) | (refine Z.p0 ?_; simp only [St.put]) | refine Z.a0 ?_ | refine Z.b0 ?_ | refine Z.c0 ?_ | refine Z.h0 ?_ | refine Z.q0 rfl rfl fun F hF => ?_)
  refine told_ok (zs := []) (hx.mono e1) hb .nil (by simp) fun H2 w1 q1 e2 r1 s1 => ?_
  (refine hF _ _ ?_; clear hF F)
  repeat' (first | ((first | refine Z.W0 ?_ | refine Z.X0 ?_); simp only [go_sem, seval]) | (refine hF _ _ ?_; clear hF F) | (refine Z.p0 ?_; simp only [St.put]) | refine Z.a0 ?_ | refine Z.b0 ?_ | refine Z.c0 ?_ | refine Z.h0 ?_ | refine Z.q0 rfl rfl fun F hF => ?_)
  refine told_ok (hx.mono (e1.trans e2)) hb (hz.mono (e1.trans e2)) hzl fun H3 w2 q2 e3 r2 s2 => ?_
  (refine hF _ _ ?_; clear hF F)
  repeat' (first | ((first | refine Z.W0 ?_ | refine Z.X0 ?_); simp only [go_sem, seval]) | (refine hF _ _ ?_; clear hF F) | (refine Z.p0 ?_; simp only [St.put]) | refine Z.a0 ?_ | refine Z.b0 ?_ | refine Z.c0 ?_ | refine Z.h0 ?_ | refine Z.q0 rfl rfl fun F hF => ?_)
  refine told_ok (hx.mono ((e1.trans e2).trans e3)) hb (hy.mono ((e1.trans e2).trans e3)) hyl fun H4 w3 q3 e4 r3 s3 => ?_
  have r1 := r1.mono (e3.trans e4)
  have s1 := s1.mono (e3.trans e4)
  have r2 := r2.mono e4
  have s2 := s2.mono e4
  have hle : Le H H4 := ((e1.trans e2).trans e3).trans e4
  have hx4 := hx.mono hle
  obtain ⟨rr, hflat, hge⟩ := cut_flat _ b (Nat.lt_succ_self _)
  obtain ⟨fs, hfs⟩ : ∃ fs, (cutF b).1 = fs := ⟨_, rfl⟩
  obtain ⟨gone, hg⟩ : ∃ gone, (cutF b).2 = gone := ⟨_, rfl⟩
  rw [hfs] at s1 s2 s3 hflat hge
  have hcnt := flat_count hge
  have hfl : fs.flatten.length ≤ b.length := by rw [hflat, List.length_append]; omega
  rw [hg]
  have l1 := lenS r1 s1
  have l2 := lenS r2 s2
  have l3 := lenS r3 s3
  (refine hF _ _ ?_; clear hF F)
  cases gone
  all_goals
    repeat' (first | ((first | refine Z.W0 ?_ | refine Z.X0 ?_); simp only [go_sem, seval, l1, l2, l3, hg]) | (refine hF _ _ ?_; clear hF F) | (refine Z.p0 ?_; simp only [St.put]) | refine Z.a0 ?_ | refine Z.b0 ?_ | refine Z.c0 ?_ | refine Z.h0 ?_ | refine Z.l0 ?_ | refine Z.m0 ?_ | refine Z.q0 rfl rfl fun F hF => ?_ | refine Z.r0 rfl rfl rfl rfl fun F hF => ?_ | refine Z.U0 rfl ?_)
    refine W_loop [0, 8, 10, 12, 14, 15] (fun n s H' => ∃ k : Nat, H' = H4 ∧ n + k = fs.length ∧ s = [(0, xb), (8, w1), (10, w2), (12, w3), (14, .v (.int .i64 (pos fs k))), (15, .v (.int .i64 k))]) fs.length ?_ ?_
    · simp only [St.keep, St.get, reduceIte, Nat.reduceEqDiff]
      exact ⟨0, trivial, by omega, by simp [pos]⟩
    rintro n s H' ⟨k, rfl, hn, rfl⟩
    cases n with
    | zero =>
      obtain rfl : k = fs.length := by omega
      have d : decide ((fs.length : Int) < (fs.length : Int)) = false := by simp
      repeat' (first | ((first | refine Z.W0 ?_ | refine Z.X0 ?_); simp only [go_sem, seval, l1, d]) | (refine hF _ _ ?_; clear hF F) | (refine Z.p0 ?_; simp only [St.put]) | refine Z.a0 ?_ | refine Z.b0 ?_ | refine Z.c0 ?_ | refine Z.e0 ?_ | refine Z.h0 ?_ | refine Z.k0 ?_ | refine Z.n0 ?_ | refine Z.o0 ?_ | refine Z.q0 rfl rfl fun F hF => ?_ | refine Z.U0 rfl ?_)
      simp only [retK, ares, pack, Tryd.results7, St.get, reduceIte, Nat.reduceEqDiff, aload, arow, List.toArray, Array.toList]
      exact hk _ hle
    | succ n =>
      have hlt : k < fs.length := by omega
      have d : decide ((k : Int) < (fs.length : Int)) = true := by simp; omega
      obtain ⟨p1, y1, E1⟩ := elS r1 s1 hlt
      obtain ⟨p2, y2, E2⟩ := elS r2 s2 hlt
      obtain ⟨p3, y3, E3⟩ := elS r3 s3 hlt
      obtain ⟨g1, g2, g3⟩ := flat_seg (r := rr) hlt
      rw [← hflat] at g1 g2
      have g3' : pos fs (k + 1) = pos fs k + fs[k].length := g3
      have g1' : ((b.take (pos fs k + fs[k].length)).drop (pos fs k)) = fs[k] := g1
      have g2' : pos fs k + fs[k].length ≤ b.length := g2
      have lx := lenB hx4
      have wa : IntKind.i64.wrap ((pos fs k : Int) + (fs[k].length : Int)) = ((pos fs k + fs[k].length : Nat) : Int) := by rw [wrap_of] <;> omega
      have wk : IntKind.i64.wrap ((k : Int) + 1) = ((k + 1 : Nat) : Int) := by rw [wrap_of] <;> omega
      have dg : decide (((pos fs k + fs[k].length : Nat) : Int) > (b.length : Int)) = false := by simp; omega
      repeat' (first | ((first | refine Z.W0 ?_ | refine Z.X0 ?_); simp only [go_sem, seval, l1, d, E1.idx, E1.load, E1.conv, E2.idx, E2.load, E2.conv, E3.idx, E3.load, E3.conv, E1.len, wa, lx, dg]) | (refine hF _ _ ?_; clear hF F) | (refine Z.p0 ?_; simp only [St.put]) | refine Z.a0 ?_ | refine Z.b0 ?_ | refine Z.c0 ?_ | refine Z.h0 ?_ | refine Z.l0 ?_ | refine Z.m0 ?_ | refine Z.q0 rfl rfl fun F hF => ?_ | refine Z.A0 rfl rfl rfl fun F hF => ?_ | refine W_drawn (id := 11) [0, 0, 3, 7, 15, 0, 0, 96, 224, 480, 1023, 2047, 4095, 4095, 16383, 32767, 65535, 4095, 4095, 397311, 921599, 1970175, 4194303, 8388607, 16777215, 33554431, 33554431, 33554431, 234881023, 503316479, 1040187391, 2147483647, 33554431, 4328521727, 17179869183, 34359738367, 68719476735, 137438953471, 137438953471, 137438953471, 137438953471, 137438953471, 3435973836799, 7834020347903, 16630113370111, 34772055228415, 70368744177663, 140737488355327, 137438953471, 137438953471, 844562369085439, 1970462275928063, 4222262089613311, 9007199254740991, 18014398509481983] [.a 0, .a 1, .a 2, .a 3, .a 4, .a 5, .a 6, .a 7, .a 8, .a 9, .a 10, .a 11, .a 12, .a 13, .a 14, .a 15, .a 16, .a 17, .a 18, .a 19, .a 20, .a 21, .a 22, .a 23, .a 24, .a 25, .a 26, .a 27, .a 28, .a 29, .a 30, .a 31, .a 32, .a 33, .a 34, .a 35, .a 36, .a 37, .a 38, .a 39, .a 40, .a 41, .a 42, .a 43, .a 44, .a 45, .a 46, .a 47, .a 48, .a 49, .a 50, .a 51, .a 52, .a 53, .a 54] mixed (by decide +kernel) ?_ | refine Z.T0 rfl ?_)
      refine hx4.cut (l := pos fs k) (h := pos fs k + fs[k].length) vt30 (.inr ⟨_, _, rfl, rfl⟩) (.inr ⟨_, _, rfl, rfl⟩) (by omega) (by simpa using g2') fun z1 hz1 _ => ?_
      rw [rowsB_take, rowsB_drop, g1'] at hz1
      (refine hF _ _ ?_; clear hF F)
      repeat' (first | ((first | refine Z.W0 ?_ | refine Z.X0 ?_); simp only [go_sem, seval, l1, E1.idx, E1.load, E1.conv, convB hz1, E1.len, wa, wk]) | (refine hF _ _ ?_; clear hF F) | (refine Z.p0 ?_; simp only [St.put]) | refine Z.b0 ?_ | refine Z.c0 ?_ | refine Z.f0 ?_ | refine Z.h0 ?_ | refine Z.m0 ?_ | refine Z.q0 rfl rfl fun F hF => ?_ | refine Z.A0 rfl rfl rfl fun F hF => ?_ | (refine Z.D0 ?_; simp only [St.put]) | refine Z.U0 rfl ?_)
      simp only [loopK]
      simp only [St.keep, St.get, reduceIte, Nat.reduceEqDiff]
      exact ⟨n, by omega, k + 1, trivial, by omega, by rw [g3']⟩
end Go.Proofs.YtboojmppmaepmaaDoor
/- Lists of bytes that are their owner's: the walk. -/
namespace Go.Proofs.YtboojmppmaepmaaDoor
set_option maxHeartbeats 8000000
set_option linter.all false
open Go Go.Fw
attribute [local irreducible] Reg RegD seqK blockK loopK retK panK
set_option maxRecDepth 10000

variable {H : AH} {K : AV → AH → Prop} {J : Value → AH → Prop}

def mkN (i : Nat) : Nat := 1 + i % 250
abbrev mkR (m : Nat) : List AV := [.v (.int .u8 (m : Int))]

/-- So many marks. -/
inductive Mks (H : AH) (m k : Nat) : AV → Prop
  | nil (hk : k = 0) : Mks H m k (.v (.slice none 0 0))
  | onil (hk : k = 0) : Mks H m k (.ov none 0 1 0 none)
  | ov (c : Nat) (xs : List (List AV)) (hb : H c = some ⟨1, xs⟩) (hl : k ≤ xs.length) (ht : xs.take k = List.replicate k (mkR m)) : Mks H m k (.ov (some c) 0 1 k none)
theorem Mks.keep {H H1 : AH} {m k : Nat} {z : AV} (h : Mks H m k z) (hk : ∀ c, z.blk = some c → H1 c = H c) : Mks H1 m k z := by
  cases h with
  | nil h => exact .nil h
  | onil h => exact .onil h
  | ov c xs hb hl ht => exact .ov c xs ((hk c rfl).trans hb) hl ht
theorem Mks.has {m k : Nat} {z : AV} (h : Mks H m k z) {c : Nat} (hc : z.blk = some c) : ∃ xs, H c = some ⟨1, xs⟩ ∧ k ≤ xs.length ∧ xs.take k = List.replicate k (mkR m) := by
  cases h with
  | nil h => cases hc
  | onil h => cases hc
  | ov c xs hb hl ht => cases hc; exact ⟨xs, hb, hl, ht⟩
theorem Mks.rd {m k : Nat} {z : AV} (h : Mks H m k z) : RdS H 1 (List.replicate k (mkR m)) z := by
  cases h with
  | nil h => subst h; exact .nil
  | onil h => subst h; exact .onil
  | ov c xs hb hl ht =>
    have := RdS.ov (H := H) (es := 1) c 0 none ⟨1, xs⟩ (List.replicate k (mkR m)) hb rfl (by decide) (by simpa using hl) (by simpa using ht) (fun _ h => by cases h)
    simpa using this
theorem Mks.cell {m k : Nat} {z : AV} (h : Mks H m k z) : z.cell = true := h.rd.cell

/-- What an append to a slice of marks leaves as it was. -/
structure Grew (H : AH) (m k : Nat) (z : AV) (H' : AH) (z' : AV) : Prop where
  keep : ∀ c o, H c = some o → z.blk ≠ some c → H' c = some o
  same : ∀ c xs k', z.blk = some c → H c = some ⟨1, xs⟩ → k' ≤ k → k' ≤ xs.length → xs.take k' = List.replicate k' (mkR m) → ∃ xs', H' c = some ⟨1, xs'⟩ ∧ k' ≤ xs'.length ∧ xs'.take k' = List.replicate k' (mkR m)
  new : ∀ c, z'.blk = some c → z.blk = some c ∨ H c = none
theorem Grew.mks {m k k' : Nat} {z z' y : AV} {H' : AH} (h : Grew H m k z H' z') (hy : Mks H m k' y) (hk : k' ≤ k) (hb : ∀ c, y.blk = some c → z.blk = some c ∨ z.blk ≠ some c) : Mks H' m k' y := by
  cases hy with
  | nil h => exact .nil h
  | onil h => exact .onil h
  | ov c xs hc hl ht =>
    by_cases e : z.blk = some c
    · obtain ⟨xs', g1, g2, g3⟩ := h.same c xs k' e hc hk hl ht
      exact .ov c xs' g1 g2 g3
    · exact .ov c xs (h.keep c _ hc e) hl ht

theorem Mks.app {m k : Nat} {z : AV} {F : AV → AH → Prop} (h : Mks H m k z) (hk : k ≤ 2000000000) (hF : ∀ z' H', Mks H' m (k + 1) z' → Grew H m k z H' z' → F z' H') : aapp Tryd.prog #[30, 30] z (.imm 1 [mkR m]) H F := by
  obtain ⟨z0, hz1, hz2, hz3⟩ := vt30.zero
  have hby := vt30.bytes
  have hmul : (k + 1) * Tryd.prog.bytesOf 5 ≤ 140737488355328 := by
    have := Nat.mul_le_mul (show k + 1 ≤ 2000000001 by omega) hby
    omega
  unfold aapp
  simp only [List.getElem?_toArray, List.getElem?_cons_zero, List.getElem?_cons_succ, vt30.under, hz1, Tryd.underlying30]
  have key : 0 < z0.length ∧ z0.length = Tryd.prog.cellsOf 5 ∧ allCell z0 = true ∧ asrc (.imm 1 [mkR m]) H z0.length fun new => aappD Tryd.prog 5 z0.length z new H F ∨ aappP Tryd.prog 5 z0.length z new H F ∨ aappI z0.length z new H F := by
    refine ⟨by omega, by rw [hz2, vt30.cells], hz3, ?_⟩
    rw [hz2]
    simp only [asrc, true_and]
    have fresh_one : ∀ b, H b = none → Mks (H.set b ⟨1, [mkR m]⟩) m 1 (.ov (some b) 0 1 1 none) := fun b _ => .ov b _ (AH.set_same _ _ _) (by simp) (by simp)
    cases h with
    | nil h0 =>
      subst h0
      refine .inl ?_
      unfold aappD
      simp only [adst]
      refine ⟨by simpa using hmul, by simp, fun ob hob hn => ?_⟩
      cases ob with
      | none => exact absurd (hn rfl) (by simp)
      | some b =>
        have hf := hob b rfl
        refine hF _ _ (fresh_one b hf) ⟨fun c o hc _ => ?_, (fun c xs k' hc => by cases hc), fun c hc => .inr (by cases hc; exact hf)⟩
        show (H.set b _) c = _
        rw [AH.set_ne _ _ (fun e => by rw [e, show H b = none from hf] at hc; cases hc)]
        exact hc
    | onil h0 =>
      subst h0
      refine .inl ?_
      unfold aappD
      simp only [adst]
      refine ⟨by simpa using hmul, by simp, fun ob hob hn => ?_⟩
      cases ob with
      | none => exact absurd (hn rfl) (by simp)
      | some b =>
        have hf := hob b rfl
        refine hF _ _ (fresh_one b hf) ⟨fun c o hc _ => ?_, (fun c xs k' hc => by cases hc), fun c hc => .inr (by cases hc; exact hf)⟩
        show (H.set b _) c = _
        rw [AH.set_ne _ _ (fun e => by rw [e, show H b = none from hf] at hc; cases hc)]
        exact hc
    | ov c xs hb hl ht =>
      refine .inr (.inl ?_)
      simp only [aappP, hb]
      have htk : xs.take k ++ [mkR m] = List.replicate (k + 1) (mkR m) := by rw [ht, List.replicate_succ']
      refine ⟨trivial, trivial, hl, by simpa using hmul, by simp; omega, ?_, fun b' hf => ?_⟩
      · refine hF _ _ (.ov c _ (AH.set_same _ _ _) (by simp; omega) ?_) ⟨fun c' o hc hne => ?_, fun c' xs' k' hc hxs hk' hl' ht' => ?_, fun c' hc => .inl hc⟩
        · show (xs.take k ++ [mkR m] ++ xs.drop (k + 1)).take (k + 1) = _
          rw [htk, List.take_left' (by simp)]
        · rw [AH.set_ne _ _ (fun e => hne (by rw [e]; rfl))]
          exact hc
        · cases hc
          rw [hb] at hxs
          cases hxs
          refine ⟨_, AH.set_same _ _ _, ?_, ?_⟩
          · simp; omega
          · show (xs.take k ++ [mkR m] ++ xs.drop (k + 1)).take k' = _
            rw [List.append_assoc, List.take_append_of_le_length (by simp; omega), List.take_take, Nat.min_eq_left hk', ht']
      · have hcb : c ≠ b' := fun e => by rw [e, show H b' = none from hf] at hb; cases hb
        refine hF _ _ (.ov b' _ (AH.set_same _ _ _) (by simp; omega) ?_) ⟨fun c' o hc hne => ?_, fun c' xs' k' hc hxs hk' hl' ht' => ?_, fun c' hc => .inr (by cases hc; exact hf)⟩
        · show (xs.take k ++ [mkR m]).take (k + 1) = _
          rw [htk, List.take_of_length_le (by simp)]
        · rw [AH.set_ne _ _ (fun e => by rw [e, show H b' = none from hf] at hc; cases hc)]
          exact hc
        · cases hc
          exact ⟨xs', by rw [AH.set_ne _ _ hcb]; exact hxs, hl', ht'⟩
  exact key
end Go.Proofs.YtboojmppmaepmaaDoor
/- Bytes that are lent, and come back: the walks. -/
namespace Go.Proofs.YtboojmppmaepmaaDoor
set_option maxHeartbeats 8000000
set_option linter.all false
open Go Go.Fw
attribute [local irreducible] Reg RegD seqK blockK loopK retK panK
set_option maxRecDepth 10000

variable {H : AH} {K : AV → AH → Prop} {J : Value → AH → Prop}

theorem copy30 {q off n : Nat} {c : Option Nat} {o new : List (List AV)} {z : AV} {F : AV → AH → Prop} (hq : H q = some ⟨1, o⟩) (hz : ∀ G : List (List AV) → Prop, asrc z H 1 G = G new) (h1 : off + n ≤ o.length) (h2 : new.length ≤ n)
    (hF : F (.v (.int .i64 new.length)) (H.set q ⟨1, o.take off ++ new ++ o.drop (off + new.length)⟩)) : acopy Tryd.prog #[30, 30] (.ov (some q) off 1 n c) z H F := by
  unfold acopy
  simp only [List.getElem?_toArray, List.getElem?_cons_zero, Tryd.underlying30, cl5]
  refine ⟨by decide, ?_⟩
  rw [hz]
  simp only [hq]
  exact ⟨trivial, trivial, h1, h2, hF⟩

theorem head_cut {s : St} {q n c h : Nat} {o1 : Operand} {k1 : IntKind} {F : AV → Prop} (hh : ev s o1 = .v (.int k1 h)) (hhc : h ≤ c) (hF : F (.ov (some q) 0 1 h (some c))) : aslice Tryd.prog 30 (.ov (some q) 0 1 n (some c)) none (some o1) none s F := by
  unfold aslice
  simp only [vt30.under, vt30.cells]
  refine ⟨trivial, vt30.pos, ?_⟩
  unfold abnd
  simp only [hh]
  refine ⟨by omega, by simp; omega, .inl ⟨.inl rfl, ?_⟩⟩
  simpa using hF

/-- What is lent: with three bytes behind. -/
def lentB (b : Bs) : Bs := b ++ [201, 201, 201]
structure Lent (H : AH) (q : Nat) (b : Bs) : Prop where
  blk : H q = some ⟨1, rowsB (lentB b)⟩
abbrev lentV (q : Nat) (b : Bs) : AV := .ov (some q) 0 1 b.length (some (b.length + 3))
theorem Lent.rd {q : Nat} {b : Bs} (h : Lent H q b) : RdS H 1 (rowsB b) (lentV q b) := by
  have := RdS.ov (H := H) (es := 1) q 0 (some (b.length + 3)) _ (rowsB b) h.blk rfl (by decide) (by simp [lentB]) (by simp [lentB, rowsB_append]) (fun k hk => by cases hk; simp)
  simpa using this

theorem lent_ok {b : Bs} {z : AV} (hz : RdS H 1 (rowsB b) z) (hb : b.length ≤ 1000000000) (hk : ∀ H' q, Le H H' → H q = none → Lent H' q b → K (lentV q b) H') : CallX Tryd.prog 15 [z] H K J := by
  have lz := lenB hz
  have w3 : IntKind.i64.wrap ((b.length : Int) + 3) = ((b.length + 3 : Nat) : Int) := by rw [wrap_of] <;> omega
  refine CallX.of_body Tryd.func15 nm15 rfl ?_; simp only [Tryd.ntmps15, List.length_cons, List.length_nil, argSt, Nat.reduceAdd, Nat.reduceSub]
  repeat' (first | ((first | refine Z.W0 ?_ | refine Z.X0 ?_); simp only [go_sem, seval, lz, w3]; try (simp (disch := omega) only [Z.w0]; try simp only [go_sem, seval, lz, w3])) | (refine hF _ _ ?_; clear hF F) | (refine Z.p0 ?_; simp only [St.put]) | refine Z.a0 ?_ | refine Z.b0 ?_ | refine Z.c0 ?_ | refine Z.d0 ?_ | refine Z.e0 ?_ | refine Z.f0 ?_ | refine Z.g0 ?_ | refine Z.h0 ?_ | refine Z.i0 rfl ?_ | refine Z.I0 ?_ | refine Z.J0 ?_ | refine Z.K0 ?_ | refine Z.L0 ?_ | refine Z.N0 ?_ | refine Z.j0 ?_ | refine Z.k0 ?_ | refine Z.l0 ?_ | refine Z.m0 ?_ | refine Z.n0 ?_ | refine Z.o0 ?_ | refine Z.q0 rfl rfl fun F hF => ?_ | refine Z.r0 rfl rfl rfl rfl fun F hF => ?_ | refine Z.H0 rfl rfl (fun F hF => ?_) | refine Z.A0 rfl rfl rfl fun F hF => ?_ | refine Z.B0 rfl rfl rfl fun F hF => ?_ | refine Z.s0 rfl rfl rfl rfl ?_ | refine Z.u0 rfl rfl rfl rfl ?_ | (refine Z.D0 ?_; simp only [St.put]) | refine Z.E0 rfl rfl rfl ?_ | refine Z.F0 rfl rfl rfl ?_ | (refine hF _ _ ?_ ?_ <;> clear hF F) | refine Z.T0 rfl ?_ | refine Z.U0 rfl ?_ | (refine Z.t0 rfl rfl rfl rfl ?_ ?_ <;> (intro hg; simp only [hg, Bool.not_true, Bool.not_false]; simp only [Z.x0] at hg)) | refine And.intro (by omega) ?_ | (refine Z.G0 rfl rfl rfl rfl rfl ?_ ?_ <;> (intro hg; simp only [hg, Bool.not_true, Bool.not_false]; simp only [Z.x0] at hg)) | (refine Z.M0 rfl rfl rfl rfl rfl ?_ ?_ <;> (intro hg; simp only [hg, Bool.not_true, Bool.not_false]; simp only [Z.x0] at hg)) | (refine Z.V0 rfl ?_ ?_ <;> (intro hc; try simp only [hc]; simp only [Z.x0] at hc)))
  (refine box_go2 fun q H1 e1 n1 o1 => ?_; refine hF _ _ ?_; clear hF F)
  have hsrc := (hz.mono e1).src
  have hl1 : (rowsB b).length = b.length := rowsB_length b
  repeat' (first | ((first | refine Z.W0 ?_ | refine Z.X0 ?_); simp only [go_sem, seval, lz, hsrc, o1, hl1, List.length_replicate]; try (simp (disch := omega) only [Z.w0]; try simp only [go_sem, seval, lz, hsrc, o1, hl1, List.length_replicate])) | (refine hF _ _ ?_; clear hF F) | (refine Z.p0 ?_; simp only [St.put]) | refine Z.a0 ?_ | refine Z.b0 ?_ | refine Z.c0 ?_ | refine Z.d0 ?_ | refine Z.e0 ?_ | refine Z.f0 ?_ | refine Z.g0 ?_ | refine Z.h0 ?_ | refine Z.i0 rfl ?_ | refine Z.I0 ?_ | refine Z.J0 ?_ | refine Z.K0 ?_ | refine Z.L0 ?_ | refine Z.N0 ?_ | refine Z.j0 ?_ | refine Z.k0 ?_ | refine Z.l0 ?_ | refine Z.m0 ?_ | refine Z.n0 ?_ | refine Z.o0 ?_ | refine Z.q0 rfl rfl fun F hF => ?_ | refine Z.r0 rfl rfl rfl rfl fun F hF => ?_ | refine Z.H0 rfl rfl (fun F hF => ?_) | refine Z.A0 rfl rfl rfl fun F hF => ?_ | refine Z.B0 rfl rfl rfl fun F hF => ?_ | refine Z.s0 rfl rfl rfl rfl ?_ | refine Z.u0 rfl rfl rfl rfl ?_ | (refine Z.D0 ?_; simp only [St.put]) | refine Z.E0 rfl rfl rfl ?_ | refine Z.F0 rfl rfl rfl ?_ | (refine hF _ _ ?_ ?_ <;> clear hF F) | refine Z.T0 rfl ?_ | refine Z.U0 rfl ?_ | (refine Z.t0 rfl rfl rfl rfl ?_ ?_ <;> (intro hg; simp only [hg, Bool.not_true, Bool.not_false]; simp only [Z.x0] at hg)) | refine And.intro (by omega) ?_ | (refine Z.G0 rfl rfl rfl rfl rfl ?_ ?_ <;> (intro hg; simp only [hg, Bool.not_true, Bool.not_false]; simp only [Z.x0] at hg)) | (refine Z.M0 rfl rfl rfl rfl rfl ?_ ?_ <;> (intro hg; simp only [hg, Bool.not_true, Bool.not_false]; simp only [Z.x0] at hg)) | (refine Z.V0 rfl ?_ ?_ <;> (intro hc; try simp only [hc]; simp only [Z.x0] at hc)))
  refine W_loop [0, 3, 4] (fun m s H' => ∃ k : Nat, m + k = 3 ∧ Le H H' ∧ H' q = some ⟨1, rowsB (b ++ List.replicate k 201) ++ List.replicate (3 - k) [.v (.int .u8 0)]⟩ ∧ s = [(0, z), (3, .ov (some q) 0 1 (b.length + 3) (some (b.length + 3))), (4, .v (.int .i64 ((b.length + k : Nat) : Int)))]) 3 ?_ ?_
  · simp only [St.keep, St.get, reduceIte, Nat.reduceEqDiff]
    refine ⟨0, rfl, e1.set' n1, ?_, rfl⟩
    rw [AH.set_same]
    simp [List.drop_replicate]
  rintro m s H2 ⟨k, hm, e2, o2, rfl⟩
  cases m with
  | zero =>
    obtain rfl : k = 3 := by omega
    have d : decide (((b.length + 3 : Nat) : Int) < ((b.length + 3 : Nat) : Int)) = false := by simp
    have lz2 := lenB (hz.mono e2)
    repeat' (first | ((first | refine Z.W0 ?_ | refine Z.X0 ?_); simp only [go_sem, seval, d, lz2]; try (simp (disch := omega) only [Z.w0]; try simp only [go_sem, seval, d, lz2])) | (refine hF _ _ ?_; clear hF F) | (refine Z.p0 ?_; simp only [St.put]) | refine Z.a0 ?_ | refine Z.b0 ?_ | refine Z.c0 ?_ | refine Z.d0 ?_ | refine Z.e0 ?_ | refine Z.f0 ?_ | refine Z.g0 ?_ | refine Z.h0 ?_ | refine Z.i0 rfl ?_ | refine Z.I0 ?_ | refine Z.J0 ?_ | refine Z.K0 ?_ | refine Z.L0 ?_ | refine Z.N0 ?_ | refine Z.j0 ?_ | refine Z.k0 ?_ | refine Z.l0 ?_ | refine Z.m0 ?_ | refine Z.n0 ?_ | refine Z.o0 ?_ | refine Z.q0 rfl rfl fun F hF => ?_ | refine Z.r0 rfl rfl rfl rfl fun F hF => ?_ | refine Z.H0 rfl rfl (fun F hF => ?_) | refine Z.A0 rfl rfl rfl fun F hF => ?_ | refine Z.B0 rfl rfl rfl fun F hF => ?_ | refine Z.s0 rfl rfl rfl rfl ?_ | refine Z.u0 rfl rfl rfl rfl ?_ | (refine Z.D0 ?_; simp only [St.put]) | refine Z.E0 rfl rfl rfl ?_ | refine Z.F0 rfl rfl rfl ?_ | (refine hF _ _ ?_ ?_ <;> clear hF F) | refine Z.T0 rfl ?_ | refine Z.U0 rfl ?_ | (refine Z.t0 rfl rfl rfl rfl ?_ ?_ <;> (intro hg; simp only [hg, Bool.not_true, Bool.not_false]; simp only [Z.x0] at hg)) | refine And.intro (by omega) ?_ | (refine Z.G0 rfl rfl rfl rfl rfl ?_ ?_ <;> (intro hg; simp only [hg, Bool.not_true, Bool.not_false]; simp only [Z.x0] at hg)) | (refine Z.M0 rfl rfl rfl rfl rfl ?_ ?_ <;> (intro hg; simp only [hg, Bool.not_true, Bool.not_false]; simp only [Z.x0] at hg)) | (refine Z.V0 rfl ?_ ?_ <;> (intro hc; try simp only [hc]; simp only [Z.x0] at hc)))
    refine head_cut rfl (by omega) ?_
    (refine hF _ _ ?_; clear hF F)
    repeat' (first | ((first | refine Z.W0 ?_ | refine Z.X0 ?_); simp only [go_sem, seval]; try (simp (disch := omega) only [Z.w0]; try simp only [go_sem, seval])) | (refine hF _ _ ?_; clear hF F) | (refine Z.p0 ?_; simp only [St.put]) | refine Z.a0 ?_ | refine Z.b0 ?_ | refine Z.c0 ?_ | refine Z.d0 ?_ | refine Z.e0 ?_ | refine Z.f0 ?_ | refine Z.g0 ?_ | refine Z.h0 ?_ | refine Z.i0 rfl ?_ | refine Z.I0 ?_ | refine Z.J0 ?_ | refine Z.K0 ?_ | refine Z.L0 ?_ | refine Z.N0 ?_ | refine Z.j0 ?_ | refine Z.k0 ?_ | refine Z.l0 ?_ | refine Z.m0 ?_ | refine Z.n0 ?_ | refine Z.o0 ?_ | refine Z.q0 rfl rfl fun F hF => ?_ | refine Z.r0 rfl rfl rfl rfl fun F hF => ?_ | refine Z.H0 rfl rfl (fun F hF => ?_) | refine Z.A0 rfl rfl rfl fun F hF => ?_ | refine Z.B0 rfl rfl rfl fun F hF => ?_ | refine Z.s0 rfl rfl rfl rfl ?_ | refine Z.u0 rfl rfl rfl rfl ?_ | (refine Z.D0 ?_; simp only [St.put]) | refine Z.E0 rfl rfl rfl ?_ | refine Z.F0 rfl rfl rfl ?_ | (refine hF _ _ ?_ ?_ <;> clear hF F) | refine Z.T0 rfl ?_ | refine Z.U0 rfl ?_ | (refine Z.t0 rfl rfl rfl rfl ?_ ?_ <;> (intro hg; simp only [hg, Bool.not_true, Bool.not_false]; simp only [Z.x0] at hg)) | refine And.intro (by omega) ?_ | (refine Z.G0 rfl rfl rfl rfl rfl ?_ ?_ <;> (intro hg; simp only [hg, Bool.not_true, Bool.not_false]; simp only [Z.x0] at hg)) | (refine Z.M0 rfl rfl rfl rfl rfl ?_ ?_ <;> (intro hg; simp only [hg, Bool.not_true, Bool.not_false]; simp only [Z.x0] at hg)) | (refine Z.V0 rfl ?_ ?_ <;> (intro hc; try simp only [hc]; simp only [Z.x0] at hc)))
    simp only [retK, ares, pack, Tryd.results15, St.get, reduceIte, Nat.reduceEqDiff, aload, arow, List.toArray, Array.toList]
    refine hk H2 q e2 n1 ⟨?_⟩
    rw [o2]
    simp [lentB, List.replicate]
  | succ m =>
    have hk3 : k < 3 := by omega
    have d : decide (((b.length + k : Nat) : Int) < ((b.length + 3 : Nat) : Int)) = true := by simp; omega
    have wk : IntKind.i64.wrap (((b.length + k : Nat) : Int) + 1) = ((b.length + (k + 1) : Nat) : Int) := by rw [wrap_of] <;> omega
    have hg : (rowsB (b ++ List.replicate k 201) ++ List.replicate (3 - k) [AV.v (Value.int .u8 0)])[b.length + k]? = some [.v (.int .u8 0)] := by
      rw [List.getElem?_append_right (by simp)]
      simp only [rowsB_length, List.length_append, List.length_replicate, Nat.sub_self, List.getElem?_replicate]
      rw [if_pos (by omega)]
    repeat' (first | ((first | refine Z.W0 ?_ | refine Z.X0 ?_); simp only [go_sem, seval, d, o2, hg, wk]; try (simp (disch := omega) only [Z.w0]; try simp only [go_sem, seval, d, o2, hg, wk])) | (refine hF _ _ ?_; clear hF F) | (refine Z.p0 ?_; simp only [St.put]) | refine Z.a0 ?_ | refine Z.b0 ?_ | refine Z.c0 ?_ | refine Z.d0 ?_ | refine Z.e0 ?_ | refine Z.f0 ?_ | refine Z.g0 ?_ | refine Z.h0 ?_ | refine Z.i0 rfl ?_ | refine Z.I0 ?_ | refine Z.J0 ?_ | refine Z.K0 ?_ | refine Z.L0 ?_ | refine Z.N0 ?_ | refine Z.j0 ?_ | refine Z.k0 ?_ | refine Z.l0 ?_ | refine Z.m0 ?_ | refine Z.n0 ?_ | refine Z.o0 ?_ | refine Z.q0 rfl rfl fun F hF => ?_ | refine Z.r0 rfl rfl rfl rfl fun F hF => ?_ | refine Z.H0 rfl rfl (fun F hF => ?_) | refine Z.A0 rfl rfl rfl fun F hF => ?_ | refine Z.B0 rfl rfl rfl fun F hF => ?_ | refine Z.s0 rfl rfl rfl rfl ?_ | refine Z.u0 rfl rfl rfl rfl ?_ | (refine Z.D0 ?_; simp only [St.put]) | refine Z.E0 rfl rfl rfl ?_ | refine Z.F0 rfl rfl rfl ?_ | (refine hF _ _ ?_ ?_ <;> clear hF F) | refine Z.T0 rfl ?_ | refine Z.U0 rfl ?_ | (refine Z.t0 rfl rfl rfl rfl ?_ ?_ <;> (intro hg; simp only [hg, Bool.not_true, Bool.not_false]; simp only [Z.x0] at hg)) | refine And.intro (by omega) ?_ | (refine Z.G0 rfl rfl rfl rfl rfl ?_ ?_ <;> (intro hg; simp only [hg, Bool.not_true, Bool.not_false]; simp only [Z.x0] at hg)) | (refine Z.M0 rfl rfl rfl rfl rfl ?_ ?_ <;> (intro hg; simp only [hg, Bool.not_true, Bool.not_false]; simp only [Z.x0] at hg)) | (refine Z.V0 rfl ?_ ?_ <;> (intro hc; try simp only [hc]; simp only [Z.x0] at hc)))
    simp only [loopK]
    simp only [St.keep, St.get, reduceIte, Nat.reduceEqDiff]
    refine ⟨m, by omega, k + 1, by omega, e2.set' n1, ?_, rfl⟩
    rw [AH.set_same]
    congr 2
    rw [List.set_append_right _ _ (by simp)]
    simp only [rowsB_length, List.length_append, List.length_replicate, Nat.sub_self]
    obtain ⟨j, hj⟩ : ∃ j, 3 - k = j + 1 := ⟨2 - k, by omega⟩
    rw [hj, show 3 - (k + 1) = j from by omega, List.replicate_succ, List.set_cons_zero, List.replicate_succ', ← List.append_assoc, rowsB_append (b ++ List.replicate k 201), List.append_assoc]
    rfl

theorem rdS_has {es : Nat} {rows : List (List AV)} {x : AV} (h : RdS H es rows x) {c : Nat} (hc : x.blk = some c) : ∃ o, H c = some o := by
  cases h with
  | nil => cases hc
  | onil => cases hc
  | imm => cases hc
  | ov b off cc o rows hb ho hz hl hr hcc => cases hc; exact ⟨o, hb⟩
theorem rdS_but {es : Nat} {rows : List (List AV)} {x : AV} {H' : AH} {q : Nat} (h : RdS H es rows x) (hk : ∀ c o, H c = some o → c ≠ q → H' c = some o) (hq : x.blk ≠ some q) : RdS H' es rows x :=
  h.keep fun c hc => by
    obtain ⟨o, ho⟩ := rdS_has h hc
    rw [hk c o ho (fun e => hq (e ▸ hc)), ho]
theorem u8_eq (c : UInt8) : (((c.toNat : Nat) : Int) == ((c.toNat : Nat) : Int)) = true := by simp
theorem back_lent {q : Nat} {b : Bs} {z : AV} (hL : Lent H q b) (hz : RdS H 1 (rowsB b) z) (hzq : z.blk ≠ some q) (hb : b.length ≤ 1000000000) (hk : ∀ H', (∀ c o, H c = some o → c ≠ q → H' c = some o) → K (.v (.bool true)) H') :
    CallX Tryd.prog 17 [lentV q b, z] H K J := by
  have lz := lenB hz
  have hll : (lentB b).length = b.length + 3 := by simp [lentB]
  have w3 : IntKind.i64.wrap ((b.length : Int) + 3) = ((b.length + 3 : Nat) : Int) := by rw [wrap_of] <;> omega
  refine CallX.of_body Tryd.func17 nm17 rfl ?_; simp only [Tryd.ntmps17, List.length_cons, List.length_nil, argSt, Nat.reduceAdd, Nat.reduceSub]
  repeat' (first | ((first | refine Z.W0 ?_ | refine Z.X0 ?_); simp only [go_sem, seval, lz, w3]; try (simp (disch := omega) only [Z.w0]; try simp only [go_sem, seval, lz, w3])) | (refine hF _ _ ?_; clear hF F) | (refine Z.p0 ?_; simp only [St.put]) | refine Z.a0 ?_ | refine Z.b0 ?_ | refine Z.c0 ?_ | refine Z.d0 ?_ | refine Z.e0 ?_ | refine Z.f0 ?_ | refine Z.g0 ?_ | refine Z.h0 ?_ | refine Z.i0 rfl ?_ | refine Z.I0 ?_ | refine Z.J0 ?_ | refine Z.K0 ?_ | refine Z.L0 ?_ | refine Z.N0 ?_ | refine Z.j0 ?_ | refine Z.k0 ?_ | refine Z.l0 ?_ | refine Z.m0 ?_ | refine Z.n0 ?_ | refine Z.o0 ?_ | refine Z.q0 rfl rfl fun F hF => ?_ | refine Z.r0 rfl rfl rfl rfl fun F hF => ?_ | refine Z.H0 rfl rfl (fun F hF => ?_) | refine Z.A0 rfl rfl rfl fun F hF => ?_ | refine Z.B0 rfl rfl rfl fun F hF => ?_ | refine Z.s0 rfl rfl rfl rfl ?_ | refine Z.u0 rfl rfl rfl rfl ?_ | (refine Z.D0 ?_; simp only [St.put]) | refine Z.E0 rfl rfl rfl ?_ | refine Z.F0 rfl rfl rfl ?_ | (refine hF _ _ ?_ ?_ <;> clear hF F) | refine Z.T0 rfl ?_ | refine Z.U0 rfl ?_ | (refine Z.t0 rfl rfl rfl rfl ?_ ?_ <;> (intro hg; simp only [hg, Bool.not_true, Bool.not_false]; simp only [Z.x0] at hg)) | refine And.intro (by omega) ?_ | (refine Z.G0 rfl rfl rfl rfl rfl ?_ ?_ <;> (intro hg; simp only [hg, Bool.not_true, Bool.not_false]; simp only [Z.x0] at hg)) | (refine Z.M0 rfl rfl rfl rfl rfl ?_ ?_ <;> (intro hg; simp only [hg, Bool.not_true, Bool.not_false]; simp only [Z.x0] at hg)) | (refine Z.V0 rfl ?_ ?_ <;> (intro hc; try simp only [hc]; simp only [Z.x0] at hc)))
  refine head_cut rfl (by omega) ?_
  (refine hF _ _ ?_; clear hF F)
  repeat' (first | ((first | refine Z.W0 ?_ | refine Z.X0 ?_); simp only [go_sem, seval]; try (simp (disch := omega) only [Z.w0]; try simp only [go_sem, seval])) | (refine hF _ _ ?_; clear hF F) | (refine Z.p0 ?_; simp only [St.put]) | refine Z.a0 ?_ | refine Z.b0 ?_ | refine Z.c0 ?_ | refine Z.d0 ?_ | refine Z.e0 ?_ | refine Z.f0 ?_ | refine Z.g0 ?_ | refine Z.h0 ?_ | refine Z.i0 rfl ?_ | refine Z.I0 ?_ | refine Z.J0 ?_ | refine Z.K0 ?_ | refine Z.L0 ?_ | refine Z.N0 ?_ | refine Z.j0 ?_ | refine Z.k0 ?_ | refine Z.l0 ?_ | refine Z.m0 ?_ | refine Z.n0 ?_ | refine Z.o0 ?_ | refine Z.q0 rfl rfl fun F hF => ?_ | refine Z.r0 rfl rfl rfl rfl fun F hF => ?_ | refine Z.H0 rfl rfl (fun F hF => ?_) | refine Z.A0 rfl rfl rfl fun F hF => ?_ | refine Z.B0 rfl rfl rfl fun F hF => ?_ | refine Z.s0 rfl rfl rfl rfl ?_ | refine Z.u0 rfl rfl rfl rfl ?_ | (refine Z.D0 ?_; simp only [St.put]) | refine Z.E0 rfl rfl rfl ?_ | refine Z.F0 rfl rfl rfl ?_ | (refine hF _ _ ?_ ?_ <;> clear hF F) | refine Z.T0 rfl ?_ | refine Z.U0 rfl ?_ | (refine Z.t0 rfl rfl rfl rfl ?_ ?_ <;> (intro hg; simp only [hg, Bool.not_true, Bool.not_false]; simp only [Z.x0] at hg)) | refine And.intro (by omega) ?_ | (refine Z.G0 rfl rfl rfl rfl rfl ?_ ?_ <;> (intro hg; simp only [hg, Bool.not_true, Bool.not_false]; simp only [Z.x0] at hg)) | (refine Z.M0 rfl rfl rfl rfl rfl ?_ ?_ <;> (intro hg; simp only [hg, Bool.not_true, Bool.not_false]; simp only [Z.x0] at hg)) | (refine Z.V0 rfl ?_ ?_ <;> (intro hc; try simp only [hc]; simp only [Z.x0] at hc)))
  refine W_loop [1, 5, 6, 7] (fun m s H' => ∃ (k : Nat) (xs : List (List AV)), m + k = b.length + 3 ∧ (∀ c o, H c = some o → c ≠ q → H' c = some o) ∧ H' q = some ⟨1, xs⟩ ∧ xs.length = b.length + 3 ∧ xs.drop k = (rowsB (lentB b)).drop k ∧
    s = [(1, z), (5, .ov (some q) 0 1 (b.length + 3) (some (b.length + 3))), (6, .v (.bool true)), (7, .v (.int .i64 k))]) (b.length + 3) ?_ ?_
  · simp only [St.keep, St.get, reduceIte, Nat.reduceEqDiff]
    exact ⟨0, _, by omega, (fun c o hc _ => hc), hL.blk, by simp [hll], rfl, rfl⟩
  rintro m s H2 ⟨k, xs, hm, e2, o2, hxl, hdr, rfl⟩
  have hz2 : RdS H2 1 (rowsB b) z := rdS_but hz e2 hzq
  have lz2 := lenB hz2
  cases m with
  | zero =>
    obtain rfl : k = b.length + 3 := by omega
    have d : decide (((b.length + 3 : Nat) : Int) < ((b.length + 3 : Nat) : Int)) = false := by simp
    repeat' (first | ((first | refine Z.W0 ?_ | refine Z.X0 ?_); simp only [go_sem, seval, d]; try (simp (disch := omega) only [Z.w0]; try simp only [go_sem, seval, d])) | (refine hF _ _ ?_; clear hF F) | (refine Z.p0 ?_; simp only [St.put]) | refine Z.a0 ?_ | refine Z.b0 ?_ | refine Z.c0 ?_ | refine Z.d0 ?_ | refine Z.e0 ?_ | refine Z.f0 ?_ | refine Z.g0 ?_ | refine Z.h0 ?_ | refine Z.i0 rfl ?_ | refine Z.I0 ?_ | refine Z.J0 ?_ | refine Z.K0 ?_ | refine Z.L0 ?_ | refine Z.N0 ?_ | refine Z.j0 ?_ | refine Z.k0 ?_ | refine Z.l0 ?_ | refine Z.m0 ?_ | refine Z.n0 ?_ | refine Z.o0 ?_ | refine Z.q0 rfl rfl fun F hF => ?_ | refine Z.r0 rfl rfl rfl rfl fun F hF => ?_ | refine Z.H0 rfl rfl (fun F hF => ?_) | refine Z.A0 rfl rfl rfl fun F hF => ?_ | refine Z.B0 rfl rfl rfl fun F hF => ?_ | refine Z.s0 rfl rfl rfl rfl ?_ | refine Z.u0 rfl rfl rfl rfl ?_ | (refine Z.D0 ?_; simp only [St.put]) | refine Z.E0 rfl rfl rfl ?_ | refine Z.F0 rfl rfl rfl ?_ | (refine hF _ _ ?_ ?_ <;> clear hF F) | refine Z.T0 rfl ?_ | refine Z.U0 rfl ?_ | (refine Z.t0 rfl rfl rfl rfl ?_ ?_ <;> (intro hg; simp only [hg, Bool.not_true, Bool.not_false]; simp only [Z.x0] at hg)) | refine And.intro (by omega) ?_ | (refine Z.G0 rfl rfl rfl rfl rfl ?_ ?_ <;> (intro hg; simp only [hg, Bool.not_true, Bool.not_false]; simp only [Z.x0] at hg)) | (refine Z.M0 rfl rfl rfl rfl rfl ?_ ?_ <;> (intro hg; simp only [hg, Bool.not_true, Bool.not_false]; simp only [Z.x0] at hg)) | (refine Z.V0 rfl ?_ ?_ <;> (intro hc; try simp only [hc]; simp only [Z.x0] at hc)))
    simp only [retK, ares, pack, Tryd.results17, St.get, reduceIte, Nat.reduceEqDiff, aload, arow, List.toArray, Array.toList]
    exact hk _ e2
  | succ m =>
    have hlt : k < (lentB b).length := by omega
    have d : decide ((k : Int) < ((b.length + 3 : Nat) : Int)) = true := by simp; omega
    have wk : IntKind.i64.wrap ((k : Int) + 1) = ((k + 1 : Nat) : Int) := by rw [wrap_of] <;> omega
    have hg : xs[k]? = some [.v (.int .u8 (lentB b)[k].toNat)] := by
      have h1 := congrArg (·[0]?) hdr
      simp only [List.getElem?_drop, Nat.add_zero] at h1
      rw [h1, rowsB_get?, List.getElem?_eq_getElem hlt]
      rfl
    have ue := u8_eq (lentB b)[k]
    have fA : ∀ (y : List AV) c o, H c = some o → c ≠ q → (H2.set q ⟨1, xs.set k y⟩) c = some o := fun y c o hc hne => by rw [AH.set_ne _ _ hne]; exact e2 c o hc hne
    have fB : ∀ (y : List AV), (xs.set k y).drop (k + 1) = (rowsB (lentB b)).drop (k + 1) := fun y => by
      rw [List.drop_set_of_lt (by omega)]
      have h1 := congrArg (List.drop 1) hdr
      simpa [List.drop_drop] using h1
    by_cases hkb : k < b.length
    · have d1 : decide ((k : Int) < (b.length : Int)) = true := by simp; omega
      obtain ⟨pe, E⟩ := elB hz2 hkb
      have hbk : b[k] = (lentB b)[k] := by simp [lentB, List.getElem_append_left hkb]
      rw [hbk] at E
      repeat' (first | ((first | refine Z.W0 ?_ | refine Z.X0 ?_); simp only [go_sem, seval, d, d1, lz2, E.idx, E.load, o2, hg, ue, wk]; try (simp (disch := omega) only [Z.w0]; try simp only [go_sem, seval, d, d1, lz2, E.idx, E.load, o2, hg, ue, wk])) | (refine hF _ _ ?_; clear hF F) | (refine Z.p0 ?_; simp only [St.put]) | refine Z.a0 ?_ | refine Z.b0 ?_ | refine Z.c0 ?_ | refine Z.d0 ?_ | refine Z.e0 ?_ | refine Z.f0 ?_ | refine Z.g0 ?_ | refine Z.h0 ?_ | refine Z.i0 rfl ?_ | refine Z.I0 ?_ | refine Z.J0 ?_ | refine Z.K0 ?_ | refine Z.L0 ?_ | refine Z.N0 ?_ | refine Z.j0 ?_ | refine Z.k0 ?_ | refine Z.l0 ?_ | refine Z.m0 ?_ | refine Z.n0 ?_ | refine Z.o0 ?_ | refine Z.q0 rfl rfl fun F hF => ?_ | refine Z.r0 rfl rfl rfl rfl fun F hF => ?_ | refine Z.H0 rfl rfl (fun F hF => ?_) | refine Z.A0 rfl rfl rfl fun F hF => ?_ | refine Z.B0 rfl rfl rfl fun F hF => ?_ | refine Z.s0 rfl rfl rfl rfl ?_ | refine Z.u0 rfl rfl rfl rfl ?_ | (refine Z.D0 ?_; simp only [St.put]) | refine Z.E0 rfl rfl rfl ?_ | refine Z.F0 rfl rfl rfl ?_ | (refine hF _ _ ?_ ?_ <;> clear hF F) | refine Z.T0 rfl ?_ | refine Z.U0 rfl ?_ | (refine Z.t0 rfl rfl rfl rfl ?_ ?_ <;> (intro hg; simp only [hg, Bool.not_true, Bool.not_false]; simp only [Z.x0] at hg)) | refine And.intro (by omega) ?_ | (refine Z.G0 rfl rfl rfl rfl rfl ?_ ?_ <;> (intro hg; simp only [hg, Bool.not_true, Bool.not_false]; simp only [Z.x0] at hg)) | (refine Z.M0 rfl rfl rfl rfl rfl ?_ ?_ <;> (intro hg; simp only [hg, Bool.not_true, Bool.not_false]; simp only [Z.x0] at hg)) | (refine Z.V0 rfl ?_ ?_ <;> (intro hc; try simp only [hc]; simp only [Z.x0] at hc)))
      simp only [loopK]
      simp only [St.keep, St.get, reduceIte, Nat.reduceEqDiff]
      exact ⟨m, by omega, k + 1, _, by omega, fA _, AH.set_same _ _ _, by simpa using hxl, fB _, rfl⟩
    · have d1 : decide ((k : Int) < (b.length : Int)) = false := by simp; omega
      have hbk : (lentB b)[k] = 201 := by
        simp only [lentB]
        rw [List.getElem_append_right (by omega)]
        have : k - b.length = 0 ∨ k - b.length = 1 ∨ k - b.length = 2 := by omega
        rcases this with h | h | h <;> simp [h]
      have h201 : (((lentB b)[k].toNat : Nat) : Int) = 201 := by rw [hbk]; rfl
      repeat' (first | ((first | refine Z.W0 ?_ | refine Z.X0 ?_); simp only [go_sem, seval, d, d1, lz2, o2, hg, h201, wk]; try (simp (disch := omega) only [Z.w0]; try simp only [go_sem, seval, d, d1, lz2, o2, hg, h201, wk])) | (refine hF _ _ ?_; clear hF F) | (refine Z.p0 ?_; simp only [St.put]) | refine Z.a0 ?_ | refine Z.b0 ?_ | refine Z.c0 ?_ | refine Z.d0 ?_ | refine Z.e0 ?_ | refine Z.f0 ?_ | refine Z.g0 ?_ | refine Z.h0 ?_ | refine Z.i0 rfl ?_ | refine Z.I0 ?_ | refine Z.J0 ?_ | refine Z.K0 ?_ | refine Z.L0 ?_ | refine Z.N0 ?_ | refine Z.j0 ?_ | refine Z.k0 ?_ | refine Z.l0 ?_ | refine Z.m0 ?_ | refine Z.n0 ?_ | refine Z.o0 ?_ | refine Z.q0 rfl rfl fun F hF => ?_ | refine Z.r0 rfl rfl rfl rfl fun F hF => ?_ | refine Z.H0 rfl rfl (fun F hF => ?_) | refine Z.A0 rfl rfl rfl fun F hF => ?_ | refine Z.B0 rfl rfl rfl fun F hF => ?_ | refine Z.s0 rfl rfl rfl rfl ?_ | refine Z.u0 rfl rfl rfl rfl ?_ | (refine Z.D0 ?_; simp only [St.put]) | refine Z.E0 rfl rfl rfl ?_ | refine Z.F0 rfl rfl rfl ?_ | (refine hF _ _ ?_ ?_ <;> clear hF F) | refine Z.T0 rfl ?_ | refine Z.U0 rfl ?_ | (refine Z.t0 rfl rfl rfl rfl ?_ ?_ <;> (intro hg; simp only [hg, Bool.not_true, Bool.not_false]; simp only [Z.x0] at hg)) | refine And.intro (by omega) ?_ | (refine Z.G0 rfl rfl rfl rfl rfl ?_ ?_ <;> (intro hg; simp only [hg, Bool.not_true, Bool.not_false]; simp only [Z.x0] at hg)) | (refine Z.M0 rfl rfl rfl rfl rfl ?_ ?_ <;> (intro hg; simp only [hg, Bool.not_true, Bool.not_false]; simp only [Z.x0] at hg)) | (refine Z.V0 rfl ?_ ?_ <;> (intro hc; try simp only [hc]; simp only [Z.x0] at hc)))
      simp only [loopK]
      simp only [St.keep, St.get, reduceIte, Nat.reduceEqDiff]
      exact ⟨m, by omega, k + 1, _, by omega, fA _, AH.set_same _ _ _, by simpa using hxl, fB _, rfl⟩
end Go.Proofs.YtboojmppmaepmaaDoor
/- Lists of bytes that are their owner's: the walk. -/
namespace Go.Proofs.YtboojmppmaepmaaDoor
set_option maxHeartbeats 8000000
set_option linter.all false
open Go Go.Fw
attribute [local irreducible] Reg RegD seqK blockK loopK retK panK
set_option maxRecDepth 10000

variable {H : AH} {K : AV → AH → Prop} {J : Value → AH → Prop}

abbrev YR := AV × Bs
structure OwnI (l : List YR) (x : AV) (i : Nat) (H : AH) (L : List (List AV)) (xl : AV) : Prop where
  xr : RdS H 1 (l.map fun q => [q.1]) x
  todo : ∀ j (hj : j < l.length), i ≤ j → Ow H 1 (rowsB l[j].2) l[j].1
  len : L.length = 2 * i
  long : Ow H 1 L xl
  ent : ∀ t (ht : t < L.length), ∃ z k, L[t] = [z] ∧ Mks H (mkN (t / 2)) k z ∧ k ≤ 1000000010 ∧ ∀ c, z.blk = some c → xl.blk ≠ some c ∧ x.blk ≠ some c ∧ ∀ j (hj : j < l.length), i ≤ j → l[j].1.blk ≠ some c
  lsep : ∀ c, xl.blk = some c → x.blk ≠ some c ∧ ∀ j (hj : j < l.length), i ≤ j → l[j].1.blk ≠ some c

/-- The slices are apart. -/
structure Sep (l : List YR) (x : AV) : Prop where
  each : ∀ i j (hi : i < l.length) (hj : j < l.length), i ≠ j → ∀ c, l[i].1.blk = some c → l[j].1.blk ≠ some c
  list : ∀ i (hi : i < l.length), ∀ c, l[i].1.blk = some c → x.blk ≠ some c

/-- One slice is marked and grown. -/
structure Did (H : AH) (y g : AV) (m n k : Nat) (H' : AH) : Prop where
  keep : ∀ c o, H c = some o → y.blk ≠ some c → H' c = some o
  gm : Mks H' m (n + k) g
  ym : Mks H' m n y
  new : ∀ c, g.blk = some c → y.blk = some c ∨ H c = none
theorem Did.next {y g g' : AV} {m n k : Nat} {H1 H2 : AH} (h : Did H y g m n k H1) (hg : Grew H1 m (n + k) g H2 g') (hm : Mks H2 m (n + k + 1) g') : Did H y g' m n (k + 1) H2 := by
  refine ⟨fun c o hc hy => hg.keep c o (h.keep c o hc hy) (fun e => ?_), hm, hg.mks h.ym (by omega) (fun c hc => Classical.em _), fun c hc => ?_⟩
  · rcases h.new c e with e1 | e1
    · exact hy e1
    · rw [e1] at hc; cases hc
  · rcases hg.new c hc with e | e
    · exact h.new c e
    · by_cases hy : y.blk = some c
      · exact .inl hy
      · refine .inr ?_
        cases hq : H c with
        | none => rfl
        | some o => rw [h.keep c o hq hy] at e; cases e

theorem OwnI.next {l : List YR} {x : AV} {i : Nat} {H1 H2 H3 : AH} {L : List (List AV)} {xl xl' g : AV} {n : Nat} (S : Sep l x) (h : OwnI l x i H1 L xl) (hi : i < l.length) (d : Did H1 l[i].1 g (mkN i) n 9 H2) (hn : n ≤ 1000000000) (T : Turned H2 xl H3 xl') (ho : Ow H3 1 (L ++ [[g], [l[i].1]]) xl') :
    OwnI l x (i + 1) H3 (L ++ [[g], [l[i].1]]) xl' := by
  have xin : ∀ c, x.blk = some c → ∃ o, H1 c = some o := fun c hc => rdS_has h.xr hc
  have yi : ∀ c, l[i].1.blk = some c → H1 c = some ⟨1, rowsB l[i].2⟩ := fun c hc => (h.todo i hi (Nat.le_refl _)).atb hc
  have keep2 : ∀ c o, H1 c = some o → l[i].1.blk ≠ some c → xl.blk ≠ some c → H3 c = some o := fun c o hc h1 h2 => T.keep c o (d.keep c o hc h1) h2
  have gx : ∀ c, g.blk = some c → xl.blk ≠ some c := fun c hc e => by
    rcases d.new c hc with e1 | e1
    · exact (h.lsep c e).2 i hi (Nat.le_refl _) e1
    · rw [h.long.atb e] at e1; cases e1
  have yx : ∀ c, l[i].1.blk = some c → xl.blk ≠ some c := fun c hc e => (h.lsep c e).2 i hi (Nat.le_refl _) hc
  have new3 : ∀ c, xl'.blk = some c → xl.blk = some c ∨ H2 c = none := T.new
  have keep1 : ∀ c o, H1 c = some o → l[i].1.blk ≠ some c → H2 c = some o := d.keep
  have xi : ∀ c, x.blk = some c → l[i].1.blk ≠ some c := fun c hc e => S.list i hi c e hc
  have xl0 : ∀ c, x.blk = some c → xl.blk ≠ some c := fun c hc e => (h.lsep c e).1 hc
  have ji : ∀ j (hj : j < l.length), i + 1 ≤ j → ∀ c, l[j].1.blk = some c → l[i].1.blk ≠ some c := fun j hj hij c hc => S.each j i hj hi (by omega) c hc
  refine ⟨h.xr.keep fun c hc => ?_, fun j hj hij => (h.todo j hj (by omega)).keep fun c hc => ?_, by simp [h.len]; omega, ho, fun t ht => ?_, fun c hc => ?_⟩
  · obtain ⟨o, ho⟩ := xin c hc
    rw [keep2 c o ho (xi c hc) (xl0 c hc), ho]
  · have := (h.todo j hj (by omega)).atb hc
    rw [keep2 c _ this (ji j hj hij c hc) (fun e => (h.lsep c e).2 j hj (by omega) hc), this]
  · by_cases ht0 : t < L.length
    · obtain ⟨z, k, g1, g2, g3, g4⟩ := h.ent t ht0
      refine ⟨z, k, by rw [List.getElem_append_left ht0, g1], g2.keep fun c hc => ?_, g3, fun c hc => ?_⟩
      · obtain ⟨xs, hx, _⟩ := g2.has hc
        rw [keep2 c _ hx ((g4 c hc).2.2 i hi (Nat.le_refl _)) (g4 c hc).1, hx]
      · obtain ⟨s1, s2, s3⟩ := g4 c hc
        refine ⟨fun e => ?_, s2, fun j hj hij => s3 j hj (by omega)⟩
        rcases new3 c e with e1 | e1
        · exact s1 e1
        · obtain ⟨xs, hx, _⟩ := g2.has hc
          rw [keep1 c _ hx (s3 i hi (Nat.le_refl _))] at e1; cases e1
    · have hlen := h.len
      have h2 : t = L.length ∨ t = L.length + 1 := by simp at ht; omega
      have gsep : ∀ c, (g.blk = some c ∨ l[i].1.blk = some c) → (∃ xs, H2 c = some xs) → xl'.blk ≠ some c ∧ x.blk ≠ some c ∧ ∀ j (hj : j < l.length), i + 1 ≤ j → l[j].1.blk ≠ some c := by
        intro c hc hx
        have hn : l[i].1.blk = some c ∨ H1 c = none := hc.elim (d.new c) .inl
        refine ⟨fun e => ?_, fun e => ?_, fun j hj hij e => ?_⟩
        · rcases new3 c e with e1 | e1
          · rcases hc with hc | hc
            · exact gx c hc e1
            · exact yx c hc e1
          · obtain ⟨xs, hx⟩ := hx
            rw [hx] at e1; cases e1
        · rcases hn with e1 | e1
          · exact xi c e e1
          · obtain ⟨o, ho⟩ := xin c e
            rw [ho] at e1; cases e1
        · rcases hn with e1 | e1
          · exact ji j hj hij c e e1
          · rw [(h.todo j hj (by omega)).atb e] at e1; cases e1
      rcases h2 with rfl | rfl
      · refine ⟨g, n + 9, by simp, ?_, by omega, fun c hc => gsep c (.inl hc) ?_⟩
        · rw [show L.length / 2 = i from by omega]
          exact d.gm.keep fun c hc => by
            obtain ⟨xs, hx, _⟩ := d.gm.has hc
            rw [T.keep c _ hx (gx c hc), hx]
        · obtain ⟨xs, hx, _⟩ := d.gm.has hc
          exact ⟨_, hx⟩
      · refine ⟨l[i].1, n, by simp, ?_, by omega, fun c hc => gsep c (.inr hc) ?_⟩
        · rw [show (L.length + 1) / 2 = i from by omega]
          exact d.ym.keep fun c hc => by
            obtain ⟨xs, hx, _⟩ := d.ym.has hc
            rw [T.keep c _ hx (yx c hc), hx]
        · obtain ⟨xs, hx, _⟩ := d.ym.has hc
          exact ⟨_, hx⟩
  · rcases new3 c hc with e | e
    · exact ⟨(h.lsep c e).1, fun j hj hij => (h.lsep c e).2 j hj (by omega)⟩
    · refine ⟨fun e2 => ?_, fun j hj hij e2 => ?_⟩
      · obtain ⟨o, ho⟩ := xin c e2
        rw [keep1 c o ho (xi c e2)] at e; cases e
      · rw [keep1 c _ ((h.todo j hj (by omega)).atb e2) (ji j hj hij c e2)] at e; cases e
end Go.Proofs.YtboojmppmaepmaaDoor
/- Lists of bytes that are their owner's: the walk. -/
namespace Go.Proofs.YtboojmppmaepmaaDoor
set_option maxHeartbeats 8000000
set_option linter.all false
open Go Go.Fw
attribute [local irreducible] Reg RegD seqK blockK loopK retK panK
set_option maxRecDepth 10000

variable {H : AH} {K : AV → AH → Prop} {J : Value → AH → Prop}

theorem elX {l : List YR} {x : AV} (hx : RdS H 1 (l.map fun q => [q.1]) x) {k : Nat} (hk : k < l.length) : ∃ p, (∀ F, aidx Tryd.prog 36 x (.v (.int .i64 k)) F = F p) ∧ ∀ F, aload Tryd.prog 30 p H F = F l[k].1 := by
  obtain ⟨p, hp, _, hi⟩ := hx.idx vt36 (k := k) (by simpa using hk)
  refine ⟨p, hi, fun F => ?_⟩
  rw [hp.load]
  simp [acut, Tryd.underlying30, isAggD]
theorem elL {L : List (List AV)} {x z : AV} (hx : RdS H 1 L x) {k : Nat} (hk : k < L.length) (hz : L[k] = [z]) : ∃ p, (∀ F, aidx Tryd.prog 36 x (.v (.int .i64 k)) F = F p) ∧ ∀ F, aload Tryd.prog 30 p H F = F z := by
  obtain ⟨p, hp, _, hi⟩ := hx.idx vt36 hk
  refine ⟨p, hi, fun F => ?_⟩
  rw [hp.load, hz]
  simp [acut, Tryd.underlying30, isAggD]
theorem elK {m n : Nat} {z : AV} (hz : Mks H m n z) {k : Nat} (hk : k < n) : ∃ p, (∀ F, aidx Tryd.prog 30 z (.v (.int .i64 k)) F = F p) ∧ ∀ F, aload Tryd.prog 5 p H F = F (.v (.int .u8 (m : Int))) := by
  obtain ⟨p, hp, _, hi⟩ := hz.rd.idx vt30 (k := k) (by simpa using hk)
  refine ⟨p, hi, fun F => ?_⟩
  rw [hp.load]
  simp [acut, Tryd.underlying5, isAggD]
theorem lenK {m n : Nat} {z : AV} (hz : Mks H m n z) : ∀ F, alen Tryd.prog 30 z F = F (.v (.int .i64 n)) := fun F => by
  rw [hz.rd.len vt30, List.length_replicate]

/-- A slice is being marked. -/
structure Fill (H1 H : AH) (y : AV) (m : Nat) (f : Bs) (k : Nat) : Prop where
  keep : ∀ c o, H1 c = some o → y.blk ≠ some c → H c = some o
  y : (f = [] ∧ (y = .v (.slice none 0 0) ∨ y = .ov none 0 1 0 none)) ∨ ∃ b, y = .ov (some b) 0 1 f.length none ∧ H b = some ⟨1, List.replicate k (mkR m) ++ (rowsB f).drop k⟩
theorem Fill.start {H1 : AH} {y : AV} {f : Bs} (m : Nat) (h : Ow H1 1 (rowsB f) y) : Fill H1 H1 y m f 0 := by
  have gen : ∀ {rows : List (List AV)}, Ow H1 1 rows y → rows = rowsB f → (f = [] ∧ (y = .v (.slice none 0 0) ∨ y = .ov none 0 1 0 none)) ∨ ∃ b, y = .ov (some b) 0 1 f.length none ∧ H1 b = some ⟨1, List.replicate 0 (mkR m) ++ (rowsB f).drop 0⟩ := by
    intro rows h e
    cases h with
    | nil => exact .inl ⟨by have := congrArg List.length e; simp at this; exact List.eq_nil_of_length_eq_zero this.symm, .inl rfl⟩
    | onil => exact .inl ⟨by have := congrArg List.length e; simp at this; exact List.eq_nil_of_length_eq_zero this.symm, .inr rfl⟩
    | ov b rows hb hz =>
      subst e
      exact .inr ⟨b, by simp, by simpa using hb⟩
  exact ⟨fun c o hc _ => hc, gen h rfl⟩
theorem Fill.len {H1 H : AH} {y : AV} {m k : Nat} {f : Bs} (h : Fill H1 H y m f k) : ∀ F, alen Tryd.prog 30 y F = F (.v (.int .i64 f.length)) := by
  intro F
  rcases h.y with ⟨rfl, rfl | rfl⟩ | ⟨b, rfl, _⟩ <;> simp [alen, Tryd.underlying30]
theorem Fill.did {H1 H : AH} {y : AV} {m : Nat} {f : Bs} (h : Fill H1 H y m f f.length) : Did H1 y y m f.length 0 H := by
  have hm : Mks H m f.length y := by
    rcases h.y with ⟨rfl, rfl | rfl⟩ | ⟨b, rfl, hb⟩
    · exact .nil rfl
    · exact .onil rfl
    · exact .ov b _ hb (by simp) (by rw [List.take_append_of_le_length (by simp), List.take_of_length_le (by simp)])
  exact ⟨h.keep, hm, hm, fun c hc => .inl hc⟩
theorem fill_set {m k : Nat} {f : Bs} (hk : k < f.length) : (List.replicate k (mkR m) ++ (rowsB f).drop k).set k (mkR m) = List.replicate (k + 1) (mkR m) ++ (rowsB f).drop (k + 1) ∧ ∃ c : UInt8, (List.replicate k (mkR m) ++ (rowsB f).drop k)[k]? = some [.v (.int .u8 c.toNat)] := by
  have hk2 : k < (rowsB f).length := by simpa using hk
  rw [List.drop_eq_getElem_cons hk2]
  refine ⟨?_, f[k], ?_⟩
  · rw [List.set_append_right _ _ (by simp)]
    simp only [List.length_replicate, Nat.sub_self, List.set_cons_zero]
    rw [List.replicate_succ', List.append_assoc]
    rfl
  · rw [List.getElem?_append_right (by simp), rowsB_get]
    simp

theorem tmod_nat (i k : Nat) : ((i : Int)).tmod (k : Int) = ((i % k : Nat) : Int) := by rw [Int.tmod_eq_emod_of_nonneg (by omega)]; rfl
theorem tdiv_nat (i k : Nat) : ((i : Int)).tdiv (k : Int) = ((i / k : Nat) : Int) := by rw [Int.tdiv_eq_ediv_of_nonneg (by omega)]; rfl

theorem owned_ok {l : List YR} {x : AV} (hx : RdS H 1 (l.map fun q => [q.1]) x) (hy : ∀ q ∈ l, Ow H 1 (rowsB q.2) q.1) (S : Sep l x) (hl : l.length ≤ 500000000) (hn : ∀ q ∈ l, q.2.length ≤ 1000000000) (hk : ∀ H', K (.v (.bool true)) H') :
    CallX Tryd.prog 14 [x] H K J := by
  refine CallX.of_body Tryd.func14 nm14 rfl ?_; simp only [Tryd.ntmps14, List.length_cons, List.length_nil, argSt, Nat.reduceAdd, Nat.reduceSub]
  repeat' (first | ((first | refine Z.W0 ?_ | refine Z.X0 ?_); simp only [go_sem, seval]; try (simp (disch := omega) only [Z.w0]; try simp only [go_sem, seval])) | (refine hF _ _ ?_; clear hF F) | (refine Z.p0 ?_; simp only [St.put]) | refine Z.a0 ?_ | refine Z.b0 ?_ | refine Z.c0 ?_ | refine Z.d0 ?_ | refine Z.e0 ?_ | refine Z.f0 ?_ | refine Z.g0 ?_ | refine Z.h0 ?_ | refine Z.i0 rfl ?_ | refine Z.I0 ?_ | refine Z.J0 ?_ | refine Z.K0 ?_ | refine Z.L0 ?_ | refine Z.N0 ?_ | refine Z.j0 ?_ | refine Z.k0 ?_ | refine Z.l0 ?_ | refine Z.m0 ?_ | refine Z.n0 ?_ | refine Z.o0 ?_ | refine Z.q0 rfl rfl fun F hF => ?_ | refine Z.r0 rfl rfl rfl rfl fun F hF => ?_ | refine Z.H0 rfl rfl (fun F hF => ?_) | refine Z.A0 rfl rfl rfl fun F hF => ?_ | refine Z.B0 rfl rfl rfl fun F hF => ?_ | refine Z.s0 rfl rfl rfl rfl ?_ | refine Z.u0 rfl rfl rfl rfl ?_ | (refine Z.D0 ?_; simp only [St.put]) | refine Z.E0 rfl rfl rfl ?_ | refine Z.F0 rfl rfl rfl ?_ | (refine hF _ _ ?_ ?_ <;> clear hF F) | refine Z.T0 rfl ?_ | refine Z.U0 rfl ?_ | (refine Z.t0 rfl rfl rfl rfl ?_ ?_ <;> (intro hg; simp only [hg, Bool.not_true, Bool.not_false]; simp only [Z.x0] at hg)) | refine And.intro (by omega) ?_ | (refine Z.G0 rfl rfl rfl rfl rfl ?_ ?_ <;> (intro hg; simp only [hg, Bool.not_true, Bool.not_false]; simp only [Z.x0] at hg)) | (refine Z.M0 rfl rfl rfl rfl rfl ?_ ?_ <;> (intro hg; simp only [hg, Bool.not_true, Bool.not_false]; simp only [Z.x0] at hg)) | (refine Z.V0 rfl ?_ ?_ <;> (intro hc; try simp only [hc]; simp only [Z.x0] at hc)))
  refine W_loop [0, 3, 4] (fun n s Hc => ∃ (i : Nat) (L : List (List AV)) (xl : AV), n + i = l.length ∧ OwnI l x i Hc L xl ∧ s = [(0, x), (3, xl), (4, .v (.int .i64 i))]) l.length ?_ ?_
  · simp only [St.keep, St.get, reduceIte, Nat.reduceEqDiff]
    exact ⟨0, [], _, by omega, ⟨hx, fun j hj _ => hy _ (List.getElem_mem hj), rfl, .nil, (fun t ht => by simp at ht), (fun c hc => by cases hc)⟩, rfl⟩
  rintro n s H1 ⟨i, L, xl, hni, I, rfl⟩
  have lx := I.xr.len vt36
  simp only [List.length_map] at lx
  have hL := I.len
  cases n with
  | succ n =>
    have hi : i < l.length := by omega
    have d : decide ((i : Int) < (l.length : Int)) = true := by simp; omega
    have ht : ((i : Int)).tmod 250 = ((i % 250 : Nat) : Int) := tmod_nat i 250
    have w1 : IntKind.i64.wrap (1 + ((i % 250 : Nat) : Int)) = ((mkN i : Nat) : Int) := by unfold mkN; rw [wrap_of] <;> omega
    have w2 : IntKind.u8.wrap ((mkN i : Nat) : Int) = ((mkN i : Nat) : Int) := by rw [IntKind.wrap_u8]; unfold mkN; omega
    have wi : IntKind.i64.wrap ((i : Int) + 1) = ((i + 1 : Nat) : Int) := by rw [wrap_of] <;> omega
    have hyi := I.todo i hi (Nat.le_refl _)
    have hnn := hn _ (List.getElem_mem hi)
    have xk : ∀ Hc, (∀ c o, H1 c = some o → l[i].1.blk ≠ some c → Hc c = some o) → RdS Hc 1 (l.map fun q => [q.1]) x := fun Hc hkeep => I.xr.keep fun c hc => by
      obtain ⟨o, ho⟩ := rdS_has I.xr hc
      rw [hkeep c o ho (fun e => S.list i hi c e hc), ho]
    repeat' (first | ((first | refine Z.W0 ?_ | refine Z.X0 ?_); simp only [go_sem, seval, lx, d, ht, w1, w2]; try (simp (disch := omega) only [Z.w0]; try simp only [go_sem, seval, lx, d, ht, w1, w2])) | (refine hF _ _ ?_; clear hF F) | (refine Z.p0 ?_; simp only [St.put]) | refine Z.a0 ?_ | refine Z.b0 ?_ | refine Z.c0 ?_ | refine Z.d0 ?_ | refine Z.e0 ?_ | refine Z.f0 ?_ | refine Z.g0 ?_ | refine Z.h0 ?_ | refine Z.i0 rfl ?_ | refine Z.I0 ?_ | refine Z.J0 ?_ | refine Z.K0 ?_ | refine Z.L0 ?_ | refine Z.N0 ?_ | refine Z.j0 ?_ | refine Z.k0 ?_ | refine Z.l0 ?_ | refine Z.m0 ?_ | refine Z.n0 ?_ | refine Z.o0 ?_ | refine Z.q0 rfl rfl fun F hF => ?_ | refine Z.r0 rfl rfl rfl rfl fun F hF => ?_ | refine Z.H0 rfl rfl (fun F hF => ?_) | refine Z.A0 rfl rfl rfl fun F hF => ?_ | refine Z.B0 rfl rfl rfl fun F hF => ?_ | refine Z.s0 rfl rfl rfl rfl ?_ | refine Z.u0 rfl rfl rfl rfl ?_ | (refine Z.D0 ?_; simp only [St.put]) | refine Z.E0 rfl rfl rfl ?_ | refine Z.F0 rfl rfl rfl ?_ | (refine hF _ _ ?_ ?_ <;> clear hF F) | refine Z.T0 rfl ?_ | refine Z.U0 rfl ?_ | (refine Z.t0 rfl rfl rfl rfl ?_ ?_ <;> (intro hg; simp only [hg, Bool.not_true, Bool.not_false]; simp only [Z.x0] at hg)) | refine And.intro (by omega) ?_ | (refine Z.G0 rfl rfl rfl rfl rfl ?_ ?_ <;> (intro hg; simp only [hg, Bool.not_true, Bool.not_false]; simp only [Z.x0] at hg)) | (refine Z.M0 rfl rfl rfl rfl rfl ?_ ?_ <;> (intro hg; simp only [hg, Bool.not_true, Bool.not_false]; simp only [Z.x0] at hg)) | (refine Z.V0 rfl ?_ ?_ <;> (intro hc; try simp only [hc]; simp only [Z.x0] at hc)))
    refine W_loop [0, 3, 4, 5, 6] (fun n s Hc => ∃ k : Nat, n + k = l[i].2.length ∧ Fill H1 Hc l[i].1 (mkN i) l[i].2 k ∧ s = [(0, x), (3, xl), (4, .v (.int .i64 i)), (5, .v (.int .u8 (mkN i : Int))), (6, .v (.int .i64 k))]) l[i].2.length ?_ ?_
    · simp only [St.keep, St.get, reduceIte, Nat.reduceEqDiff]
      exact ⟨0, by omega, Fill.start _ hyi, rfl⟩
    rintro n2 s H2 ⟨k, hk2, FF, rfl⟩
    obtain ⟨p, E1, E2⟩ := elX (xk H2 FF.keep) hi
    have ly := FF.len
    cases n2 with
    | succ n2 =>
      have hkn : k < l[i].2.length := by omega
      have dk : decide ((k : Int) < (l[i].2.length : Int)) = true := by simp; omega
      have wk : IntKind.i64.wrap ((k : Int) + 1) = ((k + 1 : Nat) : Int) := by rw [wrap_of] <;> omega
      obtain ⟨fs1, c, fs2⟩ := fill_set (m := mkN i) hkn
      rcases FF.y with ⟨h0, _⟩ | ⟨b, hyb, hb⟩
      · rw [h0] at hkn; simp at hkn
      rw [hyb] at E2 ly
      repeat' (first | ((first | refine Z.W0 ?_ | refine Z.X0 ?_); simp only [go_sem, seval, dk, E1, E2, ly, hb, fs2, wk]; try (simp (disch := omega) only [Z.w0]; try simp only [go_sem, seval, dk, E1, E2, ly, hb, fs2, wk])) | (refine hF _ _ ?_; clear hF F) | (refine Z.p0 ?_; simp only [St.put]) | refine Z.a0 ?_ | refine Z.b0 ?_ | refine Z.c0 ?_ | refine Z.d0 ?_ | refine Z.e0 ?_ | refine Z.f0 ?_ | refine Z.g0 ?_ | refine Z.h0 ?_ | refine Z.i0 rfl ?_ | refine Z.I0 ?_ | refine Z.J0 ?_ | refine Z.K0 ?_ | refine Z.L0 ?_ | refine Z.N0 ?_ | refine Z.j0 ?_ | refine Z.k0 ?_ | refine Z.l0 ?_ | refine Z.m0 ?_ | refine Z.n0 ?_ | refine Z.o0 ?_ | refine Z.q0 rfl rfl fun F hF => ?_ | refine Z.r0 rfl rfl rfl rfl fun F hF => ?_ | refine Z.H0 rfl rfl (fun F hF => ?_) | refine Z.A0 rfl rfl rfl fun F hF => ?_ | refine Z.B0 rfl rfl rfl fun F hF => ?_ | refine Z.s0 rfl rfl rfl rfl ?_ | refine Z.u0 rfl rfl rfl rfl ?_ | (refine Z.D0 ?_; simp only [St.put]) | refine Z.E0 rfl rfl rfl ?_ | refine Z.F0 rfl rfl rfl ?_ | (refine hF _ _ ?_ ?_ <;> clear hF F) | refine Z.T0 rfl ?_ | refine Z.U0 rfl ?_ | (refine Z.t0 rfl rfl rfl rfl ?_ ?_ <;> (intro hg; simp only [hg, Bool.not_true, Bool.not_false]; simp only [Z.x0] at hg)) | refine And.intro (by omega) ?_ | (refine Z.G0 rfl rfl rfl rfl rfl ?_ ?_ <;> (intro hg; simp only [hg, Bool.not_true, Bool.not_false]; simp only [Z.x0] at hg)) | (refine Z.M0 rfl rfl rfl rfl rfl ?_ ?_ <;> (intro hg; simp only [hg, Bool.not_true, Bool.not_false]; simp only [Z.x0] at hg)) | (refine Z.V0 rfl ?_ ?_ <;> (intro hc; try simp only [hc]; simp only [Z.x0] at hc)))
      simp only [loopK]
      simp only [St.keep, St.get, reduceIte, Nat.reduceEqDiff]
      refine ⟨n2, by omega, k + 1, by omega, ⟨fun c o hc hne => ?_, .inr ⟨b, hyb, ?_⟩⟩, rfl⟩
      · rw [AH.set_ne _ _ (fun e => hne (by rw [hyb, e]; rfl))]
        exact FF.keep c o hc hne
      · rw [AH.set_same, ← fs1]
    | zero =>
      obtain rfl : k = l[i].2.length := by omega
      have dk : decide ((l[i].2.length : Int) < (l[i].2.length : Int)) = false := by simp
      repeat' (first | ((first | refine Z.W0 ?_ | refine Z.X0 ?_); simp only [go_sem, seval, dk, E1, E2, ly]; try (simp (disch := omega) only [Z.w0]; try simp only [go_sem, seval, dk, E1, E2, ly])) | (refine hF _ _ ?_; clear hF F) | (refine Z.p0 ?_; simp only [St.put]) | refine Z.a0 ?_ | refine Z.b0 ?_ | refine Z.c0 ?_ | refine Z.d0 ?_ | refine Z.e0 ?_ | refine Z.f0 ?_ | refine Z.g0 ?_ | refine Z.h0 ?_ | refine Z.i0 rfl ?_ | refine Z.I0 ?_ | refine Z.J0 ?_ | refine Z.K0 ?_ | refine Z.L0 ?_ | refine Z.N0 ?_ | refine Z.j0 ?_ | refine Z.k0 ?_ | refine Z.l0 ?_ | refine Z.m0 ?_ | refine Z.n0 ?_ | refine Z.o0 ?_ | refine Z.q0 rfl rfl fun F hF => ?_ | refine Z.r0 rfl rfl rfl rfl fun F hF => ?_ | refine Z.H0 rfl rfl (fun F hF => ?_) | refine Z.A0 rfl rfl rfl fun F hF => ?_ | refine Z.B0 rfl rfl rfl fun F hF => ?_ | refine Z.s0 rfl rfl rfl rfl ?_ | refine Z.u0 rfl rfl rfl rfl ?_ | (refine Z.D0 ?_; simp only [St.put]) | refine Z.E0 rfl rfl rfl ?_ | refine Z.F0 rfl rfl rfl ?_ | (refine hF _ _ ?_ ?_ <;> clear hF F) | refine Z.T0 rfl ?_ | refine Z.U0 rfl ?_ | (refine Z.t0 rfl rfl rfl rfl ?_ ?_ <;> (intro hg; simp only [hg, Bool.not_true, Bool.not_false]; simp only [Z.x0] at hg)) | refine And.intro (by omega) ?_ | (refine Z.G0 rfl rfl rfl rfl rfl ?_ ?_ <;> (intro hg; simp only [hg, Bool.not_true, Bool.not_false]; simp only [Z.x0] at hg)) | (refine Z.M0 rfl rfl rfl rfl rfl ?_ ?_ <;> (intro hg; simp only [hg, Bool.not_true, Bool.not_false]; simp only [Z.x0] at hg)) | (refine Z.V0 rfl ?_ ?_ <;> (intro hc; try simp only [hc]; simp only [Z.x0] at hc)))
      refine W_loop [0, 3, 4, 5, 7, 8] (fun n s Hc => ∃ (k : Nat) (g : AV), n + k = 9 ∧ Did H1 l[i].1 g (mkN i) l[i].2.length k Hc ∧ s = [(0, x), (3, xl), (4, .v (.int .i64 i)), (5, .v (.int .u8 (mkN i : Int))), (7, g), (8, .v (.int .i64 k))]) 9 ?_ ?_
      · simp only [St.keep, St.get, reduceIte, Nat.reduceEqDiff]
        exact ⟨0, _, rfl, FF.did, rfl⟩
      clear FF E1 E2 ly p
      rintro n3 s H3 ⟨k, g, hk9, DD, rfl⟩
      cases n3 with
      | succ n3 =>
        have dk : decide ((k : Int) < 9) = true := by simp; omega
        have wk : IntKind.i64.wrap ((k : Int) + 1) = ((k + 1 : Nat) : Int) := by rw [wrap_of] <;> omega
        repeat' (first | ((first | refine Z.W0 ?_ | refine Z.X0 ?_); simp only [go_sem, seval, dk]; try (simp (disch := omega) only [Z.w0]; try simp only [go_sem, seval, dk])) | (refine hF _ _ ?_; clear hF F) | (refine Z.p0 ?_; simp only [St.put]) | refine Z.a0 ?_ | refine Z.b0 ?_ | refine Z.c0 ?_ | refine Z.d0 ?_ | refine Z.e0 ?_ | refine Z.f0 ?_ | refine Z.g0 ?_ | refine Z.h0 ?_ | refine Z.i0 rfl ?_ | refine Z.I0 ?_ | refine Z.J0 ?_ | refine Z.K0 ?_ | refine Z.L0 ?_ | refine Z.N0 ?_ | refine Z.j0 ?_ | refine Z.k0 ?_ | refine Z.l0 ?_ | refine Z.m0 ?_ | refine Z.n0 ?_ | refine Z.o0 ?_ | refine Z.q0 rfl rfl fun F hF => ?_ | refine Z.r0 rfl rfl rfl rfl fun F hF => ?_ | refine Z.H0 rfl rfl (fun F hF => ?_) | refine Z.A0 rfl rfl rfl fun F hF => ?_ | refine Z.B0 rfl rfl rfl fun F hF => ?_ | refine Z.s0 rfl rfl rfl rfl ?_ | refine Z.u0 rfl rfl rfl rfl ?_ | (refine Z.D0 ?_; simp only [St.put]) | refine Z.E0 rfl rfl rfl ?_ | refine Z.F0 rfl rfl rfl ?_ | (refine hF _ _ ?_ ?_ <;> clear hF F) | refine Z.T0 rfl ?_ | refine Z.U0 rfl ?_ | (refine Z.t0 rfl rfl rfl rfl ?_ ?_ <;> (intro hg; simp only [hg, Bool.not_true, Bool.not_false]; simp only [Z.x0] at hg)) | refine And.intro (by omega) ?_ | (refine Z.G0 rfl rfl rfl rfl rfl ?_ ?_ <;> (intro hg; simp only [hg, Bool.not_true, Bool.not_false]; simp only [Z.x0] at hg)) | (refine Z.M0 rfl rfl rfl rfl rfl ?_ ?_ <;> (intro hg; simp only [hg, Bool.not_true, Bool.not_false]; simp only [Z.x0] at hg)) | (refine Z.V0 rfl ?_ ?_ <;> (intro hc; try simp only [hc]; simp only [Z.x0] at hc)))
        refine DD.gm.app (by omega) fun g' H4 hm hg => ?_
        (refine hF _ _ ?_; clear hF F)
        repeat' (first | ((first | refine Z.W0 ?_ | refine Z.X0 ?_); simp only [go_sem, seval, wk]; try (simp (disch := omega) only [Z.w0]; try simp only [go_sem, seval, wk])) | (refine hF _ _ ?_; clear hF F) | (refine Z.p0 ?_; simp only [St.put]) | refine Z.a0 ?_ | refine Z.b0 ?_ | refine Z.c0 ?_ | refine Z.d0 ?_ | refine Z.e0 ?_ | refine Z.f0 ?_ | refine Z.g0 ?_ | refine Z.h0 ?_ | refine Z.i0 rfl ?_ | refine Z.I0 ?_ | refine Z.J0 ?_ | refine Z.K0 ?_ | refine Z.L0 ?_ | refine Z.N0 ?_ | refine Z.j0 ?_ | refine Z.k0 ?_ | refine Z.l0 ?_ | refine Z.m0 ?_ | refine Z.n0 ?_ | refine Z.o0 ?_ | refine Z.q0 rfl rfl fun F hF => ?_ | refine Z.r0 rfl rfl rfl rfl fun F hF => ?_ | refine Z.H0 rfl rfl (fun F hF => ?_) | refine Z.A0 rfl rfl rfl fun F hF => ?_ | refine Z.B0 rfl rfl rfl fun F hF => ?_ | refine Z.s0 rfl rfl rfl rfl ?_ | refine Z.u0 rfl rfl rfl rfl ?_ | (refine Z.D0 ?_; simp only [St.put]) | refine Z.E0 rfl rfl rfl ?_ | refine Z.F0 rfl rfl rfl ?_ | (refine hF _ _ ?_ ?_ <;> clear hF F) | refine Z.T0 rfl ?_ | refine Z.U0 rfl ?_ | (refine Z.t0 rfl rfl rfl rfl ?_ ?_ <;> (intro hg; simp only [hg, Bool.not_true, Bool.not_false]; simp only [Z.x0] at hg)) | refine And.intro (by omega) ?_ | (refine Z.G0 rfl rfl rfl rfl rfl ?_ ?_ <;> (intro hg; simp only [hg, Bool.not_true, Bool.not_false]; simp only [Z.x0] at hg)) | (refine Z.M0 rfl rfl rfl rfl rfl ?_ ?_ <;> (intro hg; simp only [hg, Bool.not_true, Bool.not_false]; simp only [Z.x0] at hg)) | (refine Z.V0 rfl ?_ ?_ <;> (intro hc; try simp only [hc]; simp only [Z.x0] at hc)))
        simp only [loopK]
        simp only [St.keep, St.get, reduceIte, Nat.reduceEqDiff]
        exact ⟨n3, by omega, k + 1, g', by omega, DD.next hg hm, rfl⟩
      | zero =>
        obtain rfl : k = 9 := by omega
        obtain ⟨p, E1, E2⟩ := elX (xk H3 DD.keep) hi
        have lo : Ow H3 1 L xl := I.long.keep fun c hc => by
          rw [DD.keep c _ (I.long.atb hc) ((I.lsep c hc).2 i hi (Nat.le_refl _)), I.long.atb hc]
        obtain ⟨Hb, hon, _⟩ := lo.on
        repeat' (first | ((first | refine Z.W0 ?_ | refine Z.X0 ?_); simp only [go_sem, seval, E1, E2, DD.gm.cell, DD.gm.rd.cells, DD.ym.cell, DD.ym.rd.cells]; try (simp (disch := omega) only [Z.w0]; try simp only [go_sem, seval, E1, E2, DD.gm.cell, DD.gm.rd.cells, DD.ym.cell, DD.ym.rd.cells])) | (refine hF _ _ ?_; clear hF F) | (refine Z.p0 ?_; simp only [St.put]) | refine Z.a0 ?_ | refine Z.b0 ?_ | refine Z.c0 ?_ | refine Z.d0 ?_ | refine Z.e0 ?_ | refine Z.f0 ?_ | refine Z.g0 ?_ | refine Z.h0 ?_ | refine Z.i0 rfl ?_ | refine Z.I0 ?_ | refine Z.J0 ?_ | refine Z.K0 ?_ | refine Z.L0 ?_ | refine Z.N0 ?_ | refine Z.j0 ?_ | refine Z.k0 ?_ | refine Z.l0 ?_ | refine Z.m0 ?_ | refine Z.n0 ?_ | refine Z.o0 ?_ | refine Z.q0 rfl rfl fun F hF => ?_ | refine Z.r0 rfl rfl rfl rfl fun F hF => ?_ | refine Z.H0 rfl rfl (fun F hF => ?_) | refine Z.A0 rfl rfl rfl fun F hF => ?_ | refine Z.B0 rfl rfl rfl fun F hF => ?_ | refine Z.s0 rfl rfl rfl rfl ?_ | refine Z.u0 rfl rfl rfl rfl ?_ | (refine Z.D0 ?_; simp only [St.put]) | refine Z.E0 rfl rfl rfl ?_ | refine Z.F0 rfl rfl rfl ?_ | (refine hF _ _ ?_ ?_ <;> clear hF F) | refine Z.T0 rfl ?_ | refine Z.U0 rfl ?_ | (refine Z.t0 rfl rfl rfl rfl ?_ ?_ <;> (intro hg; simp only [hg, Bool.not_true, Bool.not_false]; simp only [Z.x0] at hg)) | refine And.intro (by omega) ?_ | (refine Z.G0 rfl rfl rfl rfl rfl ?_ ?_ <;> (intro hg; simp only [hg, Bool.not_true, Bool.not_false]; simp only [Z.x0] at hg)) | (refine Z.M0 rfl rfl rfl rfl rfl ?_ ?_ <;> (intro hg; simp only [hg, Bool.not_true, Bool.not_false]; simp only [Z.x0] at hg)) | (refine Z.V0 rfl ?_ ?_ <;> (intro hc; try simp only [hc]; simp only [Z.x0] at hc)))
        refine hon.app vt36 rfl rfl Tryd.underlying36 (fun k => by simp) (fun G => by simp [asrc]; rfl) (by simp; omega) fun xl' H4 hx' => ?_
        have I' := I.next S hi DD hnn (hon.turned hx') hx'.ow
        (refine hF _ _ ?_; clear hF F)
        repeat' (first | ((first | refine Z.W0 ?_ | refine Z.X0 ?_); simp only [go_sem, seval, wi]; try (simp (disch := omega) only [Z.w0]; try simp only [go_sem, seval, wi])) | (refine hF _ _ ?_; clear hF F) | (refine Z.p0 ?_; simp only [St.put]) | refine Z.a0 ?_ | refine Z.b0 ?_ | refine Z.c0 ?_ | refine Z.d0 ?_ | refine Z.e0 ?_ | refine Z.f0 ?_ | refine Z.g0 ?_ | refine Z.h0 ?_ | refine Z.i0 rfl ?_ | refine Z.I0 ?_ | refine Z.J0 ?_ | refine Z.K0 ?_ | refine Z.L0 ?_ | refine Z.N0 ?_ | refine Z.j0 ?_ | refine Z.k0 ?_ | refine Z.l0 ?_ | refine Z.m0 ?_ | refine Z.n0 ?_ | refine Z.o0 ?_ | refine Z.q0 rfl rfl fun F hF => ?_ | refine Z.r0 rfl rfl rfl rfl fun F hF => ?_ | refine Z.H0 rfl rfl (fun F hF => ?_) | refine Z.A0 rfl rfl rfl fun F hF => ?_ | refine Z.B0 rfl rfl rfl fun F hF => ?_ | refine Z.s0 rfl rfl rfl rfl ?_ | refine Z.u0 rfl rfl rfl rfl ?_ | (refine Z.D0 ?_; simp only [St.put]) | refine Z.E0 rfl rfl rfl ?_ | refine Z.F0 rfl rfl rfl ?_ | (refine hF _ _ ?_ ?_ <;> clear hF F) | refine Z.T0 rfl ?_ | refine Z.U0 rfl ?_ | (refine Z.t0 rfl rfl rfl rfl ?_ ?_ <;> (intro hg; simp only [hg, Bool.not_true, Bool.not_false]; simp only [Z.x0] at hg)) | refine And.intro (by omega) ?_ | (refine Z.G0 rfl rfl rfl rfl rfl ?_ ?_ <;> (intro hg; simp only [hg, Bool.not_true, Bool.not_false]; simp only [Z.x0] at hg)) | (refine Z.M0 rfl rfl rfl rfl rfl ?_ ?_ <;> (intro hg; simp only [hg, Bool.not_true, Bool.not_false]; simp only [Z.x0] at hg)) | (refine Z.V0 rfl ?_ ?_ <;> (intro hc; try simp only [hc]; simp only [Z.x0] at hc)))
        simp only [loopK]
        simp only [St.keep, St.get, reduceIte, Nat.reduceEqDiff]
        exact ⟨n, by omega, i + 1, _, xl', by omega, I', rfl⟩
  | zero =>
    obtain rfl : i = l.length := by omega
    have d : decide ((l.length : Int) < (l.length : Int)) = false := by simp
    repeat' (first | ((first | refine Z.W0 ?_ | refine Z.X0 ?_); simp only [go_sem, seval, lx, d]; try (simp (disch := omega) only [Z.w0]; try simp only [go_sem, seval, lx, d])) | (refine hF _ _ ?_; clear hF F) | (refine Z.p0 ?_; simp only [St.put]) | refine Z.a0 ?_ | refine Z.b0 ?_ | refine Z.c0 ?_ | refine Z.d0 ?_ | refine Z.e0 ?_ | refine Z.f0 ?_ | refine Z.g0 ?_ | refine Z.h0 ?_ | refine Z.i0 rfl ?_ | refine Z.I0 ?_ | refine Z.J0 ?_ | refine Z.K0 ?_ | refine Z.L0 ?_ | refine Z.N0 ?_ | refine Z.j0 ?_ | refine Z.k0 ?_ | refine Z.l0 ?_ | refine Z.m0 ?_ | refine Z.n0 ?_ | refine Z.o0 ?_ | refine Z.q0 rfl rfl fun F hF => ?_ | refine Z.r0 rfl rfl rfl rfl fun F hF => ?_ | refine Z.H0 rfl rfl (fun F hF => ?_) | refine Z.A0 rfl rfl rfl fun F hF => ?_ | refine Z.B0 rfl rfl rfl fun F hF => ?_ | refine Z.s0 rfl rfl rfl rfl ?_ | refine Z.u0 rfl rfl rfl rfl ?_ | (refine Z.D0 ?_; simp only [St.put]) | refine Z.E0 rfl rfl rfl ?_ | refine Z.F0 rfl rfl rfl ?_ | (refine hF _ _ ?_ ?_ <;> clear hF F) | refine Z.T0 rfl ?_ | refine Z.U0 rfl ?_ | (refine Z.t0 rfl rfl rfl rfl ?_ ?_ <;> (intro hg; simp only [hg, Bool.not_true, Bool.not_false]; simp only [Z.x0] at hg)) | refine And.intro (by omega) ?_ | (refine Z.G0 rfl rfl rfl rfl rfl ?_ ?_ <;> (intro hg; simp only [hg, Bool.not_true, Bool.not_false]; simp only [Z.x0] at hg)) | (refine Z.M0 rfl rfl rfl rfl rfl ?_ ?_ <;> (intro hg; simp only [hg, Bool.not_true, Bool.not_false]; simp only [Z.x0] at hg)) | (refine Z.V0 rfl ?_ ?_ <;> (intro hc; try simp only [hc]; simp only [Z.x0] at hc)))
    refine W_loop [3, 9] (fun n s Hc => Hc = H1 ∧ ∃ t : Nat, n + t = L.length ∧ s = [(3, xl), (9, .v (.int .i64 t))]) L.length ?_ ?_
    · simp only [St.keep, St.get, reduceIte, Nat.reduceEqDiff]
      exact ⟨trivial, 0, by omega, rfl⟩
    rintro n s H2 ⟨rfl, t, hnt, rfl⟩
    have lL := I.long.rd.len vt36
    cases n with
    | zero =>
      obtain rfl : t = L.length := by omega
      have d : decide ((L.length : Int) < (L.length : Int)) = false := by simp
      repeat' (first | ((first | refine Z.W0 ?_ | refine Z.X0 ?_); simp only [go_sem, seval, lL, d]; try (simp (disch := omega) only [Z.w0]; try simp only [go_sem, seval, lL, d])) | (refine hF _ _ ?_; clear hF F) | (refine Z.p0 ?_; simp only [St.put]) | refine Z.a0 ?_ | refine Z.b0 ?_ | refine Z.c0 ?_ | refine Z.d0 ?_ | refine Z.e0 ?_ | refine Z.f0 ?_ | refine Z.g0 ?_ | refine Z.h0 ?_ | refine Z.i0 rfl ?_ | refine Z.I0 ?_ | refine Z.J0 ?_ | refine Z.K0 ?_ | refine Z.L0 ?_ | refine Z.N0 ?_ | refine Z.j0 ?_ | refine Z.k0 ?_ | refine Z.l0 ?_ | refine Z.m0 ?_ | refine Z.n0 ?_ | refine Z.o0 ?_ | refine Z.q0 rfl rfl fun F hF => ?_ | refine Z.r0 rfl rfl rfl rfl fun F hF => ?_ | refine Z.H0 rfl rfl (fun F hF => ?_) | refine Z.A0 rfl rfl rfl fun F hF => ?_ | refine Z.B0 rfl rfl rfl fun F hF => ?_ | refine Z.s0 rfl rfl rfl rfl ?_ | refine Z.u0 rfl rfl rfl rfl ?_ | (refine Z.D0 ?_; simp only [St.put]) | refine Z.E0 rfl rfl rfl ?_ | refine Z.F0 rfl rfl rfl ?_ | (refine hF _ _ ?_ ?_ <;> clear hF F) | refine Z.T0 rfl ?_ | refine Z.U0 rfl ?_ | (refine Z.t0 rfl rfl rfl rfl ?_ ?_ <;> (intro hg; simp only [hg, Bool.not_true, Bool.not_false]; simp only [Z.x0] at hg)) | refine And.intro (by omega) ?_ | (refine Z.G0 rfl rfl rfl rfl rfl ?_ ?_ <;> (intro hg; simp only [hg, Bool.not_true, Bool.not_false]; simp only [Z.x0] at hg)) | (refine Z.M0 rfl rfl rfl rfl rfl ?_ ?_ <;> (intro hg; simp only [hg, Bool.not_true, Bool.not_false]; simp only [Z.x0] at hg)) | (refine Z.V0 rfl ?_ ?_ <;> (intro hc; try simp only [hc]; simp only [Z.x0] at hc)))
      simp only [retK, ares, pack, Tryd.results14, St.get, reduceIte, Nat.reduceEqDiff, aload, arow, List.toArray, Array.toList]
      exact hk _
    | succ n =>
      have htl : t < L.length := by omega
      have d : decide ((t : Int) < (L.length : Int)) = true := by simp; omega
      have wt : IntKind.i64.wrap ((t : Int) + 1) = ((t + 1 : Nat) : Int) := by rw [wrap_of] <;> omega
      obtain ⟨z, kz, hz, hm, hkz, _⟩ := I.ent t htl
      obtain ⟨p, E1, E2⟩ := elL I.long.rd htl hz
      have lz := lenK hm
      have t2 : ((t : Int)).tdiv 2 = ((t / 2 : Nat) : Int) := tdiv_nat t 2
      have ht : (((t / 2 : Nat) : Int)).tmod 250 = ((t / 2 % 250 : Nat) : Int) := tmod_nat (t / 2) 250
      have w0 : IntKind.i64.wrap (((t / 2 : Nat) : Int)) = ((t / 2 : Nat) : Int) := by rw [wrap_of] <;> omega
      have w1 : IntKind.i64.wrap (1 + ((t / 2 % 250 : Nat) : Int)) = ((mkN (t / 2) : Nat) : Int) := by unfold mkN; rw [wrap_of] <;> omega
      have w2 : IntKind.u8.wrap ((mkN (t / 2) : Nat) : Int) = ((mkN (t / 2) : Nat) : Int) := by rw [IntKind.wrap_u8]; unfold mkN; omega
      repeat' (first | ((first | refine Z.W0 ?_ | refine Z.X0 ?_); simp only [go_sem, seval, lL, d]; try (simp (disch := omega) only [Z.w0]; try simp only [go_sem, seval, lL, d])) | (refine hF _ _ ?_; clear hF F) | (refine Z.p0 ?_; simp only [St.put]) | refine Z.a0 ?_ | refine Z.b0 ?_ | refine Z.c0 ?_ | refine Z.d0 ?_ | refine Z.e0 ?_ | refine Z.f0 ?_ | refine Z.g0 ?_ | refine Z.h0 ?_ | refine Z.i0 rfl ?_ | refine Z.I0 ?_ | refine Z.J0 ?_ | refine Z.K0 ?_ | refine Z.L0 ?_ | refine Z.N0 ?_ | refine Z.j0 ?_ | refine Z.k0 ?_ | refine Z.l0 ?_ | refine Z.m0 ?_ | refine Z.n0 ?_ | refine Z.o0 ?_ | refine Z.q0 rfl rfl fun F hF => ?_ | refine Z.r0 rfl rfl rfl rfl fun F hF => ?_ | refine Z.H0 rfl rfl (fun F hF => ?_) | refine Z.A0 rfl rfl rfl fun F hF => ?_ | refine Z.B0 rfl rfl rfl fun F hF => ?_ | refine Z.s0 rfl rfl rfl rfl ?_ | refine Z.u0 rfl rfl rfl rfl ?_ | (refine Z.D0 ?_; simp only [St.put]) | refine Z.E0 rfl rfl rfl ?_ | refine Z.F0 rfl rfl rfl ?_ | (refine hF _ _ ?_ ?_ <;> clear hF F) | refine Z.T0 rfl ?_ | refine Z.U0 rfl ?_ | (refine Z.t0 rfl rfl rfl rfl ?_ ?_ <;> (intro hg; simp only [hg, Bool.not_true, Bool.not_false]; simp only [Z.x0] at hg)) | refine And.intro (by omega) ?_ | (refine Z.G0 rfl rfl rfl rfl rfl ?_ ?_ <;> (intro hg; simp only [hg, Bool.not_true, Bool.not_false]; simp only [Z.x0] at hg)) | (refine Z.M0 rfl rfl rfl rfl rfl ?_ ?_ <;> (intro hg; simp only [hg, Bool.not_true, Bool.not_false]; simp only [Z.x0] at hg)) | (refine Z.V0 rfl ?_ ?_ <;> (intro hc; try simp only [hc]; simp only [Z.x0] at hc)))
      refine W_loop [3, 9, 10] (fun n s Hc => Hc = H2 ∧ ∃ k : Nat, n + k = kz ∧ s = [(3, xl), (9, .v (.int .i64 t)), (10, .v (.int .i64 k))]) kz ?_ ?_
      · simp only [St.keep, St.get, reduceIte, Nat.reduceEqDiff]
        exact ⟨trivial, 0, by omega, rfl⟩
      rintro n2 s H3 ⟨rfl, k, hk2, rfl⟩
      cases n2 with
      | zero =>
        obtain rfl : k = kz := by omega
        have dk : decide ((k : Int) < (k : Int)) = false := by simp
        repeat' (first | ((first | refine Z.W0 ?_ | refine Z.X0 ?_); simp only [go_sem, seval, E1, E2, lz, dk, wt]; try (simp (disch := omega) only [Z.w0]; try simp only [go_sem, seval, E1, E2, lz, dk, wt])) | (refine hF _ _ ?_; clear hF F) | (refine Z.p0 ?_; simp only [St.put]) | refine Z.a0 ?_ | refine Z.b0 ?_ | refine Z.c0 ?_ | refine Z.d0 ?_ | refine Z.e0 ?_ | refine Z.f0 ?_ | refine Z.g0 ?_ | refine Z.h0 ?_ | refine Z.i0 rfl ?_ | refine Z.I0 ?_ | refine Z.J0 ?_ | refine Z.K0 ?_ | refine Z.L0 ?_ | refine Z.N0 ?_ | refine Z.j0 ?_ | refine Z.k0 ?_ | refine Z.l0 ?_ | refine Z.m0 ?_ | refine Z.n0 ?_ | refine Z.o0 ?_ | refine Z.q0 rfl rfl fun F hF => ?_ | refine Z.r0 rfl rfl rfl rfl fun F hF => ?_ | refine Z.H0 rfl rfl (fun F hF => ?_) | refine Z.A0 rfl rfl rfl fun F hF => ?_ | refine Z.B0 rfl rfl rfl fun F hF => ?_ | refine Z.s0 rfl rfl rfl rfl ?_ | refine Z.u0 rfl rfl rfl rfl ?_ | (refine Z.D0 ?_; simp only [St.put]) | refine Z.E0 rfl rfl rfl ?_ | refine Z.F0 rfl rfl rfl ?_ | (refine hF _ _ ?_ ?_ <;> clear hF F) | refine Z.T0 rfl ?_ | refine Z.U0 rfl ?_ | (refine Z.t0 rfl rfl rfl rfl ?_ ?_ <;> (intro hg; simp only [hg, Bool.not_true, Bool.not_false]; simp only [Z.x0] at hg)) | refine And.intro (by omega) ?_ | (refine Z.G0 rfl rfl rfl rfl rfl ?_ ?_ <;> (intro hg; simp only [hg, Bool.not_true, Bool.not_false]; simp only [Z.x0] at hg)) | (refine Z.M0 rfl rfl rfl rfl rfl ?_ ?_ <;> (intro hg; simp only [hg, Bool.not_true, Bool.not_false]; simp only [Z.x0] at hg)) | (refine Z.V0 rfl ?_ ?_ <;> (intro hc; try simp only [hc]; simp only [Z.x0] at hc)))
        simp only [loopK]
        simp only [St.keep, St.get, reduceIte, Nat.reduceEqDiff]
        exact ⟨n, by omega, trivial, t + 1, by omega, rfl⟩
      | succ n2 =>
        have dk : decide ((k : Int) < (kz : Int)) = true := by simp; omega
        have wk : IntKind.i64.wrap ((k : Int) + 1) = ((k + 1 : Nat) : Int) := by rw [wrap_of] <;> omega
        obtain ⟨pe, F1, F2⟩ := elK hm (show k < kz by omega)
        repeat' (first | ((first | refine Z.W0 ?_ | refine Z.X0 ?_); simp only [go_sem, seval, E1, E2, lz, dk, F1, F2, t2, w0, ht, w1, w2, wk]; try (simp (disch := omega) only [Z.w0]; try simp only [go_sem, seval, E1, E2, lz, dk, F1, F2, t2, w0, ht, w1, w2, wk])) | (refine hF _ _ ?_; clear hF F) | (refine Z.p0 ?_; simp only [St.put]) | refine Z.a0 ?_ | refine Z.b0 ?_ | refine Z.c0 ?_ | refine Z.d0 ?_ | refine Z.e0 ?_ | refine Z.f0 ?_ | refine Z.g0 ?_ | refine Z.h0 ?_ | refine Z.i0 rfl ?_ | refine Z.I0 ?_ | refine Z.J0 ?_ | refine Z.K0 ?_ | refine Z.L0 ?_ | refine Z.N0 ?_ | refine Z.j0 ?_ | refine Z.k0 ?_ | refine Z.l0 ?_ | refine Z.m0 ?_ | refine Z.n0 ?_ | refine Z.o0 ?_ | refine Z.q0 rfl rfl fun F hF => ?_ | refine Z.r0 rfl rfl rfl rfl fun F hF => ?_ | refine Z.H0 rfl rfl (fun F hF => ?_) | refine Z.A0 rfl rfl rfl fun F hF => ?_ | refine Z.B0 rfl rfl rfl fun F hF => ?_ | refine Z.s0 rfl rfl rfl rfl ?_ | refine Z.u0 rfl rfl rfl rfl ?_ | (refine Z.D0 ?_; simp only [St.put]) | refine Z.E0 rfl rfl rfl ?_ | refine Z.F0 rfl rfl rfl ?_ | (refine hF _ _ ?_ ?_ <;> clear hF F) | refine Z.T0 rfl ?_ | refine Z.U0 rfl ?_ | (refine Z.t0 rfl rfl rfl rfl ?_ ?_ <;> (intro hg; simp only [hg, Bool.not_true, Bool.not_false]; simp only [Z.x0] at hg)) | refine And.intro (by omega) ?_ | (refine Z.G0 rfl rfl rfl rfl rfl ?_ ?_ <;> (intro hg; simp only [hg, Bool.not_true, Bool.not_false]; simp only [Z.x0] at hg)) | (refine Z.M0 rfl rfl rfl rfl rfl ?_ ?_ <;> (intro hg; simp only [hg, Bool.not_true, Bool.not_false]; simp only [Z.x0] at hg)) | (refine Z.V0 rfl ?_ ?_ <;> (intro hc; try simp only [hc]; simp only [Z.x0] at hc)))
        simp only [loopK]
        simp only [St.keep, St.get, reduceIte, Nat.reduceEqDiff]
        exact ⟨n2, by omega, trivial, k + 1, by omega, rfl⟩
end Go.Proofs.YtboojmppmaepmaaDoor
/- The document's answer: numbers that are read; its reader. -/
namespace Go.Proofs.YtboojmppmaepmaaDoor
set_option maxHeartbeats 8000000
set_option linter.all false
open Go Go.Fw
attribute [local irreducible] Reg RegD seqK blockK loopK retK panK
set_option maxRecDepth 10000

variable {H : AH} {K : AV → AH → Prop} {J : Value → AH → Prop}

theorem refRead_ok {l : Bs} {x : AV} {at_ : Nat} (hx : RdS H 1 (rowsB l) x) (hl : l.length ≤ 1000000000) (ha : at_ + 4 ≤ l.length) (hk : K (.tup [.v (.int .i64 (num l at_ 4)), .v (.int .i64 0)]) H) :
    CallX Tryd.prog 39 [x, .v (.int .i64 at_), .v (.int .i64 4)] H K J := by
  have hlen := lenB hx
  have d1 : decide ((at_ : Int) < 0) = false := by simp
  have d2 : decide ((at_ : Int) > (l.length : Int)) = false := by simp; omega
  have d3 : decide ((l.length : Int) - at_ < 4) = false := by simp; omega
  obtain ⟨seg, hseg⟩ : ∃ seg, seg = (l.drop at_).take 4 := ⟨_, rfl⟩
  have hsl : seg.length = 4 := by rw [hseg]; simp; omega
  have hnum : num l at_ 4 = unle seg := by rw [hseg]; rfl
  rw [hnum] at hk
  refine CallX.of_body Tryd.func39 nm39 rfl ?_; simp only [Tryd.ntmps39, List.length_cons, List.length_nil, argSt, Nat.reduceAdd, Nat.reduceSub]
  repeat' (first | ((first | refine Z.W0 ?_ | refine Z.X0 ?_); simp only [go_sem, seval, hlen, d1, d2, d3]; try (simp (disch := omega) only [Z.w0]; try simp only [go_sem, seval, hlen, d1, d2, d3])) | (refine hF _ _ ?_; clear hF F) | (refine Z.p0 ?_; simp only [St.put]) | refine Z.a0 ?_ | refine Z.b0 ?_ | refine Z.c0 ?_ | refine Z.d0 ?_ | refine Z.e0 ?_ | refine Z.f0 ?_ | refine Z.g0 ?_ | refine Z.h0 ?_ | refine Z.i0 rfl ?_ | refine Z.I0 ?_ | refine Z.J0 ?_ | refine Z.K0 ?_ | refine Z.L0 ?_ | refine Z.N0 ?_ | refine Z.j0 ?_ | refine Z.k0 ?_ | refine Z.l0 ?_ | refine Z.m0 ?_ | refine Z.n0 ?_ | refine Z.o0 ?_ | refine Z.q0 rfl rfl fun F hF => ?_ | refine Z.r0 rfl rfl rfl rfl fun F hF => ?_ | refine Z.H0 rfl rfl (fun F hF => ?_) | refine Z.A0 rfl rfl rfl fun F hF => ?_ | refine Z.B0 rfl rfl rfl fun F hF => ?_ | refine Z.s0 rfl rfl rfl rfl ?_ | refine Z.u0 rfl rfl rfl rfl ?_ | (refine Z.D0 ?_; simp only [St.put]) | refine Z.E0 rfl rfl rfl ?_ | refine Z.F0 rfl rfl rfl ?_ | (refine hF _ _ ?_ ?_ <;> clear hF F) | refine Z.T0 rfl ?_ | refine Z.U0 rfl ?_ | (refine Z.t0 rfl rfl rfl rfl ?_ ?_ <;> (intro hg; simp only [hg, Bool.not_true, Bool.not_false]; simp only [Z.x0] at hg)) | refine And.intro (by omega) ?_ | (refine Z.G0 rfl rfl rfl rfl rfl ?_ ?_ <;> (intro hg; simp only [hg, Bool.not_true, Bool.not_false]; simp only [Z.x0] at hg)) | (refine Z.M0 rfl rfl rfl rfl rfl ?_ ?_ <;> (intro hg; simp only [hg, Bool.not_true, Bool.not_false]; simp only [Z.x0] at hg)) | (refine Z.V0 rfl ?_ ?_ <;> (intro hc; try simp only [hc]; simp only [Z.x0] at hc)))
  refine W_loop [0, 1, 8, 9] (fun m s H' => H' = H ∧ m ≤ 4 ∧ s = [(0, x), (1, .v (.int .i64 at_)), (8, .v (.int .i64 (unle (seg.drop m)))), (9, .v (.int .i64 ((m : Int) - 1)))]) 4 ?_ ?_
  · simp only [St.keep, St.get, reduceIte, Nat.reduceEqDiff]
    refine ⟨trivial, Nat.le_refl _, ?_⟩
    rw [List.drop_of_length_le (by omega)]
    rfl
  rintro m s H2 ⟨rfl, hmm, rfl⟩
  cases m with
  | zero =>
    have d : decide ((((0 : Nat) : Int) - 1) ≥ 0) = false := by decide
    repeat' (first | ((first | refine Z.W0 ?_ | refine Z.X0 ?_); simp only [go_sem, seval, d]; try (simp (disch := omega) only [Z.w0]; try simp only [go_sem, seval, d])) | (refine hF _ _ ?_; clear hF F) | (refine Z.p0 ?_; simp only [St.put]) | refine Z.a0 ?_ | refine Z.b0 ?_ | refine Z.c0 ?_ | refine Z.d0 ?_ | refine Z.e0 ?_ | refine Z.f0 ?_ | refine Z.g0 ?_ | refine Z.h0 ?_ | refine Z.i0 rfl ?_ | refine Z.I0 ?_ | refine Z.J0 ?_ | refine Z.K0 ?_ | refine Z.L0 ?_ | refine Z.N0 ?_ | refine Z.j0 ?_ | refine Z.k0 ?_ | refine Z.l0 ?_ | refine Z.m0 ?_ | refine Z.n0 ?_ | refine Z.o0 ?_ | refine Z.q0 rfl rfl fun F hF => ?_ | refine Z.r0 rfl rfl rfl rfl fun F hF => ?_ | refine Z.H0 rfl rfl (fun F hF => ?_) | refine Z.A0 rfl rfl rfl fun F hF => ?_ | refine Z.B0 rfl rfl rfl fun F hF => ?_ | refine Z.s0 rfl rfl rfl rfl ?_ | refine Z.u0 rfl rfl rfl rfl ?_ | (refine Z.D0 ?_; simp only [St.put]) | refine Z.E0 rfl rfl rfl ?_ | refine Z.F0 rfl rfl rfl ?_ | (refine hF _ _ ?_ ?_ <;> clear hF F) | refine Z.T0 rfl ?_ | refine Z.U0 rfl ?_ | (refine Z.t0 rfl rfl rfl rfl ?_ ?_ <;> (intro hg; simp only [hg, Bool.not_true, Bool.not_false]; simp only [Z.x0] at hg)) | refine And.intro (by omega) ?_ | (refine Z.G0 rfl rfl rfl rfl rfl ?_ ?_ <;> (intro hg; simp only [hg, Bool.not_true, Bool.not_false]; simp only [Z.x0] at hg)) | (refine Z.M0 rfl rfl rfl rfl rfl ?_ ?_ <;> (intro hg; simp only [hg, Bool.not_true, Bool.not_false]; simp only [Z.x0] at hg)) | (refine Z.V0 rfl ?_ ?_ <;> (intro hc; try simp only [hc]; simp only [Z.x0] at hc)))
    simp only [retK, ares, pack, Tryd.results39, St.get, reduceIte, Nat.reduceEqDiff, aload, arow, List.toArray, Array.toList]
    exact hk
  | succ m =>
    have e0 : ((m + 1 : Nat) : Int) - 1 = (m : Int) := by omega
    have d : decide ((m : Int) ≥ 0) = true := by simp
    have w1 : IntKind.i64.wrap ((at_ : Int) + m) = ((at_ + m : Nat) : Int) := by rw [wrap_of] <;> omega
    have w3 : IntKind.i64.wrap ((m : Int) - 1) = (m : Int) - 1 := by rw [wrap_of] <;> omega
    have hc0 : l[at_ + m]'(by omega) = seg[m]'(by omega) := by simp [hseg]
    obtain ⟨q, E⟩ := elB hx (show at_ + m < l.length by omega)
    rw [hc0] at E
    have hdr : seg.drop m = seg[m]'(by omega) :: seg.drop (m + 1) := List.drop_eq_getElem_cons (by omega)
    have hlt := unle_lt (seg.drop (m + 1))
    have hle8 : 256 ^ (seg.drop (m + 1)).length ≤ 256 ^ 3 := Nat.pow_le_pow_right (by decide) (by simp; omega)
    have hc := (seg[m]'(by omega)).toNat_lt
    have hun : unle (seg.drop m) = (seg[m]'(by omega)).toNat + 256 * unle (seg.drop (m + 1)) := by rw [hdr]; rfl
    have wm : IntKind.i64.wrap (256 * ((unle (seg.drop (m + 1)) : Nat) : Int)) = ((256 * unle (seg.drop (m + 1)) : Nat) : Int) := by rw [wrap_of] <;> omega
    have wc : IntKind.i64.wrap (((seg[m]'(by omega)).toNat : Nat) : Int) = (((seg[m]'(by omega)).toNat : Nat) : Int) := by rw [wrap_of] <;> omega
    have wa : IntKind.i64.wrap (((256 * unle (seg.drop (m + 1)) : Nat) : Int) + (((seg[m]'(by omega)).toNat : Nat) : Int)) = ((unle (seg.drop m) : Nat) : Int) := by rw [hun, wrap_of] <;> omega
    rw [e0]
    repeat' (first | ((first | refine Z.W0 ?_ | refine Z.X0 ?_); simp only [go_sem, seval, d, w1, E.idx, E.load, wm, wc, wa, w3]; try (simp (disch := omega) only [Z.w0]; try simp only [go_sem, seval, d, w1, E.idx, E.load, wm, wc, wa, w3])) | (refine hF _ _ ?_; clear hF F) | (refine Z.p0 ?_; simp only [St.put]) | refine Z.a0 ?_ | refine Z.b0 ?_ | refine Z.c0 ?_ | refine Z.d0 ?_ | refine Z.e0 ?_ | refine Z.f0 ?_ | refine Z.g0 ?_ | refine Z.h0 ?_ | refine Z.i0 rfl ?_ | refine Z.I0 ?_ | refine Z.J0 ?_ | refine Z.K0 ?_ | refine Z.L0 ?_ | refine Z.N0 ?_ | refine Z.j0 ?_ | refine Z.k0 ?_ | refine Z.l0 ?_ | refine Z.m0 ?_ | refine Z.n0 ?_ | refine Z.o0 ?_ | refine Z.q0 rfl rfl fun F hF => ?_ | refine Z.r0 rfl rfl rfl rfl fun F hF => ?_ | refine Z.H0 rfl rfl (fun F hF => ?_) | refine Z.A0 rfl rfl rfl fun F hF => ?_ | refine Z.B0 rfl rfl rfl fun F hF => ?_ | refine Z.s0 rfl rfl rfl rfl ?_ | refine Z.u0 rfl rfl rfl rfl ?_ | (refine Z.D0 ?_; simp only [St.put]) | refine Z.E0 rfl rfl rfl ?_ | refine Z.F0 rfl rfl rfl ?_ | (refine hF _ _ ?_ ?_ <;> clear hF F) | refine Z.T0 rfl ?_ | refine Z.U0 rfl ?_ | (refine Z.t0 rfl rfl rfl rfl ?_ ?_ <;> (intro hg; simp only [hg, Bool.not_true, Bool.not_false]; simp only [Z.x0] at hg)) | refine And.intro (by omega) ?_ | (refine Z.G0 rfl rfl rfl rfl rfl ?_ ?_ <;> (intro hg; simp only [hg, Bool.not_true, Bool.not_false]; simp only [Z.x0] at hg)) | (refine Z.M0 rfl rfl rfl rfl rfl ?_ ?_ <;> (intro hg; simp only [hg, Bool.not_true, Bool.not_false]; simp only [Z.x0] at hg)) | (refine Z.V0 rfl ?_ ?_ <;> (intro hc; try simp only [hc]; simp only [Z.x0] at hc)))
    simp only [loopK]
    simp only [St.keep, St.get, reduceIte, Nat.reduceEqDiff]
    exact ⟨m, by omega, trivial, by omega, rfl⟩

/-- What the first four bytes say, or -1. -/
def lenOf (l : Bs) : Int := if l.length < 4 then -1 else num l 0 4
theorem refLen_ok {p : Nat} {x : AV} {l : Bs} {gone : Bool} (h : Rdr H p x l gone) (hk : K (.v (.int .i64 (lenOf l))) H) : CallX Tryd.prog 43 [.ptr p 2 0 0] H K J := by
  obtain ⟨h1, h2, h3⟩ := h
  have hlen := lenB h2.rd
  unfold lenOf at hk
  refine CallX.of_body Tryd.func43 nm43 rfl ?_; simp only [Tryd.ntmps43, List.length_cons, List.length_nil, argSt, Nat.reduceAdd, Nat.reduceSub]
  by_cases c : l.length < 4
  · have d : decide ((l.length : Int) < 4) = true := by simp; omega
    rw [if_pos c] at hk
    repeat' (first | ((first | refine Z.W0 ?_ | refine Z.X0 ?_); simp only [go_sem, seval, h1, hlen, d]; try (simp (disch := omega) only [Z.w0]; try simp only [go_sem, seval, h1, hlen, d])) | (refine hF _ _ ?_; clear hF F) | (refine Z.p0 ?_; simp only [St.put]) | refine Z.a0 ?_ | refine Z.b0 ?_ | refine Z.c0 ?_ | refine Z.d0 ?_ | refine Z.e0 ?_ | refine Z.f0 ?_ | refine Z.g0 ?_ | refine Z.h0 ?_ | refine Z.i0 rfl ?_ | refine Z.I0 ?_ | refine Z.J0 ?_ | refine Z.K0 ?_ | refine Z.L0 ?_ | refine Z.N0 ?_ | refine Z.j0 ?_ | refine Z.k0 ?_ | refine Z.l0 ?_ | refine Z.m0 ?_ | refine Z.n0 ?_ | refine Z.o0 ?_ | refine Z.q0 rfl rfl fun F hF => ?_ | refine Z.r0 rfl rfl rfl rfl fun F hF => ?_ | refine Z.H0 rfl rfl (fun F hF => ?_) | refine Z.A0 rfl rfl rfl fun F hF => ?_ | refine Z.B0 rfl rfl rfl fun F hF => ?_ | refine Z.s0 rfl rfl rfl rfl ?_ | refine Z.u0 rfl rfl rfl rfl ?_ | (refine Z.D0 ?_; simp only [St.put]) | refine Z.E0 rfl rfl rfl ?_ | refine Z.F0 rfl rfl rfl ?_ | (refine hF _ _ ?_ ?_ <;> clear hF F) | refine Z.T0 rfl ?_ | refine Z.U0 rfl ?_ | (refine Z.t0 rfl rfl rfl rfl ?_ ?_ <;> (intro hg; simp only [hg, Bool.not_true, Bool.not_false]; simp only [Z.x0] at hg)) | refine And.intro (by omega) ?_ | (refine Z.G0 rfl rfl rfl rfl rfl ?_ ?_ <;> (intro hg; simp only [hg, Bool.not_true, Bool.not_false]; simp only [Z.x0] at hg)) | (refine Z.M0 rfl rfl rfl rfl rfl ?_ ?_ <;> (intro hg; simp only [hg, Bool.not_true, Bool.not_false]; simp only [Z.x0] at hg)) | (refine Z.V0 rfl ?_ ?_ <;> (intro hc; try simp only [hc]; simp only [Z.x0] at hc)))
    simp only [retK, ares, pack, Tryd.results43, St.get, reduceIte, Nat.reduceEqDiff, aload, arow, List.toArray, Array.toList]
    exact hk
  · have d : decide ((l.length : Int) < 4) = false := by simp; omega
    rw [if_neg c] at hk
    repeat' (first | ((first | refine Z.W0 ?_ | refine Z.X0 ?_); simp only [go_sem, seval, h1, hlen, d]; try (simp (disch := omega) only [Z.w0]; try simp only [go_sem, seval, h1, hlen, d])) | (refine hF _ _ ?_; clear hF F) | (refine Z.p0 ?_; simp only [St.put]) | refine Z.a0 ?_ | refine Z.b0 ?_ | refine Z.c0 ?_ | refine Z.d0 ?_ | refine Z.e0 ?_ | refine Z.f0 ?_ | refine Z.g0 ?_ | refine Z.h0 ?_ | refine Z.i0 rfl ?_ | refine Z.I0 ?_ | refine Z.J0 ?_ | refine Z.K0 ?_ | refine Z.L0 ?_ | refine Z.N0 ?_ | refine Z.j0 ?_ | refine Z.k0 ?_ | refine Z.l0 ?_ | refine Z.m0 ?_ | refine Z.n0 ?_ | refine Z.o0 ?_ | refine Z.q0 rfl rfl fun F hF => ?_ | refine Z.r0 rfl rfl rfl rfl fun F hF => ?_ | refine Z.H0 rfl rfl (fun F hF => ?_) | refine Z.A0 rfl rfl rfl fun F hF => ?_ | refine Z.B0 rfl rfl rfl fun F hF => ?_ | refine Z.s0 rfl rfl rfl rfl ?_ | refine Z.u0 rfl rfl rfl rfl ?_ | (refine Z.D0 ?_; simp only [St.put]) | refine Z.E0 rfl rfl rfl ?_ | refine Z.F0 rfl rfl rfl ?_ | (refine hF _ _ ?_ ?_ <;> clear hF F) | refine Z.T0 rfl ?_ | refine Z.U0 rfl ?_ | (refine Z.t0 rfl rfl rfl rfl ?_ ?_ <;> (intro hg; simp only [hg, Bool.not_true, Bool.not_false]; simp only [Z.x0] at hg)) | refine And.intro (by omega) ?_ | (refine Z.G0 rfl rfl rfl rfl rfl ?_ ?_ <;> (intro hg; simp only [hg, Bool.not_true, Bool.not_false]; simp only [Z.x0] at hg)) | (refine Z.M0 rfl rfl rfl rfl rfl ?_ ?_ <;> (intro hg; simp only [hg, Bool.not_true, Bool.not_false]; simp only [Z.x0] at hg)) | (refine Z.V0 rfl ?_ ?_ <;> (intro hc; try simp only [hc]; simp only [Z.x0] at hc)))
    refine refRead_ok (at_ := 0) h2.rd h3 (by omega) ?_
    (refine hF _ _ ?_; clear hF F)
    repeat' (first | ((first | refine Z.W0 ?_ | refine Z.X0 ?_); simp only [go_sem, seval]; try (simp (disch := omega) only [Z.w0]; try simp only [go_sem, seval])) | (refine hF _ _ ?_; clear hF F) | (refine Z.p0 ?_; simp only [St.put]) | refine Z.a0 ?_ | refine Z.b0 ?_ | refine Z.c0 ?_ | refine Z.d0 ?_ | refine Z.e0 ?_ | refine Z.f0 ?_ | refine Z.g0 ?_ | refine Z.h0 ?_ | refine Z.i0 rfl ?_ | refine Z.I0 ?_ | refine Z.J0 ?_ | refine Z.K0 ?_ | refine Z.L0 ?_ | refine Z.N0 ?_ | refine Z.j0 ?_ | refine Z.k0 ?_ | refine Z.l0 ?_ | refine Z.m0 ?_ | refine Z.n0 ?_ | refine Z.o0 ?_ | refine Z.q0 rfl rfl fun F hF => ?_ | refine Z.r0 rfl rfl rfl rfl fun F hF => ?_ | refine Z.H0 rfl rfl (fun F hF => ?_) | refine Z.A0 rfl rfl rfl fun F hF => ?_ | refine Z.B0 rfl rfl rfl fun F hF => ?_ | refine Z.s0 rfl rfl rfl rfl ?_ | refine Z.u0 rfl rfl rfl rfl ?_ | (refine Z.D0 ?_; simp only [St.put]) | refine Z.E0 rfl rfl rfl ?_ | refine Z.F0 rfl rfl rfl ?_ | (refine hF _ _ ?_ ?_ <;> clear hF F) | refine Z.T0 rfl ?_ | refine Z.U0 rfl ?_ | (refine Z.t0 rfl rfl rfl rfl ?_ ?_ <;> (intro hg; simp only [hg, Bool.not_true, Bool.not_false]; simp only [Z.x0] at hg)) | refine And.intro (by omega) ?_ | (refine Z.G0 rfl rfl rfl rfl rfl ?_ ?_ <;> (intro hg; simp only [hg, Bool.not_true, Bool.not_false]; simp only [Z.x0] at hg)) | (refine Z.M0 rfl rfl rfl rfl rfl ?_ ?_ <;> (intro hg; simp only [hg, Bool.not_true, Bool.not_false]; simp only [Z.x0] at hg)) | (refine Z.V0 rfl ?_ ?_ <;> (intro hc; try simp only [hc]; simp only [Z.x0] at hc)))
    simp only [retK, ares, pack, Tryd.results43, St.get, reduceIte, Nat.reduceEqDiff, aload, arow, List.toArray, Array.toList]
    exact hk

theorem lenOf_bad (l : Bs) : (decide (lenOf l ≥ 0) && (decide (lenOf l < 26) || decide (lenOf l > 131072))) = (decide (4 ≤ l.length) && !lenOk (num l 0 4)) := by
  unfold lenOf lenOk
  rw [Bool.eq_iff_iff]
  by_cases c : l.length < 4
  · rw [if_pos c]; simp; omega
  · rw [if_neg c]; simp; omega
theorem lenOf_ready (l : Bs) : (decide (lenOf l ≥ 0) && decide (lenOf l ≤ (l.length : Int))) = ready l := by
  unfold lenOf ready
  rw [Bool.eq_iff_iff]
  by_cases c : l.length < 4
  · rw [if_pos c]; simp; omega
  · rw [if_neg c]; simp; omega

theorem refSettle_ok {p : Nat} {x : AV} {l : Bs} {gone : Bool} (h : Rdr H p x l gone) (hk : ∀ H' x', Went p H x H' x' → Rdr H' p x' (settle l gone).1 (settle l gone).2 → K (.tup []) H') :
    CallX Tryd.prog 42 [.ptr p 2 0 0] H K J := by
  obtain ⟨h1, h2, h3⟩ := id h
  have hb := lenOf_bad l
  refine CallX.of_body Tryd.func42 nm42 rfl ?_; simp only [Tryd.ntmps42, List.length_cons, List.length_nil, argSt, Nat.reduceAdd, Nat.reduceSub]
  repeat' (first | ((first | refine Z.W0 ?_ | refine Z.X0 ?_); simp only [go_sem, seval]; try (simp (disch := omega) only [Z.w0]; try simp only [go_sem, seval])) | (refine hF _ _ ?_; clear hF F) | (refine Z.p0 ?_; simp only [St.put]) | refine Z.a0 ?_ | refine Z.b0 ?_ | refine Z.c0 ?_ | refine Z.d0 ?_ | refine Z.e0 ?_ | refine Z.f0 ?_ | refine Z.g0 ?_ | refine Z.h0 ?_ | refine Z.i0 rfl ?_ | refine Z.I0 ?_ | refine Z.J0 ?_ | refine Z.K0 ?_ | refine Z.L0 ?_ | refine Z.N0 ?_ | refine Z.j0 ?_ | refine Z.k0 ?_ | refine Z.l0 ?_ | refine Z.m0 ?_ | refine Z.n0 ?_ | refine Z.o0 ?_ | refine Z.q0 rfl rfl fun F hF => ?_ | refine Z.r0 rfl rfl rfl rfl fun F hF => ?_ | refine Z.H0 rfl rfl (fun F hF => ?_) | refine Z.A0 rfl rfl rfl fun F hF => ?_ | refine Z.B0 rfl rfl rfl fun F hF => ?_ | refine Z.s0 rfl rfl rfl rfl ?_ | refine Z.u0 rfl rfl rfl rfl ?_ | (refine Z.D0 ?_; simp only [St.put]) | refine Z.E0 rfl rfl rfl ?_ | refine Z.F0 rfl rfl rfl ?_ | (refine hF _ _ ?_ ?_ <;> clear hF F) | refine Z.T0 rfl ?_ | refine Z.U0 rfl ?_ | (refine Z.t0 rfl rfl rfl rfl ?_ ?_ <;> (intro hg; simp only [hg, Bool.not_true, Bool.not_false]; simp only [Z.x0] at hg)) | refine And.intro (by omega) ?_ | (refine Z.G0 rfl rfl rfl rfl rfl ?_ ?_ <;> (intro hg; simp only [hg, Bool.not_true, Bool.not_false]; simp only [Z.x0] at hg)) | (refine Z.M0 rfl rfl rfl rfl rfl ?_ ?_ <;> (intro hg; simp only [hg, Bool.not_true, Bool.not_false]; simp only [Z.x0] at hg)) | (refine Z.V0 rfl ?_ ?_ <;> (intro hc; try simp only [hc]; simp only [Z.x0] at hc)))
  refine refLen_ok h ?_
  (refine hF _ _ ?_; clear hF F)
  cases d0 : decide (lenOf l ≥ 0) <;> cases d1 : decide (lenOf l < 26) <;> cases d2 : decide (lenOf l > 131072)
  all_goals
    rw [d0, d1, d2] at hb
    repeat' (first | ((first | refine Z.W0 ?_ | refine Z.X0 ?_); simp only [go_sem, seval, d0, d1, d2, h1]; try (simp (disch := omega) only [Z.w0]; try simp only [go_sem, seval, d0, d1, d2, h1])) | (refine hF _ _ ?_; clear hF F) | (refine Z.p0 ?_; simp only [St.put]) | refine Z.a0 ?_ | refine Z.b0 ?_ | refine Z.c0 ?_ | refine Z.d0 ?_ | refine Z.e0 ?_ | refine Z.f0 ?_ | refine Z.g0 ?_ | refine Z.h0 ?_ | refine Z.i0 rfl ?_ | refine Z.I0 ?_ | refine Z.J0 ?_ | refine Z.K0 ?_ | refine Z.L0 ?_ | refine Z.N0 ?_ | refine Z.j0 ?_ | refine Z.k0 ?_ | refine Z.l0 ?_ | refine Z.m0 ?_ | refine Z.n0 ?_ | refine Z.o0 ?_ | refine Z.q0 rfl rfl fun F hF => ?_ | refine Z.r0 rfl rfl rfl rfl fun F hF => ?_ | refine Z.H0 rfl rfl (fun F hF => ?_) | refine Z.A0 rfl rfl rfl fun F hF => ?_ | refine Z.B0 rfl rfl rfl fun F hF => ?_ | refine Z.s0 rfl rfl rfl rfl ?_ | refine Z.u0 rfl rfl rfl rfl ?_ | (refine Z.D0 ?_; simp only [St.put]) | refine Z.E0 rfl rfl rfl ?_ | refine Z.F0 rfl rfl rfl ?_ | (refine hF _ _ ?_ ?_ <;> clear hF F) | refine Z.T0 rfl ?_ | refine Z.U0 rfl ?_ | (refine Z.t0 rfl rfl rfl rfl ?_ ?_ <;> (intro hg; simp only [hg, Bool.not_true, Bool.not_false]; simp only [Z.x0] at hg)) | refine And.intro (by omega) ?_ | (refine Z.G0 rfl rfl rfl rfl rfl ?_ ?_ <;> (intro hg; simp only [hg, Bool.not_true, Bool.not_false]; simp only [Z.x0] at hg)) | (refine Z.M0 rfl rfl rfl rfl rfl ?_ ?_ <;> (intro hg; simp only [hg, Bool.not_true, Bool.not_false]; simp only [Z.x0] at hg)) | (refine Z.V0 rfl ?_ ?_ <;> (intro hc; try simp only [hc]; simp only [Z.x0] at hc)))
    simp only [retK, ares, pack, Tryd.results42, St.get, reduceIte, Nat.reduceEqDiff, aload, arow, List.toArray, Array.toList]
    simp only [Bool.and_true, Bool.and_false, Bool.true_and, Bool.false_and, Bool.or_true, Bool.or_false, Bool.true_or, Bool.false_or, Bool.or_self, Bool.and_self] at hb
    first
      | (have e : settle l gone = (l, gone) := if_neg (fun e => by rw [decide_eq_true e.1, e.2] at hb; cases hb)
         rw [e] at hk
         exact hk _ x (.refl _ _ _) ⟨h1, h2, h3⟩)
      | (have e : settle l gone = ([], true) := if_pos (by simpa using hb.symm)
         rw [e] at hk
         refine hk _ (.v (.slice none 0 0)) ⟨fun c o hc hp _ => ?_, fun c hc => by cases hc⟩ ⟨AH.set_same _ _ _, .nil, by simp⟩
         rw [AH.set_ne _ _ hp]
         exact hc)

theorem refFeed_ok {p : Nat} {x z : AV} {l b : Bs} {gone : Bool} (h : Rdr H p x l gone) (hz : RdS H 1 (rowsB b) z) (hb : l.length + b.length ≤ 1000000000) (hk : ∀ H' x', Went p H x H' x' → Rdr H' p x' (feed l gone b).1 (feed l gone b).2 → K (.tup []) H') :
    CallX Tryd.prog 22 [.ptr p 2 0 0, z] H K J := by
  obtain ⟨h1, h2, h3⟩ := id h
  refine CallX.of_body Tryd.func22 nm22 rfl ?_; simp only [Tryd.ntmps22, List.length_cons, List.length_nil, argSt, Nat.reduceAdd, Nat.reduceSub]
  cases gone
  · repeat' (first | ((first | refine Z.W0 ?_ | refine Z.X0 ?_); simp only [go_sem, seval, h1]; try (simp (disch := omega) only [Z.w0]; try simp only [go_sem, seval, h1])) | (refine hF _ _ ?_; clear hF F) | (refine Z.p0 ?_; simp only [St.put]) | refine Z.a0 ?_ | refine Z.b0 ?_ | refine Z.c0 ?_ | refine Z.d0 ?_ | refine Z.e0 ?_ | refine Z.f0 ?_ | refine Z.g0 ?_ | refine Z.h0 ?_ | refine Z.i0 rfl ?_ | refine Z.I0 ?_ | refine Z.J0 ?_ | refine Z.K0 ?_ | refine Z.L0 ?_ | refine Z.N0 ?_ | refine Z.j0 ?_ | refine Z.k0 ?_ | refine Z.l0 ?_ | refine Z.m0 ?_ | refine Z.n0 ?_ | refine Z.o0 ?_ | refine Z.q0 rfl rfl fun F hF => ?_ | refine Z.r0 rfl rfl rfl rfl fun F hF => ?_ | refine Z.H0 rfl rfl (fun F hF => ?_) | refine Z.A0 rfl rfl rfl fun F hF => ?_ | refine Z.B0 rfl rfl rfl fun F hF => ?_ | refine Z.s0 rfl rfl rfl rfl ?_ | refine Z.u0 rfl rfl rfl rfl ?_ | (refine Z.D0 ?_; simp only [St.put]) | refine Z.E0 rfl rfl rfl ?_ | refine Z.F0 rfl rfl rfl ?_ | (refine hF _ _ ?_ ?_ <;> clear hF F) | refine Z.T0 rfl ?_ | refine Z.U0 rfl ?_ | (refine Z.t0 rfl rfl rfl rfl ?_ ?_ <;> (intro hg; simp only [hg, Bool.not_true, Bool.not_false]; simp only [Z.x0] at hg)) | refine And.intro (by omega) ?_ | (refine Z.G0 rfl rfl rfl rfl rfl ?_ ?_ <;> (intro hg; simp only [hg, Bool.not_true, Bool.not_false]; simp only [Z.x0] at hg)) | (refine Z.M0 rfl rfl rfl rfl rfl ?_ ?_ <;> (intro hg; simp only [hg, Bool.not_true, Bool.not_false]; simp only [Z.x0] at hg)) | (refine Z.V0 rfl ?_ ?_ <;> (intro hc; try simp only [hc]; simp only [Z.x0] at hc)))
    obtain ⟨H0, hon, hsame⟩ := h2.on
    refine hon.app vt30 rfl rfl Tryd.underlying30 nint30 hz.src (by simp; omega) fun x' H' hx' => ?_
    (refine hF _ _ ?_; clear hF F)
    have T := hon.turned hx'
    have h1' := T.keep p _ h1 h.ne
    repeat' (first | ((first | refine Z.W0 ?_ | refine Z.X0 ?_); simp only [go_sem, seval, h1', hx'.cell, hx'.ow.rd.cells]; try (simp (disch := omega) only [Z.w0]; try simp only [go_sem, seval, h1', hx'.cell, hx'.ow.rd.cells])) | (refine hF _ _ ?_; clear hF F) | (refine Z.p0 ?_; simp only [St.put]) | refine Z.a0 ?_ | refine Z.b0 ?_ | refine Z.c0 ?_ | refine Z.d0 ?_ | refine Z.e0 ?_ | refine Z.f0 ?_ | refine Z.g0 ?_ | refine Z.h0 ?_ | refine Z.i0 rfl ?_ | refine Z.I0 ?_ | refine Z.J0 ?_ | refine Z.K0 ?_ | refine Z.L0 ?_ | refine Z.N0 ?_ | refine Z.j0 ?_ | refine Z.k0 ?_ | refine Z.l0 ?_ | refine Z.m0 ?_ | refine Z.n0 ?_ | refine Z.o0 ?_ | refine Z.q0 rfl rfl fun F hF => ?_ | refine Z.r0 rfl rfl rfl rfl fun F hF => ?_ | refine Z.H0 rfl rfl (fun F hF => ?_) | refine Z.A0 rfl rfl rfl fun F hF => ?_ | refine Z.B0 rfl rfl rfl fun F hF => ?_ | refine Z.s0 rfl rfl rfl rfl ?_ | refine Z.u0 rfl rfl rfl rfl ?_ | (refine Z.D0 ?_; simp only [St.put]) | refine Z.E0 rfl rfl rfl ?_ | refine Z.F0 rfl rfl rfl ?_ | (refine hF _ _ ?_ ?_ <;> clear hF F) | refine Z.T0 rfl ?_ | refine Z.U0 rfl ?_ | (refine Z.t0 rfl rfl rfl rfl ?_ ?_ <;> (intro hg; simp only [hg, Bool.not_true, Bool.not_false]; simp only [Z.x0] at hg)) | refine And.intro (by omega) ?_ | (refine Z.G0 rfl rfl rfl rfl rfl ?_ ?_ <;> (intro hg; simp only [hg, Bool.not_true, Bool.not_false]; simp only [Z.x0] at hg)) | (refine Z.M0 rfl rfl rfl rfl rfl ?_ ?_ <;> (intro hg; simp only [hg, Bool.not_true, Bool.not_false]; simp only [Z.x0] at hg)) | (refine Z.V0 rfl ?_ ?_ <;> (intro hc; try simp only [hc]; simp only [Z.x0] at hc)))
    rw [← rowsB_append] at hx'
    have hne : x'.blk ≠ some p := fun e => by
      have := hx'.ow.atb e
      rw [h1'] at this; cases this
    refine refSettle_ok (p := p) (x := x') (l := l ++ b) (gone := false) ⟨AH.set_same _ _ _, hx'.ow.keep fun c hc => AH.set_ne _ _ fun e => hne (e ▸ hc), by simp; omega⟩ fun H2 x2 W2 R2 => ?_
    (refine hF _ _ ?_; clear hF F)
    repeat' (first | ((first | refine Z.W0 ?_ | refine Z.X0 ?_); simp only [go_sem, seval]; try (simp (disch := omega) only [Z.w0]; try simp only [go_sem, seval])) | (refine hF _ _ ?_; clear hF F) | (refine Z.p0 ?_; simp only [St.put]) | refine Z.a0 ?_ | refine Z.b0 ?_ | refine Z.c0 ?_ | refine Z.d0 ?_ | refine Z.e0 ?_ | refine Z.f0 ?_ | refine Z.g0 ?_ | refine Z.h0 ?_ | refine Z.i0 rfl ?_ | refine Z.I0 ?_ | refine Z.J0 ?_ | refine Z.K0 ?_ | refine Z.L0 ?_ | refine Z.N0 ?_ | refine Z.j0 ?_ | refine Z.k0 ?_ | refine Z.l0 ?_ | refine Z.m0 ?_ | refine Z.n0 ?_ | refine Z.o0 ?_ | refine Z.q0 rfl rfl fun F hF => ?_ | refine Z.r0 rfl rfl rfl rfl fun F hF => ?_ | refine Z.H0 rfl rfl (fun F hF => ?_) | refine Z.A0 rfl rfl rfl fun F hF => ?_ | refine Z.B0 rfl rfl rfl fun F hF => ?_ | refine Z.s0 rfl rfl rfl rfl ?_ | refine Z.u0 rfl rfl rfl rfl ?_ | (refine Z.D0 ?_; simp only [St.put]) | refine Z.E0 rfl rfl rfl ?_ | refine Z.F0 rfl rfl rfl ?_ | (refine hF _ _ ?_ ?_ <;> clear hF F) | refine Z.T0 rfl ?_ | refine Z.U0 rfl ?_ | (refine Z.t0 rfl rfl rfl rfl ?_ ?_ <;> (intro hg; simp only [hg, Bool.not_true, Bool.not_false]; simp only [Z.x0] at hg)) | refine And.intro (by omega) ?_ | (refine Z.G0 rfl rfl rfl rfl rfl ?_ ?_ <;> (intro hg; simp only [hg, Bool.not_true, Bool.not_false]; simp only [Z.x0] at hg)) | (refine Z.M0 rfl rfl rfl rfl rfl ?_ ?_ <;> (intro hg; simp only [hg, Bool.not_true, Bool.not_false]; simp only [Z.x0] at hg)) | (refine Z.V0 rfl ?_ ?_ <;> (intro hc; try simp only [hc]; simp only [Z.x0] at hc)))
    simp only [retK, ares, pack, Tryd.results22, St.get, reduceIte, Nat.reduceEqDiff, aload, arow, List.toArray, Array.toList]
    refine hk _ x2 (Went.trans (x1 := x') ⟨fun c o hc hp hx => ?_, fun c hc => .inr (T.new c hc)⟩ W2) R2
    rw [AH.set_ne _ _ hp]
    exact T.keep c o hc hx
  · repeat' (first | ((first | refine Z.W0 ?_ | refine Z.X0 ?_); simp only [go_sem, seval, h1]; try (simp (disch := omega) only [Z.w0]; try simp only [go_sem, seval, h1])) | (refine hF _ _ ?_; clear hF F) | (refine Z.p0 ?_; simp only [St.put]) | refine Z.a0 ?_ | refine Z.b0 ?_ | refine Z.c0 ?_ | refine Z.d0 ?_ | refine Z.e0 ?_ | refine Z.f0 ?_ | refine Z.g0 ?_ | refine Z.h0 ?_ | refine Z.i0 rfl ?_ | refine Z.I0 ?_ | refine Z.J0 ?_ | refine Z.K0 ?_ | refine Z.L0 ?_ | refine Z.N0 ?_ | refine Z.j0 ?_ | refine Z.k0 ?_ | refine Z.l0 ?_ | refine Z.m0 ?_ | refine Z.n0 ?_ | refine Z.o0 ?_ | refine Z.q0 rfl rfl fun F hF => ?_ | refine Z.r0 rfl rfl rfl rfl fun F hF => ?_ | refine Z.H0 rfl rfl (fun F hF => ?_) | refine Z.A0 rfl rfl rfl fun F hF => ?_ | refine Z.B0 rfl rfl rfl fun F hF => ?_ | refine Z.s0 rfl rfl rfl rfl ?_ | refine Z.u0 rfl rfl rfl rfl ?_ | (refine Z.D0 ?_; simp only [St.put]) | refine Z.E0 rfl rfl rfl ?_ | refine Z.F0 rfl rfl rfl ?_ | (refine hF _ _ ?_ ?_ <;> clear hF F) | refine Z.T0 rfl ?_ | refine Z.U0 rfl ?_ | (refine Z.t0 rfl rfl rfl rfl ?_ ?_ <;> (intro hg; simp only [hg, Bool.not_true, Bool.not_false]; simp only [Z.x0] at hg)) | refine And.intro (by omega) ?_ | (refine Z.G0 rfl rfl rfl rfl rfl ?_ ?_ <;> (intro hg; simp only [hg, Bool.not_true, Bool.not_false]; simp only [Z.x0] at hg)) | (refine Z.M0 rfl rfl rfl rfl rfl ?_ ?_ <;> (intro hg; simp only [hg, Bool.not_true, Bool.not_false]; simp only [Z.x0] at hg)) | (refine Z.V0 rfl ?_ ?_ <;> (intro hc; try simp only [hc]; simp only [Z.x0] at hc)))
    simp only [retK, ares, pack, Tryd.results22, St.get, reduceIte, Nat.reduceEqDiff, aload, arow, List.toArray, Array.toList]
    exact hk _ x (.refl _ _ _) ⟨h1, h2, h3⟩

theorem refReady_ok {p : Nat} {x : AV} {l : Bs} {gone : Bool} (h : Rdr H p x l gone) (hk : K (.v (.bool (ready l))) H) : CallX Tryd.prog 26 [.ptr p 2 0 0] H K J := by
  obtain ⟨h1, h2, h3⟩ := id h
  have hlen := lenB h2.rd
  have hr := lenOf_ready l
  rw [← hr] at hk
  refine CallX.of_body Tryd.func26 nm26 rfl ?_; simp only [Tryd.ntmps26, List.length_cons, List.length_nil, argSt, Nat.reduceAdd, Nat.reduceSub]
  repeat' (first | ((first | refine Z.W0 ?_ | refine Z.X0 ?_); simp only [go_sem, seval]; try (simp (disch := omega) only [Z.w0]; try simp only [go_sem, seval])) | (refine hF _ _ ?_; clear hF F) | (refine Z.p0 ?_; simp only [St.put]) | refine Z.a0 ?_ | refine Z.b0 ?_ | refine Z.c0 ?_ | refine Z.d0 ?_ | refine Z.e0 ?_ | refine Z.f0 ?_ | refine Z.g0 ?_ | refine Z.h0 ?_ | refine Z.i0 rfl ?_ | refine Z.I0 ?_ | refine Z.J0 ?_ | refine Z.K0 ?_ | refine Z.L0 ?_ | refine Z.N0 ?_ | refine Z.j0 ?_ | refine Z.k0 ?_ | refine Z.l0 ?_ | refine Z.m0 ?_ | refine Z.n0 ?_ | refine Z.o0 ?_ | refine Z.q0 rfl rfl fun F hF => ?_ | refine Z.r0 rfl rfl rfl rfl fun F hF => ?_ | refine Z.H0 rfl rfl (fun F hF => ?_) | refine Z.A0 rfl rfl rfl fun F hF => ?_ | refine Z.B0 rfl rfl rfl fun F hF => ?_ | refine Z.s0 rfl rfl rfl rfl ?_ | refine Z.u0 rfl rfl rfl rfl ?_ | (refine Z.D0 ?_; simp only [St.put]) | refine Z.E0 rfl rfl rfl ?_ | refine Z.F0 rfl rfl rfl ?_ | (refine hF _ _ ?_ ?_ <;> clear hF F) | refine Z.T0 rfl ?_ | refine Z.U0 rfl ?_ | (refine Z.t0 rfl rfl rfl rfl ?_ ?_ <;> (intro hg; simp only [hg, Bool.not_true, Bool.not_false]; simp only [Z.x0] at hg)) | refine And.intro (by omega) ?_ | (refine Z.G0 rfl rfl rfl rfl rfl ?_ ?_ <;> (intro hg; simp only [hg, Bool.not_true, Bool.not_false]; simp only [Z.x0] at hg)) | (refine Z.M0 rfl rfl rfl rfl rfl ?_ ?_ <;> (intro hg; simp only [hg, Bool.not_true, Bool.not_false]; simp only [Z.x0] at hg)) | (refine Z.V0 rfl ?_ ?_ <;> (intro hc; try simp only [hc]; simp only [Z.x0] at hc)))
  refine refLen_ok h ?_
  (refine hF _ _ ?_; clear hF F)
  cases d0 : decide (lenOf l ≥ 0) <;> cases d1 : decide (lenOf l ≤ (l.length : Int))
  all_goals
    rw [d0, d1] at hk
    repeat' (first | ((first | refine Z.W0 ?_ | refine Z.X0 ?_); simp only [go_sem, seval, d0, d1, h1, hlen]; try (simp (disch := omega) only [Z.w0]; try simp only [go_sem, seval, d0, d1, h1, hlen])) | (refine hF _ _ ?_; clear hF F) | (refine Z.p0 ?_; simp only [St.put]) | refine Z.a0 ?_ | refine Z.b0 ?_ | refine Z.c0 ?_ | refine Z.d0 ?_ | refine Z.e0 ?_ | refine Z.f0 ?_ | refine Z.g0 ?_ | refine Z.h0 ?_ | refine Z.i0 rfl ?_ | refine Z.I0 ?_ | refine Z.J0 ?_ | refine Z.K0 ?_ | refine Z.L0 ?_ | refine Z.N0 ?_ | refine Z.j0 ?_ | refine Z.k0 ?_ | refine Z.l0 ?_ | refine Z.m0 ?_ | refine Z.n0 ?_ | refine Z.o0 ?_ | refine Z.q0 rfl rfl fun F hF => ?_ | refine Z.r0 rfl rfl rfl rfl fun F hF => ?_ | refine Z.H0 rfl rfl (fun F hF => ?_) | refine Z.A0 rfl rfl rfl fun F hF => ?_ | refine Z.B0 rfl rfl rfl fun F hF => ?_ | refine Z.s0 rfl rfl rfl rfl ?_ | refine Z.u0 rfl rfl rfl rfl ?_ | (refine Z.D0 ?_; simp only [St.put]) | refine Z.E0 rfl rfl rfl ?_ | refine Z.F0 rfl rfl rfl ?_ | (refine hF _ _ ?_ ?_ <;> clear hF F) | refine Z.T0 rfl ?_ | refine Z.U0 rfl ?_ | (refine Z.t0 rfl rfl rfl rfl ?_ ?_ <;> (intro hg; simp only [hg, Bool.not_true, Bool.not_false]; simp only [Z.x0] at hg)) | refine And.intro (by omega) ?_ | (refine Z.G0 rfl rfl rfl rfl rfl ?_ ?_ <;> (intro hg; simp only [hg, Bool.not_true, Bool.not_false]; simp only [Z.x0] at hg)) | (refine Z.M0 rfl rfl rfl rfl rfl ?_ ?_ <;> (intro hg; simp only [hg, Bool.not_true, Bool.not_false]; simp only [Z.x0] at hg)) | (refine Z.V0 rfl ?_ ?_ <;> (intro hc; try simp only [hc]; simp only [Z.x0] at hc)))
    simp only [retK, ares, pack, Tryd.results26, St.get, reduceIte, Nat.reduceEqDiff, aload, arow, List.toArray, Array.toList]
    exact hk
end Go.Proofs.YtboojmppmaepmaaDoor
/- The document's reader tells a frame. -/
namespace Go.Proofs.YtboojmppmaepmaaDoor
set_option maxHeartbeats 8000000
set_option linter.all false
open Go Go.Fw
attribute [local irreducible] Reg RegD seqK blockK loopK retK panK
set_option maxRecDepth 10000

variable {H : AH} {K : AV → AH → Prop} {J : Value → AH → Prop}

theorem refNext_none {p : Nat} {x : AV} {l : Bs} {gone : Bool} (h : Rdr H p x l gone) (hr : ready l = false) (hk : K (.tup [.v (.slice none 0 0), .v (.bool false)]) H) : CallX Tryd.prog 24 [.ptr p 2 0 0] H K J := by
  refine CallX.of_body Tryd.func24 nm24 rfl ?_; simp only [Tryd.ntmps24, List.length_cons, List.length_nil, argSt, Nat.reduceAdd, Nat.reduceSub]
  repeat' (first | ((first | refine Z.W0 ?_ | refine Z.X0 ?_); simp only [go_sem, seval]; try (simp (disch := omega) only [Z.w0]; try simp only [go_sem, seval])) | (refine hF _ _ ?_; clear hF F) | (refine Z.p0 ?_; simp only [St.put]) | refine Z.a0 ?_ | refine Z.b0 ?_ | refine Z.c0 ?_ | refine Z.d0 ?_ | refine Z.e0 ?_ | refine Z.f0 ?_ | refine Z.g0 ?_ | refine Z.h0 ?_ | refine Z.i0 rfl ?_ | refine Z.I0 ?_ | refine Z.J0 ?_ | refine Z.K0 ?_ | refine Z.L0 ?_ | refine Z.N0 ?_ | refine Z.j0 ?_ | refine Z.k0 ?_ | refine Z.l0 ?_ | refine Z.m0 ?_ | refine Z.n0 ?_ | refine Z.o0 ?_ | refine Z.q0 rfl rfl fun F hF => ?_ | refine Z.r0 rfl rfl rfl rfl fun F hF => ?_ | refine Z.H0 rfl rfl (fun F hF => ?_) | refine Z.A0 rfl rfl rfl fun F hF => ?_ | refine Z.B0 rfl rfl rfl fun F hF => ?_ | refine Z.s0 rfl rfl rfl rfl ?_ | refine Z.u0 rfl rfl rfl rfl ?_ | (refine Z.D0 ?_; simp only [St.put]) | refine Z.E0 rfl rfl rfl ?_ | refine Z.F0 rfl rfl rfl ?_ | (refine hF _ _ ?_ ?_ <;> clear hF F) | refine Z.T0 rfl ?_ | refine Z.U0 rfl ?_ | (refine Z.t0 rfl rfl rfl rfl ?_ ?_ <;> (intro hg; simp only [hg, Bool.not_true, Bool.not_false]; simp only [Z.x0] at hg)) | refine And.intro (by omega) ?_ | (refine Z.G0 rfl rfl rfl rfl rfl ?_ ?_ <;> (intro hg; simp only [hg, Bool.not_true, Bool.not_false]; simp only [Z.x0] at hg)) | (refine Z.M0 rfl rfl rfl rfl rfl ?_ ?_ <;> (intro hg; simp only [hg, Bool.not_true, Bool.not_false]; simp only [Z.x0] at hg)) | (refine Z.V0 rfl ?_ ?_ <;> (intro hc; try simp only [hc]; simp only [Z.x0] at hc)))
  refine refReady_ok h ?_
  (refine hF _ _ ?_; clear hF F)
  repeat' (first | ((first | refine Z.W0 ?_ | refine Z.X0 ?_); simp only [go_sem, seval, hr]; try (simp (disch := omega) only [Z.w0]; try simp only [go_sem, seval, hr])) | (refine hF _ _ ?_; clear hF F) | (refine Z.p0 ?_; simp only [St.put]) | refine Z.a0 ?_ | refine Z.b0 ?_ | refine Z.c0 ?_ | refine Z.d0 ?_ | refine Z.e0 ?_ | refine Z.f0 ?_ | refine Z.g0 ?_ | refine Z.h0 ?_ | refine Z.i0 rfl ?_ | refine Z.I0 ?_ | refine Z.J0 ?_ | refine Z.K0 ?_ | refine Z.L0 ?_ | refine Z.N0 ?_ | refine Z.j0 ?_ | refine Z.k0 ?_ | refine Z.l0 ?_ | refine Z.m0 ?_ | refine Z.n0 ?_ | refine Z.o0 ?_ | refine Z.q0 rfl rfl fun F hF => ?_ | refine Z.r0 rfl rfl rfl rfl fun F hF => ?_ | refine Z.H0 rfl rfl (fun F hF => ?_) | refine Z.A0 rfl rfl rfl fun F hF => ?_ | refine Z.B0 rfl rfl rfl fun F hF => ?_ | refine Z.s0 rfl rfl rfl rfl ?_ | refine Z.u0 rfl rfl rfl rfl ?_ | (refine Z.D0 ?_; simp only [St.put]) | refine Z.E0 rfl rfl rfl ?_ | refine Z.F0 rfl rfl rfl ?_ | (refine hF _ _ ?_ ?_ <;> clear hF F) | refine Z.T0 rfl ?_ | refine Z.U0 rfl ?_ | (refine Z.t0 rfl rfl rfl rfl ?_ ?_ <;> (intro hg; simp only [hg, Bool.not_true, Bool.not_false]; simp only [Z.x0] at hg)) | refine And.intro (by omega) ?_ | (refine Z.G0 rfl rfl rfl rfl rfl ?_ ?_ <;> (intro hg; simp only [hg, Bool.not_true, Bool.not_false]; simp only [Z.x0] at hg)) | (refine Z.M0 rfl rfl rfl rfl rfl ?_ ?_ <;> (intro hg; simp only [hg, Bool.not_true, Bool.not_false]; simp only [Z.x0] at hg)) | (refine Z.V0 rfl ?_ ?_ <;> (intro hc; try simp only [hc]; simp only [Z.x0] at hc)))
  simp only [retK, ares, pack, Tryd.results24, St.get, reduceIte, Nat.reduceEqDiff, aload, arow, List.toArray, Array.toList]
  exact hk

theorem refNext_some {p : Nat} {x : AV} {l : Bs} {gone : Bool} (h : Rdr H p x l gone) (hr : ready l = true)
    (hk : ∀ H' x' fx, Went p H x H' x' → Rdr H' p x' (settle (l.drop (num l 0 4)) gone).1 (settle (l.drop (num l 0 4)) gone).2 → Ow H' 1 (rowsB (l.take (num l 0 4))) fx → (∀ c, fx.blk = some c → H c = none ∧ x'.blk ≠ some c) → K (.tup [fx, .v (.bool true)]) H') :
    CallX Tryd.prog 24 [.ptr p 2 0 0] H K J := by
  obtain ⟨h1, h2, h3⟩ := id h
  have hr' : 4 ≤ l.length ∧ num l 0 4 ≤ l.length := by simpa [ready] using hr
  obtain ⟨n, hn⟩ : ∃ n, n = num l 0 4 := ⟨_, rfl⟩
  have hlo : lenOf l = (n : Int) := by unfold lenOf; rw [if_neg (by omega), hn]
  rw [← hn] at hk hr'
  refine CallX.of_body Tryd.func24 nm24 rfl ?_; simp only [Tryd.ntmps24, List.length_cons, List.length_nil, argSt, Nat.reduceAdd, Nat.reduceSub]
  repeat' (first | ((first | refine Z.W0 ?_ | refine Z.X0 ?_); simp only [go_sem, seval]; try (simp (disch := omega) only [Z.w0]; try simp only [go_sem, seval])) | (refine hF _ _ ?_; clear hF F) | (refine Z.p0 ?_; simp only [St.put]) | refine Z.a0 ?_ | refine Z.b0 ?_ | refine Z.c0 ?_ | refine Z.d0 ?_ | refine Z.e0 ?_ | refine Z.f0 ?_ | refine Z.g0 ?_ | refine Z.h0 ?_ | refine Z.i0 rfl ?_ | refine Z.I0 ?_ | refine Z.J0 ?_ | refine Z.K0 ?_ | refine Z.L0 ?_ | refine Z.N0 ?_ | refine Z.j0 ?_ | refine Z.k0 ?_ | refine Z.l0 ?_ | refine Z.m0 ?_ | refine Z.n0 ?_ | refine Z.o0 ?_ | refine Z.q0 rfl rfl fun F hF => ?_ | refine Z.r0 rfl rfl rfl rfl fun F hF => ?_ | refine Z.H0 rfl rfl (fun F hF => ?_) | refine Z.A0 rfl rfl rfl fun F hF => ?_ | refine Z.B0 rfl rfl rfl fun F hF => ?_ | refine Z.s0 rfl rfl rfl rfl ?_ | refine Z.u0 rfl rfl rfl rfl ?_ | (refine Z.D0 ?_; simp only [St.put]) | refine Z.E0 rfl rfl rfl ?_ | refine Z.F0 rfl rfl rfl ?_ | (refine hF _ _ ?_ ?_ <;> clear hF F) | refine Z.T0 rfl ?_ | refine Z.U0 rfl ?_ | (refine Z.t0 rfl rfl rfl rfl ?_ ?_ <;> (intro hg; simp only [hg, Bool.not_true, Bool.not_false]; simp only [Z.x0] at hg)) | refine And.intro (by omega) ?_ | (refine Z.G0 rfl rfl rfl rfl rfl ?_ ?_ <;> (intro hg; simp only [hg, Bool.not_true, Bool.not_false]; simp only [Z.x0] at hg)) | (refine Z.M0 rfl rfl rfl rfl rfl ?_ ?_ <;> (intro hg; simp only [hg, Bool.not_true, Bool.not_false]; simp only [Z.x0] at hg)) | (refine Z.V0 rfl ?_ ?_ <;> (intro hc; try simp only [hc]; simp only [Z.x0] at hc)))
  refine refReady_ok h ?_
  (refine hF _ _ ?_; clear hF F)
  repeat' (first | ((first | refine Z.W0 ?_ | refine Z.X0 ?_); simp only [go_sem, seval, hr, h1]; try (simp (disch := omega) only [Z.w0]; try simp only [go_sem, seval, hr, h1])) | (refine hF _ _ ?_; clear hF F) | (refine Z.p0 ?_; simp only [St.put]) | refine Z.a0 ?_ | refine Z.b0 ?_ | refine Z.c0 ?_ | refine Z.d0 ?_ | refine Z.e0 ?_ | refine Z.f0 ?_ | refine Z.g0 ?_ | refine Z.h0 ?_ | refine Z.i0 rfl ?_ | refine Z.I0 ?_ | refine Z.J0 ?_ | refine Z.K0 ?_ | refine Z.L0 ?_ | refine Z.N0 ?_ | refine Z.j0 ?_ | refine Z.k0 ?_ | refine Z.l0 ?_ | refine Z.m0 ?_ | refine Z.n0 ?_ | refine Z.o0 ?_ | refine Z.q0 rfl rfl fun F hF => ?_ | refine Z.r0 rfl rfl rfl rfl fun F hF => ?_ | refine Z.H0 rfl rfl (fun F hF => ?_) | refine Z.A0 rfl rfl rfl fun F hF => ?_ | refine Z.B0 rfl rfl rfl fun F hF => ?_ | refine Z.s0 rfl rfl rfl rfl ?_ | refine Z.u0 rfl rfl rfl rfl ?_ | (refine Z.D0 ?_; simp only [St.put]) | refine Z.E0 rfl rfl rfl ?_ | refine Z.F0 rfl rfl rfl ?_ | (refine hF _ _ ?_ ?_ <;> clear hF F) | refine Z.T0 rfl ?_ | refine Z.U0 rfl ?_ | (refine Z.t0 rfl rfl rfl rfl ?_ ?_ <;> (intro hg; simp only [hg, Bool.not_true, Bool.not_false]; simp only [Z.x0] at hg)) | refine And.intro (by omega) ?_ | (refine Z.G0 rfl rfl rfl rfl rfl ?_ ?_ <;> (intro hg; simp only [hg, Bool.not_true, Bool.not_false]; simp only [Z.x0] at hg)) | (refine Z.M0 rfl rfl rfl rfl rfl ?_ ?_ <;> (intro hg; simp only [hg, Bool.not_true, Bool.not_false]; simp only [Z.x0] at hg)) | (refine Z.V0 rfl ?_ ?_ <;> (intro hc; try simp only [hc]; simp only [Z.x0] at hc)))
  refine refLen_ok h ?_
  rw [hlo]
  (refine hF _ _ ?_; clear hF F)
  repeat' (first | ((first | refine Z.W0 ?_ | refine Z.X0 ?_); simp only [go_sem, seval, h1]; try (simp (disch := omega) only [Z.w0]; try simp only [go_sem, seval, h1])) | (refine hF _ _ ?_; clear hF F) | (refine Z.p0 ?_; simp only [St.put]) | refine Z.a0 ?_ | refine Z.b0 ?_ | refine Z.c0 ?_ | refine Z.d0 ?_ | refine Z.e0 ?_ | refine Z.f0 ?_ | refine Z.g0 ?_ | refine Z.h0 ?_ | refine Z.i0 rfl ?_ | refine Z.I0 ?_ | refine Z.J0 ?_ | refine Z.K0 ?_ | refine Z.L0 ?_ | refine Z.N0 ?_ | refine Z.j0 ?_ | refine Z.k0 ?_ | refine Z.l0 ?_ | refine Z.m0 ?_ | refine Z.n0 ?_ | refine Z.o0 ?_ | refine Z.q0 rfl rfl fun F hF => ?_ | refine Z.r0 rfl rfl rfl rfl fun F hF => ?_ | refine Z.H0 rfl rfl (fun F hF => ?_) | refine Z.A0 rfl rfl rfl fun F hF => ?_ | refine Z.B0 rfl rfl rfl fun F hF => ?_ | refine Z.s0 rfl rfl rfl rfl ?_ | refine Z.u0 rfl rfl rfl rfl ?_ | (refine Z.D0 ?_; simp only [St.put]) | refine Z.E0 rfl rfl rfl ?_ | refine Z.F0 rfl rfl rfl ?_ | (refine hF _ _ ?_ ?_ <;> clear hF F) | refine Z.T0 rfl ?_ | refine Z.U0 rfl ?_ | (refine Z.t0 rfl rfl rfl rfl ?_ ?_ <;> (intro hg; simp only [hg, Bool.not_true, Bool.not_false]; simp only [Z.x0] at hg)) | refine And.intro (by omega) ?_ | (refine Z.G0 rfl rfl rfl rfl rfl ?_ ?_ <;> (intro hg; simp only [hg, Bool.not_true, Bool.not_false]; simp only [Z.x0] at hg)) | (refine Z.M0 rfl rfl rfl rfl rfl ?_ ?_ <;> (intro hg; simp only [hg, Bool.not_true, Bool.not_false]; simp only [Z.x0] at hg)) | (refine Z.V0 rfl ?_ ?_ <;> (intro hc; try simp only [hc]; simp only [Z.x0] at hc)))
  refine h2.rd.cut (l := 0) (h := n) vt30 (.inr ⟨_, _, rfl, rfl⟩) (.inl ⟨rfl, rfl⟩) (by omega) (by simpa using hr'.2) fun z hz _ => ?_
  rw [rowsB_take, List.drop_zero] at hz
  (refine hF _ _ ?_; clear hF F)
  repeat' (first | ((first | refine Z.W0 ?_ | refine Z.X0 ?_); simp only [go_sem, seval]; try (simp (disch := omega) only [Z.w0]; try simp only [go_sem, seval])) | (refine hF _ _ ?_; clear hF F) | (refine Z.p0 ?_; simp only [St.put]) | refine Z.a0 ?_ | refine Z.b0 ?_ | refine Z.c0 ?_ | refine Z.d0 ?_ | refine Z.e0 ?_ | refine Z.f0 ?_ | refine Z.g0 ?_ | refine Z.h0 ?_ | refine Z.i0 rfl ?_ | refine Z.I0 ?_ | refine Z.J0 ?_ | refine Z.K0 ?_ | refine Z.L0 ?_ | refine Z.N0 ?_ | refine Z.j0 ?_ | refine Z.k0 ?_ | refine Z.l0 ?_ | refine Z.m0 ?_ | refine Z.n0 ?_ | refine Z.o0 ?_ | refine Z.q0 rfl rfl fun F hF => ?_ | refine Z.r0 rfl rfl rfl rfl fun F hF => ?_ | refine Z.H0 rfl rfl (fun F hF => ?_) | refine Z.A0 rfl rfl rfl fun F hF => ?_ | refine Z.B0 rfl rfl rfl fun F hF => ?_ | refine Z.s0 rfl rfl rfl rfl ?_ | refine Z.u0 rfl rfl rfl rfl ?_ | (refine Z.D0 ?_; simp only [St.put]) | refine Z.E0 rfl rfl rfl ?_ | refine Z.F0 rfl rfl rfl ?_ | (refine hF _ _ ?_ ?_ <;> clear hF F) | refine Z.T0 rfl ?_ | refine Z.U0 rfl ?_ | (refine Z.t0 rfl rfl rfl rfl ?_ ?_ <;> (intro hg; simp only [hg, Bool.not_true, Bool.not_false]; simp only [Z.x0] at hg)) | refine And.intro (by omega) ?_ | (refine Z.G0 rfl rfl rfl rfl rfl ?_ ?_ <;> (intro hg; simp only [hg, Bool.not_true, Bool.not_false]; simp only [Z.x0] at hg)) | (refine Z.M0 rfl rfl rfl rfl rfl ?_ ?_ <;> (intro hg; simp only [hg, Bool.not_true, Bool.not_false]; simp only [Z.x0] at hg)) | (refine Z.V0 rfl ?_ ?_ <;> (intro hc; try simp only [hc]; simp only [Z.x0] at hc)))
  refine (On.onil (H0 := H) (es := 1)).app vt30 rfl rfl Tryd.underlying30 nint30 hz.src (by simp; omega) fun fx H1 hf => ?_
  (refine hF _ _ ?_; clear hF F)
  have e1 := hf.le
  have h1' := e1 _ _ h1
  repeat' (first | ((first | refine Z.W0 ?_ | refine Z.X0 ?_); simp only [go_sem, seval, h1']; try (simp (disch := omega) only [Z.w0]; try simp only [go_sem, seval, h1'])) | (refine hF _ _ ?_; clear hF F) | (refine Z.p0 ?_; simp only [St.put]) | refine Z.a0 ?_ | refine Z.b0 ?_ | refine Z.c0 ?_ | refine Z.d0 ?_ | refine Z.e0 ?_ | refine Z.f0 ?_ | refine Z.g0 ?_ | refine Z.h0 ?_ | refine Z.i0 rfl ?_ | refine Z.I0 ?_ | refine Z.J0 ?_ | refine Z.K0 ?_ | refine Z.L0 ?_ | refine Z.N0 ?_ | refine Z.j0 ?_ | refine Z.k0 ?_ | refine Z.l0 ?_ | refine Z.m0 ?_ | refine Z.n0 ?_ | refine Z.o0 ?_ | refine Z.q0 rfl rfl fun F hF => ?_ | refine Z.r0 rfl rfl rfl rfl fun F hF => ?_ | refine Z.H0 rfl rfl (fun F hF => ?_) | refine Z.A0 rfl rfl rfl fun F hF => ?_ | refine Z.B0 rfl rfl rfl fun F hF => ?_ | refine Z.s0 rfl rfl rfl rfl ?_ | refine Z.u0 rfl rfl rfl rfl ?_ | (refine Z.D0 ?_; simp only [St.put]) | refine Z.E0 rfl rfl rfl ?_ | refine Z.F0 rfl rfl rfl ?_ | (refine hF _ _ ?_ ?_ <;> clear hF F) | refine Z.T0 rfl ?_ | refine Z.U0 rfl ?_ | (refine Z.t0 rfl rfl rfl rfl ?_ ?_ <;> (intro hg; simp only [hg, Bool.not_true, Bool.not_false]; simp only [Z.x0] at hg)) | refine And.intro (by omega) ?_ | (refine Z.G0 rfl rfl rfl rfl rfl ?_ ?_ <;> (intro hg; simp only [hg, Bool.not_true, Bool.not_false]; simp only [Z.x0] at hg)) | (refine Z.M0 rfl rfl rfl rfl rfl ?_ ?_ <;> (intro hg; simp only [hg, Bool.not_true, Bool.not_false]; simp only [Z.x0] at hg)) | (refine Z.V0 rfl ?_ ?_ <;> (intro hc; try simp only [hc]; simp only [Z.x0] at hc)))
  refine (h2.rd.mono e1).cut (l := n) (h := l.length) vt30 (.inl ⟨rfl, by simp⟩) (.inr ⟨_, _, rfl, rfl⟩) (by omega) (by simp) fun z2 hz2 _ => ?_
  rw [rowsB_take, rowsB_drop, List.take_length] at hz2
  (refine hF _ _ ?_; clear hF F)
  repeat' (first | ((first | refine Z.W0 ?_ | refine Z.X0 ?_); simp only [go_sem, seval]; try (simp (disch := omega) only [Z.w0]; try simp only [go_sem, seval])) | (refine hF _ _ ?_; clear hF F) | (refine Z.p0 ?_; simp only [St.put]) | refine Z.a0 ?_ | refine Z.b0 ?_ | refine Z.c0 ?_ | refine Z.d0 ?_ | refine Z.e0 ?_ | refine Z.f0 ?_ | refine Z.g0 ?_ | refine Z.h0 ?_ | refine Z.i0 rfl ?_ | refine Z.I0 ?_ | refine Z.J0 ?_ | refine Z.K0 ?_ | refine Z.L0 ?_ | refine Z.N0 ?_ | refine Z.j0 ?_ | refine Z.k0 ?_ | refine Z.l0 ?_ | refine Z.m0 ?_ | refine Z.n0 ?_ | refine Z.o0 ?_ | refine Z.q0 rfl rfl fun F hF => ?_ | refine Z.r0 rfl rfl rfl rfl fun F hF => ?_ | refine Z.H0 rfl rfl (fun F hF => ?_) | refine Z.A0 rfl rfl rfl fun F hF => ?_ | refine Z.B0 rfl rfl rfl fun F hF => ?_ | refine Z.s0 rfl rfl rfl rfl ?_ | refine Z.u0 rfl rfl rfl rfl ?_ | (refine Z.D0 ?_; simp only [St.put]) | refine Z.E0 rfl rfl rfl ?_ | refine Z.F0 rfl rfl rfl ?_ | (refine hF _ _ ?_ ?_ <;> clear hF F) | refine Z.T0 rfl ?_ | refine Z.U0 rfl ?_ | (refine Z.t0 rfl rfl rfl rfl ?_ ?_ <;> (intro hg; simp only [hg, Bool.not_true, Bool.not_false]; simp only [Z.x0] at hg)) | refine And.intro (by omega) ?_ | (refine Z.G0 rfl rfl rfl rfl rfl ?_ ?_ <;> (intro hg; simp only [hg, Bool.not_true, Bool.not_false]; simp only [Z.x0] at hg)) | (refine Z.M0 rfl rfl rfl rfl rfl ?_ ?_ <;> (intro hg; simp only [hg, Bool.not_true, Bool.not_false]; simp only [Z.x0] at hg)) | (refine Z.V0 rfl ?_ ?_ <;> (intro hc; try simp only [hc]; simp only [Z.x0] at hc)))
  refine (On.onil (H0 := H1) (es := 1)).app vt30 rfl rfl Tryd.underlying30 nint30 hz2.src (by simp; omega) fun bx H2 hb => ?_
  (refine hF _ _ ?_; clear hF F)
  have e2 := hb.le
  have h2' := e2 _ _ h1'
  repeat' (first | ((first | refine Z.W0 ?_ | refine Z.X0 ?_); simp only [go_sem, seval, h2', hb.cell, hb.ow.rd.cells]; try (simp (disch := omega) only [Z.w0]; try simp only [go_sem, seval, h2', hb.cell, hb.ow.rd.cells])) | (refine hF _ _ ?_; clear hF F) | (refine Z.p0 ?_; simp only [St.put]) | refine Z.a0 ?_ | refine Z.b0 ?_ | refine Z.c0 ?_ | refine Z.d0 ?_ | refine Z.e0 ?_ | refine Z.f0 ?_ | refine Z.g0 ?_ | refine Z.h0 ?_ | refine Z.i0 rfl ?_ | refine Z.I0 ?_ | refine Z.J0 ?_ | refine Z.K0 ?_ | refine Z.L0 ?_ | refine Z.N0 ?_ | refine Z.j0 ?_ | refine Z.k0 ?_ | refine Z.l0 ?_ | refine Z.m0 ?_ | refine Z.n0 ?_ | refine Z.o0 ?_ | refine Z.q0 rfl rfl fun F hF => ?_ | refine Z.r0 rfl rfl rfl rfl fun F hF => ?_ | refine Z.H0 rfl rfl (fun F hF => ?_) | refine Z.A0 rfl rfl rfl fun F hF => ?_ | refine Z.B0 rfl rfl rfl fun F hF => ?_ | refine Z.s0 rfl rfl rfl rfl ?_ | refine Z.u0 rfl rfl rfl rfl ?_ | (refine Z.D0 ?_; simp only [St.put]) | refine Z.E0 rfl rfl rfl ?_ | refine Z.F0 rfl rfl rfl ?_ | (refine hF _ _ ?_ ?_ <;> clear hF F) | refine Z.T0 rfl ?_ | refine Z.U0 rfl ?_ | (refine Z.t0 rfl rfl rfl rfl ?_ ?_ <;> (intro hg; simp only [hg, Bool.not_true, Bool.not_false]; simp only [Z.x0] at hg)) | refine And.intro (by omega) ?_ | (refine Z.G0 rfl rfl rfl rfl rfl ?_ ?_ <;> (intro hg; simp only [hg, Bool.not_true, Bool.not_false]; simp only [Z.x0] at hg)) | (refine Z.M0 rfl rfl rfl rfl rfl ?_ ?_ <;> (intro hg; simp only [hg, Bool.not_true, Bool.not_false]; simp only [Z.x0] at hg)) | (refine Z.V0 rfl ?_ ?_ <;> (intro hc; try simp only [hc]; simp only [Z.x0] at hc)))
  rw [List.nil_append] at hb hf
  have hne : bx.blk ≠ some p := fun e => by
    have := hb.gone e
    rw [h1'] at this; cases this
  have hfp : fx.blk ≠ some p := fun e => by
    have := hf.gone e
    rw [h1] at this; cases this
  refine refSettle_ok (p := p) (x := bx) (l := l.drop n) (gone := gone) ⟨AH.set_same _ _ _, hb.ow.keep fun c hc => AH.set_ne _ _ fun e => hne (e ▸ hc), by simp; omega⟩ fun H3 x3 W3 R3 => ?_
  (refine hF _ _ ?_; clear hF F)
  repeat' (first | ((first | refine Z.W0 ?_ | refine Z.X0 ?_); simp only [go_sem, seval]; try (simp (disch := omega) only [Z.w0]; try simp only [go_sem, seval])) | (refine hF _ _ ?_; clear hF F) | (refine Z.p0 ?_; simp only [St.put]) | refine Z.a0 ?_ | refine Z.b0 ?_ | refine Z.c0 ?_ | refine Z.d0 ?_ | refine Z.e0 ?_ | refine Z.f0 ?_ | refine Z.g0 ?_ | refine Z.h0 ?_ | refine Z.i0 rfl ?_ | refine Z.I0 ?_ | refine Z.J0 ?_ | refine Z.K0 ?_ | refine Z.L0 ?_ | refine Z.N0 ?_ | refine Z.j0 ?_ | refine Z.k0 ?_ | refine Z.l0 ?_ | refine Z.m0 ?_ | refine Z.n0 ?_ | refine Z.o0 ?_ | refine Z.q0 rfl rfl fun F hF => ?_ | refine Z.r0 rfl rfl rfl rfl fun F hF => ?_ | refine Z.H0 rfl rfl (fun F hF => ?_) | refine Z.A0 rfl rfl rfl fun F hF => ?_ | refine Z.B0 rfl rfl rfl fun F hF => ?_ | refine Z.s0 rfl rfl rfl rfl ?_ | refine Z.u0 rfl rfl rfl rfl ?_ | (refine Z.D0 ?_; simp only [St.put]) | refine Z.E0 rfl rfl rfl ?_ | refine Z.F0 rfl rfl rfl ?_ | (refine hF _ _ ?_ ?_ <;> clear hF F) | refine Z.T0 rfl ?_ | refine Z.U0 rfl ?_ | (refine Z.t0 rfl rfl rfl rfl ?_ ?_ <;> (intro hg; simp only [hg, Bool.not_true, Bool.not_false]; simp only [Z.x0] at hg)) | refine And.intro (by omega) ?_ | (refine Z.G0 rfl rfl rfl rfl rfl ?_ ?_ <;> (intro hg; simp only [hg, Bool.not_true, Bool.not_false]; simp only [Z.x0] at hg)) | (refine Z.M0 rfl rfl rfl rfl rfl ?_ ?_ <;> (intro hg; simp only [hg, Bool.not_true, Bool.not_false]; simp only [Z.x0] at hg)) | (refine Z.V0 rfl ?_ ?_ <;> (intro hc; try simp only [hc]; simp only [Z.x0] at hc)))
  simp only [retK, ares, pack, Tryd.results24, St.get, reduceIte, Nat.reduceEqDiff, aload, arow, List.toArray, Array.toList]
  have hfb : ∀ c, fx.blk = some c → H c = none ∧ x3.blk ≠ some c ∧ bx.blk ≠ some c ∧ c ≠ p := by
    intro c hc
    have g1 := hf.gone hc
    have g2 := hf.ow.atb hc
    have g3 : bx.blk ≠ some c := fun e => by
      have := hb.gone e
      rw [g2] at this; cases this
    have g4 : c ≠ p := fun e => hfp (e ▸ hc)
    refine ⟨g1, fun e => ?_, g3, g4⟩
    rcases W3.new c e with e | e | e
    · exact g4 e
    · exact g3 e
    · rw [AH.set_ne _ _ g4, e2 _ _ g2] at e; cases e
  refine hk H3 x3 fx ?_ R3 ?_ fun c hc => ⟨(hfb c hc).1, (hfb c hc).2.1⟩
  · refine Went.trans (x1 := bx) ⟨fun c o hc hp hx => ?_, fun c hc => ?_⟩ W3
    · rw [AH.set_ne _ _ hp]
      exact e2 _ _ (e1 _ _ hc)
    · exact .inr (.inr (Le.none e1 (hb.gone hc)))
  · refine hf.ow.keep fun c hc => ?_
    obtain ⟨g1, g2, g3, g4⟩ := hfb c hc
    have g5 := hf.ow.atb hc
    rw [g5]
    refine W3.keep c _ ?_ g4 g3
    rw [AH.set_ne _ _ g4]
    exact e2 _ _ g5
end Go.Proofs.YtboojmppmaepmaaDoor
/- Two readers side by side, and what was told: what is kept. -/
namespace Go.Proofs.YtboojmppmaepmaaDoor
set_option maxHeartbeats 8000000
set_option linter.all false
open Go Go.Fw

variable {H : AH}

/-- The blocks of a reader. -/
def SR (p : Nat) (x : AV) (c : Nat) : Prop := c = p ∨ x.blk = some c
def SE (la : List YR) (c : Nat) : Prop := ∃ e ∈ la, e.1.blk = some c
/-- Two readers, a list of what was told; all apart. -/
structure Rs (H0 H : AH) (p : Nat) (x : AV) (l : Bs) (g : Bool) (q : Nat) (y : AV) (m : Bs) (k : Bool) (la : List YR) (xa : AV) : Prop where
  le : Le H0 H
  r1 : Rdr H p x l g
  r2 : Rdr H q y m k
  a : Ow H 1 (la.map fun e => [e.1]) xa
  es : ∀ e ∈ la, Ow H 1 (rowsB e.2) e.1
  f1 : ∀ c, SR p x c → H0 c = none
  f2 : ∀ c, SR q y c → H0 c = none
  fa : ∀ c, xa.blk = some c → H0 c = none
  fe : ∀ c, SE la c → H0 c = none
  d12 : ∀ c, SR p x c → ¬ SR q y c
  d1a : ∀ c, SR p x c → xa.blk ≠ some c
  d1e : ∀ c, SR p x c → ¬ SE la c
  d2a : ∀ c, SR q y c → xa.blk ≠ some c
  d2e : ∀ c, SR q y c → ¬ SE la c
  dae : ∀ c, xa.blk = some c → ¬ SE la c
  each : ∀ i j (hi : i < la.length) (hj : j < la.length), i ≠ j → ∀ c, la[i].1.blk = some c → la[j].1.blk ≠ some c
variable {H0 H' : AH} {p q : Nat} {x y x' xa : AV} {l m l' : Bs} {g k g' : Bool} {la : List YR}

theorem Rdr.has {H : AH} {p : Nat} {x : AV} {l : Bs} {g : Bool} (h : Rdr H p x l g) {c : Nat} (hc : SR p x c) : ∃ o, H c = some o := by
  rcases hc with rfl | hc
  · exact ⟨_, h.at_⟩
  · exact ⟨_, h.vec.atb hc⟩
theorem Rdr.keep {H H' : AH} {p : Nat} {x : AV} {l : Bs} {g : Bool} (h : Rdr H p x l g) (hk : ∀ c o, SR p x c → H c = some o → H' c = some o) : Rdr H' p x l g :=
  ⟨hk p _ (.inl rfl) h.at_, h.vec.keep fun c hc => by rw [hk c _ (.inr hc) (h.vec.atb hc), h.vec.atb hc], h.few⟩
theorem Rs.swap (h : Rs H0 H p x l g q y m k la xa) : Rs H0 H q y m k p x l g la xa :=
  ⟨h.le, h.r2, h.r1, h.a, h.es, h.f2, h.f1, h.fa, h.fe, fun c h1 h2 => h.d12 c h2 h1, h.d2a, h.d2e, h.d1a, h.d1e, h.dae, h.each⟩
theorem Rs.ehas (h : Rs H0 H p x l g q y m k la xa) {c : Nat} (hc : SE la c) : ∃ o, H c = some o := by
  obtain ⟨e, he, hc⟩ := hc
  exact ⟨_, (h.es e he).atb hc⟩
theorem Rs.mono (h : Rs H0 H p x l g q y m k la xa) (hle : Le H H') : Rs H0 H' p x l g q y m k la xa :=
  ⟨h.le.trans hle, h.r1.keep fun c o _ => hle c o, h.r2.keep fun c o _ => hle c o, h.a.mono hle, fun e he => (h.es e he).mono hle, h.f1, h.f2, h.fa, h.fe, h.d12, h.d1a, h.d1e, h.d2a, h.d2e, h.dae, h.each⟩

/-- A call on the first reader. -/
theorem Rs.op (h : Rs H0 H p x l g q y m k la xa) (w : Went p H x H' x') (r : Rdr H' p x' l' g') : Rs H0 H' p x' l' g' q y m k la xa := by
  have keep : ∀ c o, H c = some o → ¬ SR p x c → H' c = some o := fun c o hc hn => w.keep c o hc (fun e => hn (.inl e)) (fun e => hn (.inr e))
  have new : ∀ c, SR p x' c → SR p x c ∨ H c = none := fun c hc => by
    rcases hc with hc | hc
    · exact .inl (.inl hc)
    · rcases w.new c hc with e | e | e
      · exact .inl (.inl e)
      · exact .inl (.inr e)
      · exact .inr e
  have n0 : ∀ c, H c = none → H0 c = none := fun c hc => h.le.none hc
  refine ⟨fun c o hc => keep c o (h.le c o hc) (fun e => by rw [h.f1 c e] at hc; cases hc), r, h.r2.keep fun c o hc ho => keep c o ho (fun e => h.d12 c e hc), h.a.keep fun c hc => ?_, fun e he => (h.es e he).keep fun c hc => ?_, fun c hc => ?_, h.f2, h.fa, h.fe, fun c hc h2 => ?_, fun c hc h2 => ?_, fun c hc h2 => ?_, h.d2a, h.d2e, h.dae, h.each⟩
  · rw [keep c _ (h.a.atb hc) (fun e => h.d1a c e hc), h.a.atb hc]
  · rw [keep c _ ((h.es e he).atb hc) (fun e2 => h.d1e c e2 ⟨e, he, hc⟩), (h.es e he).atb hc]
  · rcases new c hc with e | e
    · exact h.f1 c e
    · exact n0 c e
  · rcases new c hc with e | e
    · exact h.d12 c e h2
    · obtain ⟨o, ho⟩ := h.r2.has h2
      rw [ho] at e; cases e
  · rcases new c hc with e | e
    · exact h.d1a c e h2
    · rw [h.a.atb h2] at e; cases e
  · rcases new c hc with e | e
    · exact h.d1e c e h2
    · obtain ⟨o, ho⟩ := h.ehas h2
      rw [ho] at e; cases e

/-- What the first reader told is put to the list; f: what was told, apart from all that was there. -/
theorem Rs.put {fx xa' : AV} {f : Bs} {H'' : AH} (h : Rs H0 H p x l g q y m k la xa) (of : Ow H 1 (rowsB f) fx) (nf : ∀ c, fx.blk = some c → H0 c = none ∧ ¬ SR p x c ∧ ¬ SR q y c ∧ xa.blk ≠ some c ∧ ¬ SE la c)
    (T : Turned H xa H'' xa') (ho : Ow H'' 1 ((la ++ [(fx, f)]).map fun e => [e.1]) xa') : Rs H0 H'' p x l g q y m k (la ++ [(fx, f)]) xa' := by
  have keep : ∀ c o, H c = some o → xa.blk ≠ some c → H'' c = some o := T.keep
  have se : ∀ c, SE (la ++ [(fx, f)]) c → SE la c ∨ fx.blk = some c := fun c hc => by
    obtain ⟨e, he, hc⟩ := hc
    rcases List.mem_append.1 he with he | he
    · exact .inl ⟨e, he, hc⟩
    · rw [List.mem_singleton] at he
      subst he
      exact .inr hc
  have shas : ∀ c, SE (la ++ [(fx, f)]) c → ∃ o, H c = some o := fun c hc => by
    rcases se c hc with e | e
    · exact h.ehas e
    · exact ⟨_, of.atb e⟩
  have sa : ∀ c, SE (la ++ [(fx, f)]) c → xa.blk ≠ some c := fun c hc e1 => by
    rcases se c hc with e | e
    · exact h.dae c e1 e
    · exact (nf c e).2.2.2.1 e1
  refine ⟨fun c o hc => keep c o (h.le c o hc) (fun e => by rw [h.fa c e] at hc; cases hc), h.r1.keep fun c o hc ho => keep c o ho (h.d1a c hc), h.r2.keep fun c o hc ho => keep c o ho (h.d2a c hc), ho, fun e he => ?_, h.f1, h.f2, fun c hc => ?_, fun c hc => ?_, h.d12, fun c hc e => ?_, fun c hc e => ?_, fun c hc e => ?_, fun c hc e => ?_, fun c hc e => ?_, fun i j hi hj hij c hc => ?_⟩
  · have hh : Ow H 1 (rowsB e.2) e.1 := by
      rcases List.mem_append.1 he with he | he
      · exact h.es e he
      · rw [List.mem_singleton] at he
        subst he
        exact of
    exact hh.keep fun c hc => by rw [keep c _ (hh.atb hc) (sa c ⟨e, he, hc⟩), hh.atb hc]
  · rcases T.new c hc with e | e
    · exact h.fa c e
    · exact h.le.none e
  · rcases se c hc with e | e
    · exact h.fe c e
    · exact (nf c e).1
  · rcases T.new c e with e1 | e1
    · exact h.d1a c hc e1
    · obtain ⟨o, ho⟩ := h.r1.has hc
      rw [ho] at e1; cases e1
  · rcases se c e with e1 | e1
    · exact h.d1e c hc e1
    · exact (nf c e1).2.1 hc
  · rcases T.new c e with e1 | e1
    · exact h.d2a c hc e1
    · obtain ⟨o, ho⟩ := h.r2.has hc
      rw [ho] at e1; cases e1
  · rcases se c e with e1 | e1
    · exact h.d2e c hc e1
    · exact (nf c e1).2.2.1 hc
  · rcases T.new c hc with e1 | e1
    · exact sa c e e1
    · obtain ⟨o, ho⟩ := shas c e
      rw [ho] at e1; cases e1
  · simp only [List.length_append, List.length_cons, List.length_nil] at hi hj
    have get : ∀ i (hi : i < la.length + 1), ((la ++ [(fx, f)])[i]'(by simpa using hi)) = if h : i < la.length then la[i] else (fx, f) := fun i hi => by
      rw [List.getElem_append]
      split
      · rfl
      · simp
    rw [get i hi] at hc
    rw [get j hj]
    by_cases h1 : i < la.length <;> by_cases h2 : j < la.length
    · rw [dif_pos h1] at hc
      rw [dif_pos h2]
      exact h.each i j h1 h2 hij c hc
    · rw [dif_pos h1] at hc
      rw [dif_neg h2]
      exact fun e => (nf c e).2.2.2.2 ⟨_, List.getElem_mem h1, hc⟩
    · rw [dif_neg h1] at hc
      rw [dif_pos h2]
      exact fun e => (nf c hc).2.2.2.2 ⟨_, List.getElem_mem h2, e⟩
    · omega
end Go.Proofs.YtboojmppmaepmaaDoor
/- A reader tells just the frames that it was fed: the law's walk. -/
namespace Go.Proofs.YtboojmppmaepmaaDoor
set_option maxHeartbeats 8000000
set_option linter.all false
open Go Go.Fw
attribute [local irreducible] Reg RegD seqK blockK loopK retK panK
set_option maxRecDepth 10000

variable {H : AH} {K : AV → AH → Prop} {J : Value → AH → Prop}

/-- A block that is none of theirs is written. -/
theorem Rs.but {H0 H' : AH} {p q z : Nat} {x y xa : AV} {l m : Bs} {g k : Bool} {la : List YR} (h : Rs H0 H p x l g q y m k la xa) (hk : ∀ c o, H c = some o → c ≠ z → H' c = some o) (z0 : H0 z = none) (z1 : ¬ SR p x z) (z2 : ¬ SR q y z) (za : xa.blk ≠ some z) (ze : ¬ SE la z) :
    Rs H0 H' p x l g q y m k la xa := by
  refine ⟨fun c o hc => hk c o (h.le c o hc) (fun e => by rw [e, z0] at hc; cases hc), h.r1.keep fun c o hc ho => hk c o ho (fun e => z1 (e ▸ hc)), h.r2.keep fun c o hc ho => hk c o ho (fun e => z2 (e ▸ hc)), h.a.keep fun c hc => ?_, fun e he => (h.es e he).keep fun c hc => ?_, h.f1, h.f2, h.fa, h.fe, h.d12, h.d1a, h.d1e, h.d2a, h.d2e, h.dae, h.each⟩
  · rw [hk c _ (h.a.atb hc) (fun e => za (e ▸ hc)), h.a.atb hc]
  · rw [hk c _ ((h.es e he).atb hc) (fun e2 => ze ⟨e, he, e2 ▸ hc⟩), (h.es e he).atb hc]

/-- The calls of a script. -/
structure RdO (H : AH) (ops : List (Int × Bs)) (rows : List (List AV)) : Prop where
  len : rows.length = ops.length
  get : ∀ k (h1 : k < ops.length) (h2 : k < rows.length), ∃ y, rows[k] = [.v (.int .i64 ops[k].1), y] ∧ RdS H 1 (rowsB ops[k].2) y
theorem RdO.mono {H H1 : AH} {ops : List (Int × Bs)} {rows : List (List AV)} (h : RdO H ops rows) (hle : Le H H1) : RdO H1 ops rows :=
  ⟨h.len, fun k h1 h2 => by obtain ⟨y, e, hy⟩ := h.get k h1 h2; exact ⟨y, e, hy.mono hle⟩⟩
structure ElO (H : AH) (x i p p0 p1 y : AV) (d : Int) (b : Bs) : Prop where
  idx : ∀ F, aidx Tryd.prog 44 x i F = F p
  fld0 : ∀ F, afld Tryd.prog 51 p 0 F = F p0
  load0 : ∀ F, aload Tryd.prog 3 p0 H F = F (.v (.int .i64 d))
  fld1 : ∀ F, afld Tryd.prog 51 p 1 F = F p1
  load1 : ∀ F, aload Tryd.prog 30 p1 H F = F y
  rd : RdS H 1 (rowsB b) y
theorem elO {ops : List (Int × Bs)} {rows : List (List AV)} {x : AV} (hx : RdS H 2 rows x) (ho : RdO H ops rows) {k : Nat} (hk : k < ops.length) : ∃ p p0 p1 y, ElO H x (.v (.int .i64 k)) p p0 p1 y ops[k].1 ops[k].2 := by
  have hk2 : k < rows.length := by rw [ho.len]; exact hk
  obtain ⟨p, hp, _, hi⟩ := hx.idx vt44 hk2
  obtain ⟨y, hy, hr⟩ := ho.get k hk hk2
  obtain ⟨p0, h0, _, f0⟩ := hp.fld Tryd.underlying51 (j := 0) rfl (by show Tryd.prog.cellsOf 3 ≠ 0; rw [cl3]; decide)
  obtain ⟨p1, h1, _, f1⟩ := hp.fld Tryd.underlying51 (j := 1) rfl (by show Tryd.prog.cellsOf 30 ≠ 0; rw [cl30]; decide)
  refine ⟨p, p0, p1, y, hi, f0, fun F => ?_, f1, fun F => ?_, hr⟩
  · rw [h0.load, hy]
    simp [acut, Tryd.underlying3, isAggD]
  · rw [h1.load, hy]
    simp [acut, Tryd.underlying30, isAggD]

def opsW (ops : List (Int × Bs)) : Nat := (ops.map fun o => o.2.length).sum
theorem opsW_take {ops : List (Int × Bs)} {k : Nat} (hk : k < ops.length) : opsW (ops.take (k + 1)) = opsW (ops.take k) + ops[k].2.length := by
  unfold opsW
  rw [List.take_succ_eq_append_getElem hk, List.map_append, List.sum_append]
  simp
theorem opsW_le (ops : List (Int × Bs)) (k : Nat) : opsW (ops.take k) ≤ opsW ops := by
  have h : opsW (ops.take k) + opsW (ops.drop k) = opsW ops := by
    unfold opsW
    rw [← List.sum_append, ← List.map_append, List.take_append_drop]
  omega
theorem feed_len (l b : Bs) (g : Bool) : (feed l g b).1.length ≤ l.length + b.length := by
  unfold feed settle
  split
  · simp
  · split
    · simp
    · simp
theorem settle_len (l : Bs) (g : Bool) : (settle l g).1.length ≤ l.length := by
  unfold settle
  split
  · simp
  · simp
end Go.Proofs.YtboojmppmaepmaaDoor
/- A reader tells just the frames that it was fed: the law's walk. -/
namespace Go.Proofs.YtboojmppmaepmaaDoor
set_option maxHeartbeats 8000000
set_option linter.all false
open Go Go.Fw
attribute [local irreducible] Reg RegD seqK blockK loopK retK panK
set_option maxRecDepth 10000

variable {H : AH} {K : AV → AH → Prop} {J : Value → AH → Prop}

theorem elO2 {rows : List (List AV)} {x y : AV} {d : Int} {b : Bs} (hx : RdS H 2 rows x) {k : Nat} (hk : k < rows.length) (hy : rows[k] = [.v (.int .i64 d), y]) (hr : RdS H 1 (rowsB b) y) : ∃ p p0 p1, ElO H x (.v (.int .i64 k)) p p0 p1 y d b := by
  obtain ⟨p, hp, _, hi⟩ := hx.idx vt44 hk
  obtain ⟨p0, h0, _, f0⟩ := hp.fld Tryd.underlying51 (j := 0) rfl (by show Tryd.prog.cellsOf 3 ≠ 0; rw [cl3]; decide)
  obtain ⟨p1, h1, _, f1⟩ := hp.fld Tryd.underlying51 (j := 1) rfl (by show Tryd.prog.cellsOf 30 ≠ 0; rw [cl30]; decide)
  refine ⟨p, p0, p1, hi, f0, fun F => ?_, f1, fun F => ?_, hr⟩
  · rw [h0.load, hy]
    simp [acut, Tryd.underlying3, isAggD]
  · rw [h1.load, hy]
    simp [acut, Tryd.underlying30, isAggD]

theorem lawReads_ok {ops : List (Int × Bs)} {rows : List (List AV)} {xo : AV} (hx : RdS H 2 rows xo) (ho : RdO H ops rows) (hl : ops.length ≤ 500000000) (hw : opsW ops ≤ 500000000) (hk : ∀ H', K (.v (.bool true)) H') :
    CallX Tryd.prog 5 [xo] H K J := by
  have lx := hx.len vt44
  rw [ho.len] at lx
  refine CallX.of_body Tryd.func5 nm5 rfl ?_; simp only [Tryd.ntmps5, List.length_cons, List.length_nil, argSt, Nat.reduceAdd, Nat.reduceSub]
  repeat' (first | ((first | refine Z.W0 ?_ | refine Z.X0 ?_); simp only [go_sem, seval]; try (simp (disch := omega) only [Z.w0]; try simp only [go_sem, seval])) | (refine hF _ _ ?_; clear hF F) | (refine Z.p0 ?_; simp only [St.put]) | refine Z.a0 ?_ | refine Z.b0 ?_ | refine Z.c0 ?_ | refine Z.d0 ?_ | refine Z.e0 ?_ | refine Z.f0 ?_ | refine Z.g0 ?_ | refine Z.h0 ?_ | refine Z.i0 rfl ?_ | refine Z.I0 ?_ | refine Z.J0 ?_ | refine Z.K0 ?_ | refine Z.L0 ?_ | refine Z.N0 ?_ | refine Z.j0 ?_ | refine Z.k0 ?_ | refine Z.l0 ?_ | refine Z.m0 ?_ | refine Z.n0 ?_ | refine Z.o0 ?_ | refine Z.q0 rfl rfl fun F hF => ?_ | refine Z.r0 rfl rfl rfl rfl fun F hF => ?_ | refine Z.H0 rfl rfl (fun F hF => ?_) | refine Z.A0 rfl rfl rfl fun F hF => ?_ | refine Z.B0 rfl rfl rfl fun F hF => ?_ | refine Z.s0 rfl rfl rfl rfl ?_ | refine Z.u0 rfl rfl rfl rfl ?_ | (refine Z.D0 ?_; simp only [St.put]) | refine Z.E0 rfl rfl rfl ?_ | refine Z.F0 rfl rfl rfl ?_ | refine W_drawn (id := 23) [0, 1, 0, 7, 15, 31, 63, 127, 63, 319, 831, 1855, 4095, 8191, 16383, 32767, 65535, 32767, 163839, 425983, 950271, 1998847, 4194303, 8388607] [.a 0, .a 2, .e 1 [2], .e 3 [], .a 4, .a 5, .a 6, .a 8, .a 9, .a 10, .a 11, .e 7 [8, 9, 10, 11], .a 12, .a 13, .a 14, .a 15, .a 17, .a 18, .a 19, .a 20, .a 21, .e 16 [17, 18, 19, 20, 21], .a 22, .a 23] mixed (by decide +kernel) ?_ | refine Z.C0 rfl rfl rfl fun F hF => ?_ | (refine hF _ _ ?_ ?_ <;> clear hF F) | refine Z.T0 rfl ?_ | refine Z.U0 rfl ?_ | (refine Z.t0 rfl rfl rfl rfl ?_ ?_ <;> (intro hg; simp only [hg, Bool.not_true, Bool.not_false]; simp only [Z.x0] at hg)) | refine And.intro (by omega) ?_ | (refine Z.G0 rfl rfl rfl rfl rfl ?_ ?_ <;> (intro hg; simp only [hg, Bool.not_true, Bool.not_false]; simp only [Z.x0] at hg)) | (refine Z.M0 rfl rfl rfl rfl rfl ?_ ?_ <;> (intro hg; simp only [hg, Bool.not_true, Bool.not_false]; simp only [Z.x0] at hg)) | (refine Z.V0 rfl ?_ ?_ <;> (intro hc; try simp only [hc]; simp only [Z.x0] at hc)))
  refine awake_ok fun H1 e1 => ?_
  (refine hF _ _ ?_; clear hF F)
  repeat' (first | ((first | refine Z.W0 ?_ | refine Z.X0 ?_); simp only [go_sem, seval]; try (simp (disch := omega) only [Z.w0]; try simp only [go_sem, seval])) | (refine hF _ _ ?_; clear hF F) | (refine Z.p0 ?_; simp only [St.put]) | refine Z.a0 ?_ | refine Z.b0 ?_ | refine Z.c0 ?_ | refine Z.d0 ?_ | refine Z.e0 ?_ | refine Z.f0 ?_ | refine Z.g0 ?_ | refine Z.h0 ?_ | refine Z.i0 rfl ?_ | refine Z.I0 ?_ | refine Z.J0 ?_ | refine Z.K0 ?_ | refine Z.L0 ?_ | refine Z.N0 ?_ | refine Z.j0 ?_ | refine Z.k0 ?_ | refine Z.l0 ?_ | refine Z.m0 ?_ | refine Z.n0 ?_ | refine Z.o0 ?_ | refine Z.q0 rfl rfl fun F hF => ?_ | refine Z.r0 rfl rfl rfl rfl fun F hF => ?_ | refine Z.H0 rfl rfl (fun F hF => ?_) | refine Z.A0 rfl rfl rfl fun F hF => ?_ | refine Z.B0 rfl rfl rfl fun F hF => ?_ | refine Z.s0 rfl rfl rfl rfl ?_ | refine Z.u0 rfl rfl rfl rfl ?_ | (refine Z.D0 ?_; simp only [St.put]) | refine Z.E0 rfl rfl rfl ?_ | refine Z.F0 rfl rfl rfl ?_ | refine W_drawn (id := 23) [0, 1, 0, 7, 15, 31, 63, 127, 63, 319, 831, 1855, 4095, 8191, 16383, 32767, 65535, 32767, 163839, 425983, 950271, 1998847, 4194303, 8388607] [.a 0, .a 2, .e 1 [2], .e 3 [], .a 4, .a 5, .a 6, .a 8, .a 9, .a 10, .a 11, .e 7 [8, 9, 10, 11], .a 12, .a 13, .a 14, .a 15, .a 17, .a 18, .a 19, .a 20, .a 21, .e 16 [17, 18, 19, 20, 21], .a 22, .a 23] mixed (by decide +kernel) ?_ | refine Z.C0 rfl rfl rfl fun F hF => ?_ | (refine hF _ _ ?_ ?_ <;> clear hF F) | refine Z.T0 rfl ?_ | refine Z.U0 rfl ?_ | (refine Z.t0 rfl rfl rfl rfl ?_ ?_ <;> (intro hg; simp only [hg, Bool.not_true, Bool.not_false]; simp only [Z.x0] at hg)) | refine And.intro (by omega) ?_ | (refine Z.G0 rfl rfl rfl rfl rfl ?_ ?_ <;> (intro hg; simp only [hg, Bool.not_true, Bool.not_false]; simp only [Z.x0] at hg)) | (refine Z.M0 rfl rfl rfl rfl rfl ?_ ?_ <;> (intro hg; simp only [hg, Bool.not_true, Bool.not_false]; simp only [Z.x0] at hg)) | (refine Z.V0 rfl ?_ ?_ <;> (intro hc; try simp only [hc]; simp only [Z.x0] at hc)))
  refine new_ok fun H2 p e2 np r2 => ?_
  (refine hF _ _ ?_; clear hF F)
  repeat' (first | ((first | refine Z.W0 ?_ | refine Z.X0 ?_); simp only [go_sem, seval]; try (simp (disch := omega) only [Z.w0]; try simp only [go_sem, seval])) | (refine hF _ _ ?_; clear hF F) | (refine Z.p0 ?_; simp only [St.put]) | refine Z.a0 ?_ | refine Z.b0 ?_ | refine Z.c0 ?_ | refine Z.d0 ?_ | refine Z.e0 ?_ | refine Z.f0 ?_ | refine Z.g0 ?_ | refine Z.h0 ?_ | refine Z.i0 rfl ?_ | refine Z.I0 ?_ | refine Z.J0 ?_ | refine Z.K0 ?_ | refine Z.L0 ?_ | refine Z.N0 ?_ | refine Z.j0 ?_ | refine Z.k0 ?_ | refine Z.l0 ?_ | refine Z.m0 ?_ | refine Z.n0 ?_ | refine Z.o0 ?_ | refine Z.q0 rfl rfl fun F hF => ?_ | refine Z.r0 rfl rfl rfl rfl fun F hF => ?_ | refine Z.H0 rfl rfl (fun F hF => ?_) | refine Z.A0 rfl rfl rfl fun F hF => ?_ | refine Z.B0 rfl rfl rfl fun F hF => ?_ | refine Z.s0 rfl rfl rfl rfl ?_ | refine Z.u0 rfl rfl rfl rfl ?_ | (refine Z.D0 ?_; simp only [St.put]) | refine Z.E0 rfl rfl rfl ?_ | refine Z.F0 rfl rfl rfl ?_ | refine W_drawn (id := 23) [0, 1, 0, 7, 15, 31, 63, 127, 63, 319, 831, 1855, 4095, 8191, 16383, 32767, 65535, 32767, 163839, 425983, 950271, 1998847, 4194303, 8388607] [.a 0, .a 2, .e 1 [2], .e 3 [], .a 4, .a 5, .a 6, .a 8, .a 9, .a 10, .a 11, .e 7 [8, 9, 10, 11], .a 12, .a 13, .a 14, .a 15, .a 17, .a 18, .a 19, .a 20, .a 21, .e 16 [17, 18, 19, 20, 21], .a 22, .a 23] mixed (by decide +kernel) ?_ | refine Z.C0 rfl rfl rfl fun F hF => ?_ | (refine hF _ _ ?_ ?_ <;> clear hF F) | refine Z.T0 rfl ?_ | refine Z.U0 rfl ?_ | (refine Z.t0 rfl rfl rfl rfl ?_ ?_ <;> (intro hg; simp only [hg, Bool.not_true, Bool.not_false]; simp only [Z.x0] at hg)) | refine And.intro (by omega) ?_ | (refine Z.G0 rfl rfl rfl rfl rfl ?_ ?_ <;> (intro hg; simp only [hg, Bool.not_true, Bool.not_false]; simp only [Z.x0] at hg)) | (refine Z.M0 rfl rfl rfl rfl rfl ?_ ?_ <;> (intro hg; simp only [hg, Bool.not_true, Bool.not_false]; simp only [Z.x0] at hg)) | (refine Z.V0 rfl ?_ ?_ <;> (intro hc; try simp only [hc]; simp only [Z.x0] at hc)))
  (refine box_go2 fun q H3 e3 nq o3 => ?_; refine hF _ _ ?_; clear hF F)
  have hpq : p ≠ q := fun e => by rw [← e, r2.at_] at nq; cases nq
  have R0 : Rs H H3 p (.v (.slice none 0 0)) [] false q (.v (.slice none 0 0)) [] false [] (.v (.slice none 0 0)) := by
    have n1 : H p = none := e1.none np
    have n2 : H q = none := (e1.trans e2).none nq
    have s1 : ∀ {z c : Nat}, SR z (.v (.slice none 0 0)) c → c = z := fun hc => by
      rcases hc with hc | hc
      · exact hc
      · cases hc
    have s0 : ∀ c, ¬ SE [] c := fun c ⟨e, he, _⟩ => by simp at he
    refine ⟨(e1.trans e2).trans e3, ⟨e3 _ _ r2.at_, .nil, by simp⟩, ⟨o3, .nil, by simp⟩, .nil, (fun e he => by simp at he), (fun c hc => by rw [s1 hc]; exact n1), (fun c hc => by rw [s1 hc]; exact n2), (fun c hc => by cases hc), (fun c hc => absurd hc (s0 c)), (fun c h1 h2 => hpq ((s1 h1).symm.trans (s1 h2))), (fun c _ e => by cases e), (fun c _ => s0 c), (fun c _ e => by cases e), (fun c _ => s0 c), (fun c e => by cases e), (fun i j hi => by simp at hi)⟩
  repeat' (first | ((first | refine Z.W0 ?_ | refine Z.X0 ?_); simp only [go_sem, seval]; try (simp (disch := omega) only [Z.w0]; try simp only [go_sem, seval])) | (refine hF _ _ ?_; clear hF F) | (refine Z.p0 ?_; simp only [St.put]) | refine Z.a0 ?_ | refine Z.b0 ?_ | refine Z.c0 ?_ | refine Z.d0 ?_ | refine Z.e0 ?_ | refine Z.f0 ?_ | refine Z.g0 ?_ | refine Z.h0 ?_ | refine Z.i0 rfl ?_ | refine Z.I0 ?_ | refine Z.J0 ?_ | refine Z.K0 ?_ | refine Z.L0 ?_ | refine Z.N0 ?_ | refine Z.j0 ?_ | refine Z.k0 ?_ | refine Z.l0 ?_ | refine Z.m0 ?_ | refine Z.n0 ?_ | refine Z.o0 ?_ | refine Z.q0 rfl rfl fun F hF => ?_ | refine Z.r0 rfl rfl rfl rfl fun F hF => ?_ | refine Z.H0 rfl rfl (fun F hF => ?_) | refine Z.A0 rfl rfl rfl fun F hF => ?_ | refine Z.B0 rfl rfl rfl fun F hF => ?_ | refine Z.s0 rfl rfl rfl rfl ?_ | refine Z.u0 rfl rfl rfl rfl ?_ | (refine Z.D0 ?_; simp only [St.put]) | refine Z.E0 rfl rfl rfl ?_ | refine Z.F0 rfl rfl rfl ?_ | refine W_drawn (id := 23) [0, 1, 0, 7, 15, 31, 63, 127, 63, 319, 831, 1855, 4095, 8191, 16383, 32767, 65535, 32767, 163839, 425983, 950271, 1998847, 4194303, 8388607] [.a 0, .a 2, .e 1 [2], .e 3 [], .a 4, .a 5, .a 6, .a 8, .a 9, .a 10, .a 11, .e 7 [8, 9, 10, 11], .a 12, .a 13, .a 14, .a 15, .a 17, .a 18, .a 19, .a 20, .a 21, .e 16 [17, 18, 19, 20, 21], .a 22, .a 23] mixed (by decide +kernel) ?_ | refine Z.C0 rfl rfl rfl fun F hF => ?_ | (refine hF _ _ ?_ ?_ <;> clear hF F) | refine Z.T0 rfl ?_ | refine Z.U0 rfl ?_ | (refine Z.t0 rfl rfl rfl rfl ?_ ?_ <;> (intro hg; simp only [hg, Bool.not_true, Bool.not_false]; simp only [Z.x0] at hg)) | refine And.intro (by omega) ?_ | (refine Z.G0 rfl rfl rfl rfl rfl ?_ ?_ <;> (intro hg; simp only [hg, Bool.not_true, Bool.not_false]; simp only [Z.x0] at hg)) | (refine Z.M0 rfl rfl rfl rfl rfl ?_ ?_ <;> (intro hg; simp only [hg, Bool.not_true, Bool.not_false]; simp only [Z.x0] at hg)) | (refine Z.V0 rfl ?_ ?_ <;> (intro hc; try simp only [hc]; simp only [Z.x0] at hc)))
  refine W_loop [0, 4, 5, 6, 7] (fun n s Hc => ∃ (i : Nat) (x y xa : AV) (l : Bs) (g : Bool) (la : List YR), n + i = ops.length ∧ Rs H Hc p x l g q y l g la xa ∧ l.length ≤ opsW (ops.take i) ∧ la.length ≤ i ∧ (∀ e ∈ la, e.2.length ≤ 1000000000) ∧ s = [(0, xo), (4, .ptr p 2 0 0), (5, .ptr q 2 0 0), (6, xa), (7, .v (.int .i64 i))]) ops.length ?_ ?_
  · simp only [St.keep, St.get, reduceIte, Nat.reduceEqDiff]
    exact ⟨0, _, _, _, [], false, [], by omega, R0, by simp [opsW], by simp, fun e he => by simp at he, rfl⟩
  clear R0 o3 nq e3 H3 r2 np e2 H2 e1 H1
  rintro n s Hc ⟨i, x, y, xa, l, g, la, hn, R, hlw, hla, hlen, rfl⟩
  have hx1 := hx.mono R.le
  have lx1 := hx1.len vt44
  rw [ho.len] at lx1
  have hwi := opsW_le ops i
  cases n with
  | zero =>
    obtain rfl : i = ops.length := by omega
    have d : decide ((ops.length : Int) < (ops.length : Int)) = false := by simp
    repeat' (first | ((first | refine Z.W0 ?_ | refine Z.X0 ?_); simp only [go_sem, seval, lx1, d]; try (simp (disch := omega) only [Z.w0]; try simp only [go_sem, seval, lx1, d])) | (refine hF _ _ ?_; clear hF F) | (refine Z.p0 ?_; simp only [St.put]) | refine Z.a0 ?_ | refine Z.b0 ?_ | refine Z.c0 ?_ | refine Z.d0 ?_ | refine Z.e0 ?_ | refine Z.f0 ?_ | refine Z.g0 ?_ | refine Z.h0 ?_ | refine Z.i0 rfl ?_ | refine Z.I0 ?_ | refine Z.J0 ?_ | refine Z.K0 ?_ | refine Z.L0 ?_ | refine Z.N0 ?_ | refine Z.j0 ?_ | refine Z.k0 ?_ | refine Z.l0 ?_ | refine Z.m0 ?_ | refine Z.n0 ?_ | refine Z.o0 ?_ | refine Z.q0 rfl rfl fun F hF => ?_ | refine Z.r0 rfl rfl rfl rfl fun F hF => ?_ | refine Z.H0 rfl rfl (fun F hF => ?_) | refine Z.A0 rfl rfl rfl fun F hF => ?_ | refine Z.B0 rfl rfl rfl fun F hF => ?_ | refine Z.s0 rfl rfl rfl rfl ?_ | refine Z.u0 rfl rfl rfl rfl ?_ | (refine Z.D0 ?_; simp only [St.put]) | refine Z.E0 rfl rfl rfl ?_ | refine Z.F0 rfl rfl rfl ?_ | refine W_drawn (id := 23) [0, 1, 0, 7, 15, 31, 63, 127, 63, 319, 831, 1855, 4095, 8191, 16383, 32767, 65535, 32767, 163839, 425983, 950271, 1998847, 4194303, 8388607] [.a 0, .a 2, .e 1 [2], .e 3 [], .a 4, .a 5, .a 6, .a 8, .a 9, .a 10, .a 11, .e 7 [8, 9, 10, 11], .a 12, .a 13, .a 14, .a 15, .a 17, .a 18, .a 19, .a 20, .a 21, .e 16 [17, 18, 19, 20, 21], .a 22, .a 23] mixed (by decide +kernel) ?_ | refine Z.C0 rfl rfl rfl fun F hF => ?_ | (refine hF _ _ ?_ ?_ <;> clear hF F) | refine Z.T0 rfl ?_ | refine Z.U0 rfl ?_ | (refine Z.t0 rfl rfl rfl rfl ?_ ?_ <;> (intro hg; simp only [hg, Bool.not_true, Bool.not_false]; simp only [Z.x0] at hg)) | refine And.intro (by omega) ?_ | (refine Z.G0 rfl rfl rfl rfl rfl ?_ ?_ <;> (intro hg; simp only [hg, Bool.not_true, Bool.not_false]; simp only [Z.x0] at hg)) | (refine Z.M0 rfl rfl rfl rfl rfl ?_ ?_ <;> (intro hg; simp only [hg, Bool.not_true, Bool.not_false]; simp only [Z.x0] at hg)) | (refine Z.V0 rfl ?_ ?_ <;> (intro hc; try simp only [hc]; simp only [Z.x0] at hc)))
    refine owned_ok (l := la) R.a.rd R.es ⟨fun a b ha hb hab c hc => R.each a b ha hb hab c hc, fun a ha c hc e => R.dae c e ⟨_, List.getElem_mem ha, hc⟩⟩ (by omega) hlen fun H' => ?_
    (refine hF _ _ ?_; clear hF F)
    repeat' (first | ((first | refine Z.W0 ?_ | refine Z.X0 ?_); simp only [go_sem, seval]; try (simp (disch := omega) only [Z.w0]; try simp only [go_sem, seval])) | (refine hF _ _ ?_; clear hF F) | (refine Z.p0 ?_; simp only [St.put]) | refine Z.a0 ?_ | refine Z.b0 ?_ | refine Z.c0 ?_ | refine Z.d0 ?_ | refine Z.e0 ?_ | refine Z.f0 ?_ | refine Z.g0 ?_ | refine Z.h0 ?_ | refine Z.i0 rfl ?_ | refine Z.I0 ?_ | refine Z.J0 ?_ | refine Z.K0 ?_ | refine Z.L0 ?_ | refine Z.N0 ?_ | refine Z.j0 ?_ | refine Z.k0 ?_ | refine Z.l0 ?_ | refine Z.m0 ?_ | refine Z.n0 ?_ | refine Z.o0 ?_ | refine Z.q0 rfl rfl fun F hF => ?_ | refine Z.r0 rfl rfl rfl rfl fun F hF => ?_ | refine Z.H0 rfl rfl (fun F hF => ?_) | refine Z.A0 rfl rfl rfl fun F hF => ?_ | refine Z.B0 rfl rfl rfl fun F hF => ?_ | refine Z.s0 rfl rfl rfl rfl ?_ | refine Z.u0 rfl rfl rfl rfl ?_ | (refine Z.D0 ?_; simp only [St.put]) | refine Z.E0 rfl rfl rfl ?_ | refine Z.F0 rfl rfl rfl ?_ | refine W_drawn (id := 23) [0, 1, 0, 7, 15, 31, 63, 127, 63, 319, 831, 1855, 4095, 8191, 16383, 32767, 65535, 32767, 163839, 425983, 950271, 1998847, 4194303, 8388607] [.a 0, .a 2, .e 1 [2], .e 3 [], .a 4, .a 5, .a 6, .a 8, .a 9, .a 10, .a 11, .e 7 [8, 9, 10, 11], .a 12, .a 13, .a 14, .a 15, .a 17, .a 18, .a 19, .a 20, .a 21, .e 16 [17, 18, 19, 20, 21], .a 22, .a 23] mixed (by decide +kernel) ?_ | refine Z.C0 rfl rfl rfl fun F hF => ?_ | (refine hF _ _ ?_ ?_ <;> clear hF F) | refine Z.T0 rfl ?_ | refine Z.U0 rfl ?_ | (refine Z.t0 rfl rfl rfl rfl ?_ ?_ <;> (intro hg; simp only [hg, Bool.not_true, Bool.not_false]; simp only [Z.x0] at hg)) | refine And.intro (by omega) ?_ | (refine Z.G0 rfl rfl rfl rfl rfl ?_ ?_ <;> (intro hg; simp only [hg, Bool.not_true, Bool.not_false]; simp only [Z.x0] at hg)) | (refine Z.M0 rfl rfl rfl rfl rfl ?_ ?_ <;> (intro hg; simp only [hg, Bool.not_true, Bool.not_false]; simp only [Z.x0] at hg)) | (refine Z.V0 rfl ?_ ?_ <;> (intro hc; try simp only [hc]; simp only [Z.x0] at hc)))
    simp only [retK, ares, pack, Tryd.results5, St.get, reduceIte, Nat.reduceEqDiff, aload, arow, List.toArray, Array.toList]
    exact hk _
  | succ n =>
    have hi : i < ops.length := by omega
    have d : decide ((i : Int) < (ops.length : Int)) = true := by simp; omega
    have wi : IntKind.i64.wrap ((i : Int) + 1) = ((i + 1 : Nat) : Int) := by rw [wrap_of] <;> omega
    have hw1 := opsW_take hi
    have hw2 := opsW_le ops (i + 1)
    have hi2 : i < rows.length := by rw [ho.len]; exact hi
    obtain ⟨yb, hyr, hyb⟩ := ho.get i hi hi2
    obtain ⟨pe, p0, p1, E⟩ := elO2 hx1 hi2 hyr (hyb.mono R.le)
    have few := R.r1.few
    have hc : ops[i].1 = 0 ∨ (ops[i].1 = 1 ∧ ready l = false) ∨ (ops[i].1 = 1 ∧ ready l = true) ∨ (ops[i].1 ≠ 0 ∧ ops[i].1 ≠ 1) := by
      cases ready l <;> simp <;> omega
    rcases hc with c0 | ⟨c0, hr⟩ | ⟨c0, hr⟩ | ⟨c0, c1⟩
    case' inl =>
      have d0 : (ops[i].1 == 0) = true := beq_iff_eq.2 c0
      have d1 : (ops[i].1 == 1) = false := beq_eq_false_iff_ne.2 (by omega)
      repeat' (first | ((first | refine Z.W0 ?_ | refine Z.X0 ?_); simp only [go_sem, seval, lx1, d, E.idx, E.fld0, E.load0, E.fld1, E.load1, d0]; try (simp (disch := omega) only [Z.w0]; try simp only [go_sem, seval, lx1, d, E.idx, E.fld0, E.load0, E.fld1, E.load1, d0])) | (refine hF _ _ ?_; clear hF F) | (refine Z.p0 ?_; simp only [St.put]) | refine Z.a0 ?_ | refine Z.b0 ?_ | refine Z.c0 ?_ | refine Z.d0 ?_ | refine Z.e0 ?_ | refine Z.f0 ?_ | refine Z.g0 ?_ | refine Z.h0 ?_ | refine Z.i0 rfl ?_ | refine Z.I0 ?_ | refine Z.J0 ?_ | refine Z.K0 ?_ | refine Z.L0 ?_ | refine Z.N0 ?_ | refine Z.j0 ?_ | refine Z.k0 ?_ | refine Z.l0 ?_ | refine Z.m0 ?_ | refine Z.n0 ?_ | refine Z.o0 ?_ | refine Z.q0 rfl rfl fun F hF => ?_ | refine Z.r0 rfl rfl rfl rfl fun F hF => ?_ | refine Z.H0 rfl rfl (fun F hF => ?_) | refine Z.A0 rfl rfl rfl fun F hF => ?_ | refine Z.B0 rfl rfl rfl fun F hF => ?_ | refine Z.s0 rfl rfl rfl rfl ?_ | refine Z.u0 rfl rfl rfl rfl ?_ | (refine Z.D0 ?_; simp only [St.put]) | refine Z.E0 rfl rfl rfl ?_ | refine Z.F0 rfl rfl rfl ?_ | refine W_drawn (id := 23) [0, 1, 0, 7, 15, 31, 63, 127, 63, 319, 831, 1855, 4095, 8191, 16383, 32767, 65535, 32767, 163839, 425983, 950271, 1998847, 4194303, 8388607] [.a 0, .a 2, .e 1 [2], .e 3 [], .a 4, .a 5, .a 6, .a 8, .a 9, .a 10, .a 11, .e 7 [8, 9, 10, 11], .a 12, .a 13, .a 14, .a 15, .a 17, .a 18, .a 19, .a 20, .a 21, .e 16 [17, 18, 19, 20, 21], .a 22, .a 23] mixed (by decide +kernel) ?_ | refine Z.C0 rfl rfl rfl fun F hF => ?_ | (refine hF _ _ ?_ ?_ <;> clear hF F) | refine Z.T0 rfl ?_ | refine Z.U0 rfl ?_ | (refine Z.t0 rfl rfl rfl rfl ?_ ?_ <;> (intro hg; simp only [hg, Bool.not_true, Bool.not_false]; simp only [Z.x0] at hg)) | refine And.intro (by omega) ?_ | (refine Z.G0 rfl rfl rfl rfl rfl ?_ ?_ <;> (intro hg; simp only [hg, Bool.not_true, Bool.not_false]; simp only [Z.x0] at hg)) | (refine Z.M0 rfl rfl rfl rfl rfl ?_ ?_ <;> (intro hg; simp only [hg, Bool.not_true, Bool.not_false]; simp only [Z.x0] at hg)) | (refine Z.V0 rfl ?_ ?_ <;> (intro hc; try simp only [hc]; simp only [Z.x0] at hc)))
      refine lent_ok E.rd (by omega) fun H2 z e2 nz L2 => ?_
      have R2 := R.mono e2
      (refine hF _ _ ?_; clear hF F)
      repeat' (first | ((first | refine Z.W0 ?_ | refine Z.X0 ?_); simp only [go_sem, seval]; try (simp (disch := omega) only [Z.w0]; try simp only [go_sem, seval])) | (refine hF _ _ ?_; clear hF F) | (refine Z.p0 ?_; simp only [St.put]) | refine Z.a0 ?_ | refine Z.b0 ?_ | refine Z.c0 ?_ | refine Z.d0 ?_ | refine Z.e0 ?_ | refine Z.f0 ?_ | refine Z.g0 ?_ | refine Z.h0 ?_ | refine Z.i0 rfl ?_ | refine Z.I0 ?_ | refine Z.J0 ?_ | refine Z.K0 ?_ | refine Z.L0 ?_ | refine Z.N0 ?_ | refine Z.j0 ?_ | refine Z.k0 ?_ | refine Z.l0 ?_ | refine Z.m0 ?_ | refine Z.n0 ?_ | refine Z.o0 ?_ | refine Z.q0 rfl rfl fun F hF => ?_ | refine Z.r0 rfl rfl rfl rfl fun F hF => ?_ | refine Z.H0 rfl rfl (fun F hF => ?_) | refine Z.A0 rfl rfl rfl fun F hF => ?_ | refine Z.B0 rfl rfl rfl fun F hF => ?_ | refine Z.s0 rfl rfl rfl rfl ?_ | refine Z.u0 rfl rfl rfl rfl ?_ | (refine Z.D0 ?_; simp only [St.put]) | refine Z.E0 rfl rfl rfl ?_ | refine Z.F0 rfl rfl rfl ?_ | refine W_drawn (id := 23) [0, 1, 0, 7, 15, 31, 63, 127, 63, 319, 831, 1855, 4095, 8191, 16383, 32767, 65535, 32767, 163839, 425983, 950271, 1998847, 4194303, 8388607] [.a 0, .a 2, .e 1 [2], .e 3 [], .a 4, .a 5, .a 6, .a 8, .a 9, .a 10, .a 11, .e 7 [8, 9, 10, 11], .a 12, .a 13, .a 14, .a 15, .a 17, .a 18, .a 19, .a 20, .a 21, .e 16 [17, 18, 19, 20, 21], .a 22, .a 23] mixed (by decide +kernel) ?_ | refine Z.C0 rfl rfl rfl fun F hF => ?_ | (refine hF _ _ ?_ ?_ <;> clear hF F) | refine Z.T0 rfl ?_ | refine Z.U0 rfl ?_ | (refine Z.t0 rfl rfl rfl rfl ?_ ?_ <;> (intro hg; simp only [hg, Bool.not_true, Bool.not_false]; simp only [Z.x0] at hg)) | refine And.intro (by omega) ?_ | (refine Z.G0 rfl rfl rfl rfl rfl ?_ ?_ <;> (intro hg; simp only [hg, Bool.not_true, Bool.not_false]; simp only [Z.x0] at hg)) | (refine Z.M0 rfl rfl rfl rfl rfl ?_ ?_ <;> (intro hg; simp only [hg, Bool.not_true, Bool.not_false]; simp only [Z.x0] at hg)) | (refine Z.V0 rfl ?_ ?_ <;> (intro hc; try simp only [hc]; simp only [Z.x0] at hc)))
      refine feed_ok R2.r1 L2.rd (by omega) fun H3 x3 w3 r3 => ?_
      have R3 := R2.op w3 r3
      have z0 : H z = none := R.le.none nz
      have znp : ∀ c, SR p x c → c ≠ z := fun c hc e => by obtain ⟨o, ho⟩ := R.r1.has hc; rw [e, nz] at ho; cases ho
      have znq : ¬ SR q y z := fun hc => by obtain ⟨o, ho⟩ := R.r2.has hc; rw [nz] at ho; cases ho
      have zna : xa.blk ≠ some z := fun hc => by have := R.a.atb hc; rw [nz] at this; cases this
      have zne : ¬ SE la z := fun hc => by obtain ⟨o, ho⟩ := R.ehas hc; rw [nz] at ho; cases ho
      have zn3 : ¬ SR p x3 z := fun hc => by
        rcases hc with hc | hc
        · exact znp z (.inl hc) rfl
        · rcases w3.new z hc with e | e | e
          · exact znp z (.inl e) rfl
          · exact znp z (.inr e) rfl
          · rw [L2.blk] at e; cases e
      have L3 : Lent H3 z ops[i].2 := ⟨w3.keep z _ L2.blk (fun e => znp z (.inl e) rfl) (fun e => znp z (.inr e) rfl)⟩
      obtain ⟨pe3, p03, p13, E3⟩ := elO2 (hx.mono R3.le) hi2 hyr (hyb.mono R3.le)
      have hyz : yb.blk ≠ some z := fun e => by
        obtain ⟨o, ho⟩ := rdS_has hyb e
        rw [z0] at ho; cases ho
      (refine hF _ _ ?_; clear hF F)
      repeat' (first | ((first | refine Z.W0 ?_ | refine Z.X0 ?_); simp only [go_sem, seval, E3.idx, E3.fld1, E3.load1]; try (simp (disch := omega) only [Z.w0]; try simp only [go_sem, seval, E3.idx, E3.fld1, E3.load1])) | (refine hF _ _ ?_; clear hF F) | (refine Z.p0 ?_; simp only [St.put]) | refine Z.a0 ?_ | refine Z.b0 ?_ | refine Z.c0 ?_ | refine Z.d0 ?_ | refine Z.e0 ?_ | refine Z.f0 ?_ | refine Z.g0 ?_ | refine Z.h0 ?_ | refine Z.i0 rfl ?_ | refine Z.I0 ?_ | refine Z.J0 ?_ | refine Z.K0 ?_ | refine Z.L0 ?_ | refine Z.N0 ?_ | refine Z.j0 ?_ | refine Z.k0 ?_ | refine Z.l0 ?_ | refine Z.m0 ?_ | refine Z.n0 ?_ | refine Z.o0 ?_ | refine Z.q0 rfl rfl fun F hF => ?_ | refine Z.r0 rfl rfl rfl rfl fun F hF => ?_ | refine Z.H0 rfl rfl (fun F hF => ?_) | refine Z.A0 rfl rfl rfl fun F hF => ?_ | refine Z.B0 rfl rfl rfl fun F hF => ?_ | refine Z.s0 rfl rfl rfl rfl ?_ | refine Z.u0 rfl rfl rfl rfl ?_ | (refine Z.D0 ?_; simp only [St.put]) | refine Z.E0 rfl rfl rfl ?_ | refine Z.F0 rfl rfl rfl ?_ | refine W_drawn (id := 23) [0, 1, 0, 7, 15, 31, 63, 127, 63, 319, 831, 1855, 4095, 8191, 16383, 32767, 65535, 32767, 163839, 425983, 950271, 1998847, 4194303, 8388607] [.a 0, .a 2, .e 1 [2], .e 3 [], .a 4, .a 5, .a 6, .a 8, .a 9, .a 10, .a 11, .e 7 [8, 9, 10, 11], .a 12, .a 13, .a 14, .a 15, .a 17, .a 18, .a 19, .a 20, .a 21, .e 16 [17, 18, 19, 20, 21], .a 22, .a 23] mixed (by decide +kernel) ?_ | refine Z.C0 rfl rfl rfl fun F hF => ?_ | (refine hF _ _ ?_ ?_ <;> clear hF F) | refine Z.T0 rfl ?_ | refine Z.U0 rfl ?_ | (refine Z.t0 rfl rfl rfl rfl ?_ ?_ <;> (intro hg; simp only [hg, Bool.not_true, Bool.not_false]; simp only [Z.x0] at hg)) | refine And.intro (by omega) ?_ | (refine Z.G0 rfl rfl rfl rfl rfl ?_ ?_ <;> (intro hg; simp only [hg, Bool.not_true, Bool.not_false]; simp only [Z.x0] at hg)) | (refine Z.M0 rfl rfl rfl rfl rfl ?_ ?_ <;> (intro hg; simp only [hg, Bool.not_true, Bool.not_false]; simp only [Z.x0] at hg)) | (refine Z.V0 rfl ?_ ?_ <;> (intro hc; try simp only [hc]; simp only [Z.x0] at hc)))
      refine back_lent L3 E3.rd hyz (by omega) fun H4 k4 => ?_
      have R4 := R3.but k4 z0 zn3 znq zna zne
      obtain ⟨pe4, p04, p14, E4⟩ := elO2 (hx.mono R4.le) hi2 hyr (hyb.mono R4.le)
      (refine hF _ _ ?_; clear hF F)
      repeat' (first | ((first | refine Z.W0 ?_ | refine Z.X0 ?_); simp only [go_sem, seval, E4.idx, E4.fld1, E4.load1]; try (simp (disch := omega) only [Z.w0]; try simp only [go_sem, seval, E4.idx, E4.fld1, E4.load1])) | (refine hF _ _ ?_; clear hF F) | (refine Z.p0 ?_; simp only [St.put]) | refine Z.a0 ?_ | refine Z.b0 ?_ | refine Z.c0 ?_ | refine Z.d0 ?_ | refine Z.e0 ?_ | refine Z.f0 ?_ | refine Z.g0 ?_ | refine Z.h0 ?_ | refine Z.i0 rfl ?_ | refine Z.I0 ?_ | refine Z.J0 ?_ | refine Z.K0 ?_ | refine Z.L0 ?_ | refine Z.N0 ?_ | refine Z.j0 ?_ | refine Z.k0 ?_ | refine Z.l0 ?_ | refine Z.m0 ?_ | refine Z.n0 ?_ | refine Z.o0 ?_ | refine Z.q0 rfl rfl fun F hF => ?_ | refine Z.r0 rfl rfl rfl rfl fun F hF => ?_ | refine Z.H0 rfl rfl (fun F hF => ?_) | refine Z.A0 rfl rfl rfl fun F hF => ?_ | refine Z.B0 rfl rfl rfl fun F hF => ?_ | refine Z.s0 rfl rfl rfl rfl ?_ | refine Z.u0 rfl rfl rfl rfl ?_ | (refine Z.D0 ?_; simp only [St.put]) | refine Z.E0 rfl rfl rfl ?_ | refine Z.F0 rfl rfl rfl ?_ | refine W_drawn (id := 23) [0, 1, 0, 7, 15, 31, 63, 127, 63, 319, 831, 1855, 4095, 8191, 16383, 32767, 65535, 32767, 163839, 425983, 950271, 1998847, 4194303, 8388607] [.a 0, .a 2, .e 1 [2], .e 3 [], .a 4, .a 5, .a 6, .a 8, .a 9, .a 10, .a 11, .e 7 [8, 9, 10, 11], .a 12, .a 13, .a 14, .a 15, .a 17, .a 18, .a 19, .a 20, .a 21, .e 16 [17, 18, 19, 20, 21], .a 22, .a 23] mixed (by decide +kernel) ?_ | refine Z.C0 rfl rfl rfl fun F hF => ?_ | (refine hF _ _ ?_ ?_ <;> clear hF F) | refine Z.T0 rfl ?_ | refine Z.U0 rfl ?_ | (refine Z.t0 rfl rfl rfl rfl ?_ ?_ <;> (intro hg; simp only [hg, Bool.not_true, Bool.not_false]; simp only [Z.x0] at hg)) | refine And.intro (by omega) ?_ | (refine Z.G0 rfl rfl rfl rfl rfl ?_ ?_ <;> (intro hg; simp only [hg, Bool.not_true, Bool.not_false]; simp only [Z.x0] at hg)) | (refine Z.M0 rfl rfl rfl rfl rfl ?_ ?_ <;> (intro hg; simp only [hg, Bool.not_true, Bool.not_false]; simp only [Z.x0] at hg)) | (refine Z.V0 rfl ?_ ?_ <;> (intro hc; try simp only [hc]; simp only [Z.x0] at hc)))
      have R4s := R4.swap
      refine refFeed_ok R4s.r1 E4.rd (by omega) fun H5 y5 w5 r5 => ?_
      have RE := (R4s.op w5 r5).swap
      obtain ⟨pe5, p05, p15, E5⟩ := elO2 (hx.mono RE.le) hi2 hyr (hyb.mono RE.le)
      have hfl := feed_len l ops[i].2 g
      have hlE : (feed l g ops[i].2).1.length ≤ opsW (ops.take (i + 1)) := by omega
      have hlaE : la.length ≤ i + 1 := by omega
      have hlenE := hlen
      generalize hl5 : (feed l g ops[i].2).1 = l5 at RE hlE
      generalize hg5 : (feed l g ops[i].2).2 = g5 at RE
      (refine hF _ _ ?_; clear hF F)
      repeat' (first | ((first | refine Z.W0 ?_ | refine Z.X0 ?_); simp only [go_sem, seval, E5.idx, E5.fld0, E5.load0, d1]; try (simp (disch := omega) only [Z.w0]; try simp only [go_sem, seval, E5.idx, E5.fld0, E5.load0, d1])) | (refine hF _ _ ?_; clear hF F) | (refine Z.p0 ?_; simp only [St.put]) | refine Z.a0 ?_ | refine Z.b0 ?_ | refine Z.c0 ?_ | refine Z.d0 ?_ | refine Z.e0 ?_ | refine Z.f0 ?_ | refine Z.g0 ?_ | refine Z.h0 ?_ | refine Z.i0 rfl ?_ | refine Z.I0 ?_ | refine Z.J0 ?_ | refine Z.K0 ?_ | refine Z.L0 ?_ | refine Z.N0 ?_ | refine Z.j0 ?_ | refine Z.k0 ?_ | refine Z.l0 ?_ | refine Z.m0 ?_ | refine Z.n0 ?_ | refine Z.o0 ?_ | refine Z.q0 rfl rfl fun F hF => ?_ | refine Z.r0 rfl rfl rfl rfl fun F hF => ?_ | refine Z.H0 rfl rfl (fun F hF => ?_) | refine Z.A0 rfl rfl rfl fun F hF => ?_ | refine Z.B0 rfl rfl rfl fun F hF => ?_ | refine Z.s0 rfl rfl rfl rfl ?_ | refine Z.u0 rfl rfl rfl rfl ?_ | (refine Z.D0 ?_; simp only [St.put]) | refine Z.E0 rfl rfl rfl ?_ | refine Z.F0 rfl rfl rfl ?_ | refine W_drawn (id := 23) [0, 1, 0, 7, 15, 31, 63, 127, 63, 319, 831, 1855, 4095, 8191, 16383, 32767, 65535, 32767, 163839, 425983, 950271, 1998847, 4194303, 8388607] [.a 0, .a 2, .e 1 [2], .e 3 [], .a 4, .a 5, .a 6, .a 8, .a 9, .a 10, .a 11, .e 7 [8, 9, 10, 11], .a 12, .a 13, .a 14, .a 15, .a 17, .a 18, .a 19, .a 20, .a 21, .e 16 [17, 18, 19, 20, 21], .a 22, .a 23] mixed (by decide +kernel) ?_ | refine Z.C0 rfl rfl rfl fun F hF => ?_ | (refine hF _ _ ?_ ?_ <;> clear hF F) | refine Z.T0 rfl ?_ | refine Z.U0 rfl ?_ | (refine Z.t0 rfl rfl rfl rfl ?_ ?_ <;> (intro hg; simp only [hg, Bool.not_true, Bool.not_false]; simp only [Z.x0] at hg)) | refine And.intro (by omega) ?_ | (refine Z.G0 rfl rfl rfl rfl rfl ?_ ?_ <;> (intro hg; simp only [hg, Bool.not_true, Bool.not_false]; simp only [Z.x0] at hg)) | (refine Z.M0 rfl rfl rfl rfl rfl ?_ ?_ <;> (intro hg; simp only [hg, Bool.not_true, Bool.not_false]; simp only [Z.x0] at hg)) | (refine Z.V0 rfl ?_ ?_ <;> (intro hc; try simp only [hc]; simp only [Z.x0] at hc)))
    case' inr.inl =>
      have d0 : (ops[i].1 == 0) = false := beq_eq_false_iff_ne.2 (by omega)
      have d1 : (ops[i].1 == 1) = true := beq_iff_eq.2 c0
      repeat' (first | ((first | refine Z.W0 ?_ | refine Z.X0 ?_); simp only [go_sem, seval, lx1, d, E.idx, E.fld0, E.load0, d0, d1]; try (simp (disch := omega) only [Z.w0]; try simp only [go_sem, seval, lx1, d, E.idx, E.fld0, E.load0, d0, d1])) | (refine hF _ _ ?_; clear hF F) | (refine Z.p0 ?_; simp only [St.put]) | refine Z.a0 ?_ | refine Z.b0 ?_ | refine Z.c0 ?_ | refine Z.d0 ?_ | refine Z.e0 ?_ | refine Z.f0 ?_ | refine Z.g0 ?_ | refine Z.h0 ?_ | refine Z.i0 rfl ?_ | refine Z.I0 ?_ | refine Z.J0 ?_ | refine Z.K0 ?_ | refine Z.L0 ?_ | refine Z.N0 ?_ | refine Z.j0 ?_ | refine Z.k0 ?_ | refine Z.l0 ?_ | refine Z.m0 ?_ | refine Z.n0 ?_ | refine Z.o0 ?_ | refine Z.q0 rfl rfl fun F hF => ?_ | refine Z.r0 rfl rfl rfl rfl fun F hF => ?_ | refine Z.H0 rfl rfl (fun F hF => ?_) | refine Z.A0 rfl rfl rfl fun F hF => ?_ | refine Z.B0 rfl rfl rfl fun F hF => ?_ | refine Z.s0 rfl rfl rfl rfl ?_ | refine Z.u0 rfl rfl rfl rfl ?_ | (refine Z.D0 ?_; simp only [St.put]) | refine Z.E0 rfl rfl rfl ?_ | refine Z.F0 rfl rfl rfl ?_ | refine W_drawn (id := 23) [0, 1, 0, 7, 15, 31, 63, 127, 63, 319, 831, 1855, 4095, 8191, 16383, 32767, 65535, 32767, 163839, 425983, 950271, 1998847, 4194303, 8388607] [.a 0, .a 2, .e 1 [2], .e 3 [], .a 4, .a 5, .a 6, .a 8, .a 9, .a 10, .a 11, .e 7 [8, 9, 10, 11], .a 12, .a 13, .a 14, .a 15, .a 17, .a 18, .a 19, .a 20, .a 21, .e 16 [17, 18, 19, 20, 21], .a 22, .a 23] mixed (by decide +kernel) ?_ | refine Z.C0 rfl rfl rfl fun F hF => ?_ | (refine hF _ _ ?_ ?_ <;> clear hF F) | refine Z.T0 rfl ?_ | refine Z.U0 rfl ?_ | (refine Z.t0 rfl rfl rfl rfl ?_ ?_ <;> (intro hg; simp only [hg, Bool.not_true, Bool.not_false]; simp only [Z.x0] at hg)) | refine And.intro (by omega) ?_ | (refine Z.G0 rfl rfl rfl rfl rfl ?_ ?_ <;> (intro hg; simp only [hg, Bool.not_true, Bool.not_false]; simp only [Z.x0] at hg)) | (refine Z.M0 rfl rfl rfl rfl rfl ?_ ?_ <;> (intro hg; simp only [hg, Bool.not_true, Bool.not_false]; simp only [Z.x0] at hg)) | (refine Z.V0 rfl ?_ ?_ <;> (intro hc; try simp only [hc]; simp only [Z.x0] at hc)))
      refine next_none R.r1 hr ?_
      (refine hF _ _ ?_; clear hF F)
      repeat' (first | ((first | refine Z.W0 ?_ | refine Z.X0 ?_); simp only [go_sem, seval]; try (simp (disch := omega) only [Z.w0]; try simp only [go_sem, seval])) | (refine hF _ _ ?_; clear hF F) | (refine Z.p0 ?_; simp only [St.put]) | refine Z.a0 ?_ | refine Z.b0 ?_ | refine Z.c0 ?_ | refine Z.d0 ?_ | refine Z.e0 ?_ | refine Z.f0 ?_ | refine Z.g0 ?_ | refine Z.h0 ?_ | refine Z.i0 rfl ?_ | refine Z.I0 ?_ | refine Z.J0 ?_ | refine Z.K0 ?_ | refine Z.L0 ?_ | refine Z.N0 ?_ | refine Z.j0 ?_ | refine Z.k0 ?_ | refine Z.l0 ?_ | refine Z.m0 ?_ | refine Z.n0 ?_ | refine Z.o0 ?_ | refine Z.q0 rfl rfl fun F hF => ?_ | refine Z.r0 rfl rfl rfl rfl fun F hF => ?_ | refine Z.H0 rfl rfl (fun F hF => ?_) | refine Z.A0 rfl rfl rfl fun F hF => ?_ | refine Z.B0 rfl rfl rfl fun F hF => ?_ | refine Z.s0 rfl rfl rfl rfl ?_ | refine Z.u0 rfl rfl rfl rfl ?_ | (refine Z.D0 ?_; simp only [St.put]) | refine Z.E0 rfl rfl rfl ?_ | refine Z.F0 rfl rfl rfl ?_ | refine W_drawn (id := 23) [0, 1, 0, 7, 15, 31, 63, 127, 63, 319, 831, 1855, 4095, 8191, 16383, 32767, 65535, 32767, 163839, 425983, 950271, 1998847, 4194303, 8388607] [.a 0, .a 2, .e 1 [2], .e 3 [], .a 4, .a 5, .a 6, .a 8, .a 9, .a 10, .a 11, .e 7 [8, 9, 10, 11], .a 12, .a 13, .a 14, .a 15, .a 17, .a 18, .a 19, .a 20, .a 21, .e 16 [17, 18, 19, 20, 21], .a 22, .a 23] mixed (by decide +kernel) ?_ | refine Z.C0 rfl rfl rfl fun F hF => ?_ | (refine hF _ _ ?_ ?_ <;> clear hF F) | refine Z.T0 rfl ?_ | refine Z.U0 rfl ?_ | (refine Z.t0 rfl rfl rfl rfl ?_ ?_ <;> (intro hg; simp only [hg, Bool.not_true, Bool.not_false]; simp only [Z.x0] at hg)) | refine And.intro (by omega) ?_ | (refine Z.G0 rfl rfl rfl rfl rfl ?_ ?_ <;> (intro hg; simp only [hg, Bool.not_true, Bool.not_false]; simp only [Z.x0] at hg)) | (refine Z.M0 rfl rfl rfl rfl rfl ?_ ?_ <;> (intro hg; simp only [hg, Bool.not_true, Bool.not_false]; simp only [Z.x0] at hg)) | (refine Z.V0 rfl ?_ ?_ <;> (intro hc; try simp only [hc]; simp only [Z.x0] at hc)))
      refine refNext_none R.r2 hr ?_
      have on : Ow Hc 1 (rowsB []) (.v (.slice none 0 0)) := .nil
      have cn := convB on.rd
      obtain ⟨Hb, hon, hsame⟩ := R.a.on
      (refine hF _ _ ?_; clear hF F)
      repeat' (first | ((first | refine Z.W0 ?_ | refine Z.X0 ?_); simp only [go_sem, seval, cn, on.cell, on.rd.cells]; try (simp (disch := omega) only [Z.w0]; try simp only [go_sem, seval, cn, on.cell, on.rd.cells])) | (refine hF _ _ ?_; clear hF F) | (refine Z.p0 ?_; simp only [St.put]) | refine Z.a0 ?_ | refine Z.b0 ?_ | refine Z.c0 ?_ | refine Z.d0 ?_ | refine Z.e0 ?_ | refine Z.f0 ?_ | refine Z.g0 ?_ | refine Z.h0 ?_ | refine Z.i0 rfl ?_ | refine Z.I0 ?_ | refine Z.J0 ?_ | refine Z.K0 ?_ | refine Z.L0 ?_ | refine Z.N0 ?_ | refine Z.j0 ?_ | refine Z.k0 ?_ | refine Z.l0 ?_ | refine Z.m0 ?_ | refine Z.n0 ?_ | refine Z.o0 ?_ | refine Z.q0 rfl rfl fun F hF => ?_ | refine Z.r0 rfl rfl rfl rfl fun F hF => ?_ | refine Z.H0 rfl rfl (fun F hF => ?_) | refine Z.A0 rfl rfl rfl fun F hF => ?_ | refine Z.B0 rfl rfl rfl fun F hF => ?_ | refine Z.s0 rfl rfl rfl rfl ?_ | refine Z.u0 rfl rfl rfl rfl ?_ | (refine Z.D0 ?_; simp only [St.put]) | refine Z.E0 rfl rfl rfl ?_ | refine Z.F0 rfl rfl rfl ?_ | refine W_drawn (id := 23) [0, 1, 0, 7, 15, 31, 63, 127, 63, 319, 831, 1855, 4095, 8191, 16383, 32767, 65535, 32767, 163839, 425983, 950271, 1998847, 4194303, 8388607] [.a 0, .a 2, .e 1 [2], .e 3 [], .a 4, .a 5, .a 6, .a 8, .a 9, .a 10, .a 11, .e 7 [8, 9, 10, 11], .a 12, .a 13, .a 14, .a 15, .a 17, .a 18, .a 19, .a 20, .a 21, .e 16 [17, 18, 19, 20, 21], .a 22, .a 23] mixed (by decide +kernel) ?_ | refine Z.C0 rfl rfl rfl fun F hF => ?_ | (refine hF _ _ ?_ ?_ <;> clear hF F) | refine Z.T0 rfl ?_ | refine Z.U0 rfl ?_ | (refine Z.t0 rfl rfl rfl rfl ?_ ?_ <;> (intro hg; simp only [hg, Bool.not_true, Bool.not_false]; simp only [Z.x0] at hg)) | refine And.intro (by omega) ?_ | (refine Z.G0 rfl rfl rfl rfl rfl ?_ ?_ <;> (intro hg; simp only [hg, Bool.not_true, Bool.not_false]; simp only [Z.x0] at hg)) | (refine Z.M0 rfl rfl rfl rfl rfl ?_ ?_ <;> (intro hg; simp only [hg, Bool.not_true, Bool.not_false]; simp only [Z.x0] at hg)) | (refine Z.V0 rfl ?_ ?_ <;> (intro hc; try simp only [hc]; simp only [Z.x0] at hc)))
      refine hon.app vt36 rfl rfl Tryd.underlying36 (fun k => by simp) (fun G => by simp [asrc]; rfl) (by simp; omega) fun xa' H3 hx' => ?_
      have RE := R.put (f := []) on (fun c hc => by cases hc) (hon.turned hx') (by rw [List.map_append]; exact hx'.ow)
      have hlE : l.length ≤ opsW (ops.take (i + 1)) := by omega
      have hlaE : (la ++ [((.v (.slice none 0 0) : AV), ([] : Bs))]).length ≤ i + 1 := by simp; omega
      have hlenE : ∀ e ∈ la ++ [((.v (.slice none 0 0) : AV), ([] : Bs))], e.2.length ≤ 1000000000 := fun e he => by
        rcases List.mem_append.1 he with he | he
        · exact hlen e he
        · obtain rfl := List.mem_singleton.1 he
          simp
      (refine hF _ _ ?_; clear hF F)
      repeat' (first | ((first | refine Z.W0 ?_ | refine Z.X0 ?_); simp only [go_sem, seval]; try (simp (disch := omega) only [Z.w0]; try simp only [go_sem, seval])) | (refine hF _ _ ?_; clear hF F) | (refine Z.p0 ?_; simp only [St.put]) | refine Z.a0 ?_ | refine Z.b0 ?_ | refine Z.c0 ?_ | refine Z.d0 ?_ | refine Z.e0 ?_ | refine Z.f0 ?_ | refine Z.g0 ?_ | refine Z.h0 ?_ | refine Z.i0 rfl ?_ | refine Z.I0 ?_ | refine Z.J0 ?_ | refine Z.K0 ?_ | refine Z.L0 ?_ | refine Z.N0 ?_ | refine Z.j0 ?_ | refine Z.k0 ?_ | refine Z.l0 ?_ | refine Z.m0 ?_ | refine Z.n0 ?_ | refine Z.o0 ?_ | refine Z.q0 rfl rfl fun F hF => ?_ | refine Z.r0 rfl rfl rfl rfl fun F hF => ?_ | refine Z.H0 rfl rfl (fun F hF => ?_) | refine Z.A0 rfl rfl rfl fun F hF => ?_ | refine Z.B0 rfl rfl rfl fun F hF => ?_ | refine Z.s0 rfl rfl rfl rfl ?_ | refine Z.u0 rfl rfl rfl rfl ?_ | (refine Z.D0 ?_; simp only [St.put]) | refine Z.E0 rfl rfl rfl ?_ | refine Z.F0 rfl rfl rfl ?_ | refine W_drawn (id := 23) [0, 1, 0, 7, 15, 31, 63, 127, 63, 319, 831, 1855, 4095, 8191, 16383, 32767, 65535, 32767, 163839, 425983, 950271, 1998847, 4194303, 8388607] [.a 0, .a 2, .e 1 [2], .e 3 [], .a 4, .a 5, .a 6, .a 8, .a 9, .a 10, .a 11, .e 7 [8, 9, 10, 11], .a 12, .a 13, .a 14, .a 15, .a 17, .a 18, .a 19, .a 20, .a 21, .e 16 [17, 18, 19, 20, 21], .a 22, .a 23] mixed (by decide +kernel) ?_ | refine Z.C0 rfl rfl rfl fun F hF => ?_ | (refine hF _ _ ?_ ?_ <;> clear hF F) | refine Z.T0 rfl ?_ | refine Z.U0 rfl ?_ | (refine Z.t0 rfl rfl rfl rfl ?_ ?_ <;> (intro hg; simp only [hg, Bool.not_true, Bool.not_false]; simp only [Z.x0] at hg)) | refine And.intro (by omega) ?_ | (refine Z.G0 rfl rfl rfl rfl rfl ?_ ?_ <;> (intro hg; simp only [hg, Bool.not_true, Bool.not_false]; simp only [Z.x0] at hg)) | (refine Z.M0 rfl rfl rfl rfl rfl ?_ ?_ <;> (intro hg; simp only [hg, Bool.not_true, Bool.not_false]; simp only [Z.x0] at hg)) | (refine Z.V0 rfl ?_ ?_ <;> (intro hc; try simp only [hc]; simp only [Z.x0] at hc)))
    case' inr.inr.inl =>
      have d0 : (ops[i].1 == 0) = false := beq_eq_false_iff_ne.2 (by omega)
      have d1 : (ops[i].1 == 1) = true := beq_iff_eq.2 c0
      repeat' (first | ((first | refine Z.W0 ?_ | refine Z.X0 ?_); simp only [go_sem, seval, lx1, d, E.idx, E.fld0, E.load0, d0, d1]; try (simp (disch := omega) only [Z.w0]; try simp only [go_sem, seval, lx1, d, E.idx, E.fld0, E.load0, d0, d1])) | (refine hF _ _ ?_; clear hF F) | (refine Z.p0 ?_; simp only [St.put]) | refine Z.a0 ?_ | refine Z.b0 ?_ | refine Z.c0 ?_ | refine Z.d0 ?_ | refine Z.e0 ?_ | refine Z.f0 ?_ | refine Z.g0 ?_ | refine Z.h0 ?_ | refine Z.i0 rfl ?_ | refine Z.I0 ?_ | refine Z.J0 ?_ | refine Z.K0 ?_ | refine Z.L0 ?_ | refine Z.N0 ?_ | refine Z.j0 ?_ | refine Z.k0 ?_ | refine Z.l0 ?_ | refine Z.m0 ?_ | refine Z.n0 ?_ | refine Z.o0 ?_ | refine Z.q0 rfl rfl fun F hF => ?_ | refine Z.r0 rfl rfl rfl rfl fun F hF => ?_ | refine Z.H0 rfl rfl (fun F hF => ?_) | refine Z.A0 rfl rfl rfl fun F hF => ?_ | refine Z.B0 rfl rfl rfl fun F hF => ?_ | refine Z.s0 rfl rfl rfl rfl ?_ | refine Z.u0 rfl rfl rfl rfl ?_ | (refine Z.D0 ?_; simp only [St.put]) | refine Z.E0 rfl rfl rfl ?_ | refine Z.F0 rfl rfl rfl ?_ | refine W_drawn (id := 23) [0, 1, 0, 7, 15, 31, 63, 127, 63, 319, 831, 1855, 4095, 8191, 16383, 32767, 65535, 32767, 163839, 425983, 950271, 1998847, 4194303, 8388607] [.a 0, .a 2, .e 1 [2], .e 3 [], .a 4, .a 5, .a 6, .a 8, .a 9, .a 10, .a 11, .e 7 [8, 9, 10, 11], .a 12, .a 13, .a 14, .a 15, .a 17, .a 18, .a 19, .a 20, .a 21, .e 16 [17, 18, 19, 20, 21], .a 22, .a 23] mixed (by decide +kernel) ?_ | refine Z.C0 rfl rfl rfl fun F hF => ?_ | (refine hF _ _ ?_ ?_ <;> clear hF F) | refine Z.T0 rfl ?_ | refine Z.U0 rfl ?_ | (refine Z.t0 rfl rfl rfl rfl ?_ ?_ <;> (intro hg; simp only [hg, Bool.not_true, Bool.not_false]; simp only [Z.x0] at hg)) | refine And.intro (by omega) ?_ | (refine Z.G0 rfl rfl rfl rfl rfl ?_ ?_ <;> (intro hg; simp only [hg, Bool.not_true, Bool.not_false]; simp only [Z.x0] at hg)) | (refine Z.M0 rfl rfl rfl rfl rfl ?_ ?_ <;> (intro hg; simp only [hg, Bool.not_true, Bool.not_false]; simp only [Z.x0] at hg)) | (refine Z.V0 rfl ?_ ?_ <;> (intro hc; try simp only [hc]; simp only [Z.x0] at hc)))
      refine next_some R.r1 hr fun H2 x2 fx w2 r2 of2 nf2 => ?_
      have R2 := R.op w2 r2
      (refine hF _ _ ?_; clear hF F)
      repeat' (first | ((first | refine Z.W0 ?_ | refine Z.X0 ?_); simp only [go_sem, seval]; try (simp (disch := omega) only [Z.w0]; try simp only [go_sem, seval])) | (refine hF _ _ ?_; clear hF F) | (refine Z.p0 ?_; simp only [St.put]) | refine Z.a0 ?_ | refine Z.b0 ?_ | refine Z.c0 ?_ | refine Z.d0 ?_ | refine Z.e0 ?_ | refine Z.f0 ?_ | refine Z.g0 ?_ | refine Z.h0 ?_ | refine Z.i0 rfl ?_ | refine Z.I0 ?_ | refine Z.J0 ?_ | refine Z.K0 ?_ | refine Z.L0 ?_ | refine Z.N0 ?_ | refine Z.j0 ?_ | refine Z.k0 ?_ | refine Z.l0 ?_ | refine Z.m0 ?_ | refine Z.n0 ?_ | refine Z.o0 ?_ | refine Z.q0 rfl rfl fun F hF => ?_ | refine Z.r0 rfl rfl rfl rfl fun F hF => ?_ | refine Z.H0 rfl rfl (fun F hF => ?_) | refine Z.A0 rfl rfl rfl fun F hF => ?_ | refine Z.B0 rfl rfl rfl fun F hF => ?_ | refine Z.s0 rfl rfl rfl rfl ?_ | refine Z.u0 rfl rfl rfl rfl ?_ | (refine Z.D0 ?_; simp only [St.put]) | refine Z.E0 rfl rfl rfl ?_ | refine Z.F0 rfl rfl rfl ?_ | refine W_drawn (id := 23) [0, 1, 0, 7, 15, 31, 63, 127, 63, 319, 831, 1855, 4095, 8191, 16383, 32767, 65535, 32767, 163839, 425983, 950271, 1998847, 4194303, 8388607] [.a 0, .a 2, .e 1 [2], .e 3 [], .a 4, .a 5, .a 6, .a 8, .a 9, .a 10, .a 11, .e 7 [8, 9, 10, 11], .a 12, .a 13, .a 14, .a 15, .a 17, .a 18, .a 19, .a 20, .a 21, .e 16 [17, 18, 19, 20, 21], .a 22, .a 23] mixed (by decide +kernel) ?_ | refine Z.C0 rfl rfl rfl fun F hF => ?_ | (refine hF _ _ ?_ ?_ <;> clear hF F) | refine Z.T0 rfl ?_ | refine Z.U0 rfl ?_ | (refine Z.t0 rfl rfl rfl rfl ?_ ?_ <;> (intro hg; simp only [hg, Bool.not_true, Bool.not_false]; simp only [Z.x0] at hg)) | refine And.intro (by omega) ?_ | (refine Z.G0 rfl rfl rfl rfl rfl ?_ ?_ <;> (intro hg; simp only [hg, Bool.not_true, Bool.not_false]; simp only [Z.x0] at hg)) | (refine Z.M0 rfl rfl rfl rfl rfl ?_ ?_ <;> (intro hg; simp only [hg, Bool.not_true, Bool.not_false]; simp only [Z.x0] at hg)) | (refine Z.V0 rfl ?_ ?_ <;> (intro hc; try simp only [hc]; simp only [Z.x0] at hc)))
      refine refNext_some R2.r2 hr fun H3 y3 fy w3 r3 of3 nf3 => ?_
      have R3 := (R2.swap.op w3 r3).swap
      have fq : ∀ c, fx.blk = some c → ¬ SR q y c := fun c hc hs => by
        obtain ⟨o, ho⟩ := R.r2.has hs
        rw [(nf2 c hc).1] at ho; cases ho
      have of4 : Ow H3 1 (rowsB (l.take (num l 0 4))) fx := of2.keep fun c hc => by
        rw [w3.keep c _ (of2.atb hc) (fun e => fq c hc (.inl e)) (fun e => fq c hc (.inr e)), of2.atb hc]
      have nf4 : ∀ c, fx.blk = some c → H c = none ∧ ¬ SR p x2 c ∧ ¬ SR q y3 c ∧ xa.blk ≠ some c ∧ ¬ SE la c := fun c hc => by
        have n0 := (nf2 c hc).1
        refine ⟨R.le.none n0, fun h => ?_, fun h => ?_, fun h => ?_, fun h => ?_⟩
        · rcases h with h | h
          · obtain ⟨o, ho⟩ := R.r1.has (.inl h)
            rw [n0] at ho; cases ho
          · exact (nf2 c hc).2 h
        · rcases h with h | h
          · exact fq c hc (.inl h)
          · rcases w3.new c h with e | e | e
            · exact fq c hc (.inl e)
            · exact fq c hc (.inr e)
            · rw [of2.atb hc] at e; cases e
        · have := R.a.atb h
          rw [n0] at this; cases this
        · obtain ⟨o, ho⟩ := R.ehas h
          rw [n0] at ho; cases ho
      have cx := convB of4.rd
      have cy := convB of3.rd
      obtain ⟨Hb, hon, hsame⟩ := R3.a.on
      (refine hF _ _ ?_; clear hF F)
      repeat' (first | ((first | refine Z.W0 ?_ | refine Z.X0 ?_); simp only [go_sem, seval, cx, cy, of4.cell, of4.rd.cells]; try (simp (disch := omega) only [Z.w0]; try simp only [go_sem, seval, cx, cy, of4.cell, of4.rd.cells])) | (refine hF _ _ ?_; clear hF F) | (refine Z.p0 ?_; simp only [St.put]) | refine Z.a0 ?_ | refine Z.b0 ?_ | refine Z.c0 ?_ | refine Z.d0 ?_ | refine Z.e0 ?_ | refine Z.f0 ?_ | refine Z.g0 ?_ | refine Z.h0 ?_ | refine Z.i0 rfl ?_ | refine Z.I0 ?_ | refine Z.J0 ?_ | refine Z.K0 ?_ | refine Z.L0 ?_ | refine Z.N0 ?_ | refine Z.j0 ?_ | refine Z.k0 ?_ | refine Z.l0 ?_ | refine Z.m0 ?_ | refine Z.n0 ?_ | refine Z.o0 ?_ | refine Z.q0 rfl rfl fun F hF => ?_ | refine Z.r0 rfl rfl rfl rfl fun F hF => ?_ | refine Z.H0 rfl rfl (fun F hF => ?_) | refine Z.A0 rfl rfl rfl fun F hF => ?_ | refine Z.B0 rfl rfl rfl fun F hF => ?_ | refine Z.s0 rfl rfl rfl rfl ?_ | refine Z.u0 rfl rfl rfl rfl ?_ | (refine Z.D0 ?_; simp only [St.put]) | refine Z.E0 rfl rfl rfl ?_ | refine Z.F0 rfl rfl rfl ?_ | refine W_drawn (id := 23) [0, 1, 0, 7, 15, 31, 63, 127, 63, 319, 831, 1855, 4095, 8191, 16383, 32767, 65535, 32767, 163839, 425983, 950271, 1998847, 4194303, 8388607] [.a 0, .a 2, .e 1 [2], .e 3 [], .a 4, .a 5, .a 6, .a 8, .a 9, .a 10, .a 11, .e 7 [8, 9, 10, 11], .a 12, .a 13, .a 14, .a 15, .a 17, .a 18, .a 19, .a 20, .a 21, .e 16 [17, 18, 19, 20, 21], .a 22, .a 23] mixed (by decide +kernel) ?_ | refine Z.C0 rfl rfl rfl fun F hF => ?_ | (refine hF _ _ ?_ ?_ <;> clear hF F) | refine Z.T0 rfl ?_ | refine Z.U0 rfl ?_ | (refine Z.t0 rfl rfl rfl rfl ?_ ?_ <;> (intro hg; simp only [hg, Bool.not_true, Bool.not_false]; simp only [Z.x0] at hg)) | refine And.intro (by omega) ?_ | (refine Z.G0 rfl rfl rfl rfl rfl ?_ ?_ <;> (intro hg; simp only [hg, Bool.not_true, Bool.not_false]; simp only [Z.x0] at hg)) | (refine Z.M0 rfl rfl rfl rfl rfl ?_ ?_ <;> (intro hg; simp only [hg, Bool.not_true, Bool.not_false]; simp only [Z.x0] at hg)) | (refine Z.V0 rfl ?_ ?_ <;> (intro hc; try simp only [hc]; simp only [Z.x0] at hc)))
      refine hon.app vt36 rfl rfl Tryd.underlying36 (fun k => by simp) (fun G => by simp [asrc]; rfl) (by simp; omega) fun xa' H4 hx' => ?_
      have RE := R3.put of4 nf4 (hon.turned hx') (by rw [List.map_append]; exact hx'.ow)
      have hsl := settle_len (l.drop (num l 0 4)) g
      rw [List.length_drop] at hsl
      have hlE : (settle (l.drop (num l 0 4)) g).1.length ≤ opsW (ops.take (i + 1)) := by omega
      have hlaE : (la ++ [(fx, l.take (num l 0 4))]).length ≤ i + 1 := by simp; omega
      have hlenE : ∀ e ∈ la ++ [(fx, l.take (num l 0 4))], e.2.length ≤ 1000000000 := fun e he => by
        rcases List.mem_append.1 he with he | he
        · exact hlen e he
        · obtain rfl := List.mem_singleton.1 he
          simp only [List.length_take]; omega
      generalize hl5 : (settle (l.drop (num l 0 4)) g).1 = l5 at RE hlE
      generalize hg5 : (settle (l.drop (num l 0 4)) g).2 = g5 at RE
      (refine hF _ _ ?_; clear hF F)
      repeat' (first | ((first | refine Z.W0 ?_ | refine Z.X0 ?_); simp only [go_sem, seval]; try (simp (disch := omega) only [Z.w0]; try simp only [go_sem, seval])) | (refine hF _ _ ?_; clear hF F) | (refine Z.p0 ?_; simp only [St.put]) | refine Z.a0 ?_ | refine Z.b0 ?_ | refine Z.c0 ?_ | refine Z.d0 ?_ | refine Z.e0 ?_ | refine Z.f0 ?_ | refine Z.g0 ?_ | refine Z.h0 ?_ | refine Z.i0 rfl ?_ | refine Z.I0 ?_ | refine Z.J0 ?_ | refine Z.K0 ?_ | refine Z.L0 ?_ | refine Z.N0 ?_ | refine Z.j0 ?_ | refine Z.k0 ?_ | refine Z.l0 ?_ | refine Z.m0 ?_ | refine Z.n0 ?_ | refine Z.o0 ?_ | refine Z.q0 rfl rfl fun F hF => ?_ | refine Z.r0 rfl rfl rfl rfl fun F hF => ?_ | refine Z.H0 rfl rfl (fun F hF => ?_) | refine Z.A0 rfl rfl rfl fun F hF => ?_ | refine Z.B0 rfl rfl rfl fun F hF => ?_ | refine Z.s0 rfl rfl rfl rfl ?_ | refine Z.u0 rfl rfl rfl rfl ?_ | (refine Z.D0 ?_; simp only [St.put]) | refine Z.E0 rfl rfl rfl ?_ | refine Z.F0 rfl rfl rfl ?_ | refine W_drawn (id := 23) [0, 1, 0, 7, 15, 31, 63, 127, 63, 319, 831, 1855, 4095, 8191, 16383, 32767, 65535, 32767, 163839, 425983, 950271, 1998847, 4194303, 8388607] [.a 0, .a 2, .e 1 [2], .e 3 [], .a 4, .a 5, .a 6, .a 8, .a 9, .a 10, .a 11, .e 7 [8, 9, 10, 11], .a 12, .a 13, .a 14, .a 15, .a 17, .a 18, .a 19, .a 20, .a 21, .e 16 [17, 18, 19, 20, 21], .a 22, .a 23] mixed (by decide +kernel) ?_ | refine Z.C0 rfl rfl rfl fun F hF => ?_ | (refine hF _ _ ?_ ?_ <;> clear hF F) | refine Z.T0 rfl ?_ | refine Z.U0 rfl ?_ | (refine Z.t0 rfl rfl rfl rfl ?_ ?_ <;> (intro hg; simp only [hg, Bool.not_true, Bool.not_false]; simp only [Z.x0] at hg)) | refine And.intro (by omega) ?_ | (refine Z.G0 rfl rfl rfl rfl rfl ?_ ?_ <;> (intro hg; simp only [hg, Bool.not_true, Bool.not_false]; simp only [Z.x0] at hg)) | (refine Z.M0 rfl rfl rfl rfl rfl ?_ ?_ <;> (intro hg; simp only [hg, Bool.not_true, Bool.not_false]; simp only [Z.x0] at hg)) | (refine Z.V0 rfl ?_ ?_ <;> (intro hc; try simp only [hc]; simp only [Z.x0] at hc)))
    case' inr.inr.inr =>
      have d0 : (ops[i].1 == 0) = false := beq_eq_false_iff_ne.2 (by omega)
      have d1 : (ops[i].1 == 1) = false := beq_eq_false_iff_ne.2 (by omega)
      have RE := R
      have hlE : l.length ≤ opsW (ops.take (i + 1)) := by omega
      have hlaE : la.length ≤ i + 1 := by omega
      have hlenE := hlen
      repeat' (first | ((first | refine Z.W0 ?_ | refine Z.X0 ?_); simp only [go_sem, seval, lx1, d, E.idx, E.fld0, E.load0, d0, d1]; try (simp (disch := omega) only [Z.w0]; try simp only [go_sem, seval, lx1, d, E.idx, E.fld0, E.load0, d0, d1])) | (refine hF _ _ ?_; clear hF F) | (refine Z.p0 ?_; simp only [St.put]) | refine Z.a0 ?_ | refine Z.b0 ?_ | refine Z.c0 ?_ | refine Z.d0 ?_ | refine Z.e0 ?_ | refine Z.f0 ?_ | refine Z.g0 ?_ | refine Z.h0 ?_ | refine Z.i0 rfl ?_ | refine Z.I0 ?_ | refine Z.J0 ?_ | refine Z.K0 ?_ | refine Z.L0 ?_ | refine Z.N0 ?_ | refine Z.j0 ?_ | refine Z.k0 ?_ | refine Z.l0 ?_ | refine Z.m0 ?_ | refine Z.n0 ?_ | refine Z.o0 ?_ | refine Z.q0 rfl rfl fun F hF => ?_ | refine Z.r0 rfl rfl rfl rfl fun F hF => ?_ | refine Z.H0 rfl rfl (fun F hF => ?_) | refine Z.A0 rfl rfl rfl fun F hF => ?_ | refine Z.B0 rfl rfl rfl fun F hF => ?_ | refine Z.s0 rfl rfl rfl rfl ?_ | refine Z.u0 rfl rfl rfl rfl ?_ | (refine Z.D0 ?_; simp only [St.put]) | refine Z.E0 rfl rfl rfl ?_ | refine Z.F0 rfl rfl rfl ?_ | refine W_drawn (id := 23) [0, 1, 0, 7, 15, 31, 63, 127, 63, 319, 831, 1855, 4095, 8191, 16383, 32767, 65535, 32767, 163839, 425983, 950271, 1998847, 4194303, 8388607] [.a 0, .a 2, .e 1 [2], .e 3 [], .a 4, .a 5, .a 6, .a 8, .a 9, .a 10, .a 11, .e 7 [8, 9, 10, 11], .a 12, .a 13, .a 14, .a 15, .a 17, .a 18, .a 19, .a 20, .a 21, .e 16 [17, 18, 19, 20, 21], .a 22, .a 23] mixed (by decide +kernel) ?_ | refine Z.C0 rfl rfl rfl fun F hF => ?_ | (refine hF _ _ ?_ ?_ <;> clear hF F) | refine Z.T0 rfl ?_ | refine Z.U0 rfl ?_ | (refine Z.t0 rfl rfl rfl rfl ?_ ?_ <;> (intro hg; simp only [hg, Bool.not_true, Bool.not_false]; simp only [Z.x0] at hg)) | refine And.intro (by omega) ?_ | (refine Z.G0 rfl rfl rfl rfl rfl ?_ ?_ <;> (intro hg; simp only [hg, Bool.not_true, Bool.not_false]; simp only [Z.x0] at hg)) | (refine Z.M0 rfl rfl rfl rfl rfl ?_ ?_ <;> (intro hg; simp only [hg, Bool.not_true, Bool.not_false]; simp only [Z.x0] at hg)) | (refine Z.V0 rfl ?_ ?_ <;> (intro hc; try simp only [hc]; simp only [Z.x0] at hc)))
    all_goals
      have hat := RE.r2.at_
      have hll := lenB RE.r2.vec.rd
      refine ready_ok RE.r1 ?_
      first
        | (refine hF _ _ ?_; clear hF F)
        | (refine hF _ _ ?_ ?_ <;> clear hF F)
      repeat' (first | ((first | refine Z.W0 ?_ | refine Z.X0 ?_); simp only [go_sem, seval, hat, hll]; try (simp (disch := omega) only [Z.w0]; try simp only [go_sem, seval, hat, hll])) | (refine hF _ _ ?_; clear hF F) | (refine Z.p0 ?_; simp only [St.put]) | refine Z.a0 ?_ | refine Z.b0 ?_ | refine Z.c0 ?_ | refine Z.d0 ?_ | refine Z.e0 ?_ | refine Z.f0 ?_ | refine Z.g0 ?_ | refine Z.h0 ?_ | refine Z.i0 rfl ?_ | refine Z.I0 ?_ | refine Z.J0 ?_ | refine Z.K0 ?_ | refine Z.L0 ?_ | refine Z.N0 ?_ | refine Z.j0 ?_ | refine Z.k0 ?_ | refine Z.l0 ?_ | refine Z.m0 ?_ | refine Z.n0 ?_ | refine Z.o0 ?_ | refine Z.q0 rfl rfl fun F hF => ?_ | refine Z.r0 rfl rfl rfl rfl fun F hF => ?_ | refine Z.H0 rfl rfl (fun F hF => ?_) | refine Z.A0 rfl rfl rfl fun F hF => ?_ | refine Z.B0 rfl rfl rfl fun F hF => ?_ | refine Z.s0 rfl rfl rfl rfl ?_ | refine Z.u0 rfl rfl rfl rfl ?_ | (refine Z.D0 ?_; simp only [St.put]) | refine Z.E0 rfl rfl rfl ?_ | refine Z.F0 rfl rfl rfl ?_ | refine W_drawn (id := 23) [0, 1, 0, 7, 15, 31, 63, 127, 63, 319, 831, 1855, 4095, 8191, 16383, 32767, 65535, 32767, 163839, 425983, 950271, 1998847, 4194303, 8388607] [.a 0, .a 2, .e 1 [2], .e 3 [], .a 4, .a 5, .a 6, .a 8, .a 9, .a 10, .a 11, .e 7 [8, 9, 10, 11], .a 12, .a 13, .a 14, .a 15, .a 17, .a 18, .a 19, .a 20, .a 21, .e 16 [17, 18, 19, 20, 21], .a 22, .a 23] mixed (by decide +kernel) ?_ | refine Z.C0 rfl rfl rfl fun F hF => ?_ | (refine hF _ _ ?_ ?_ <;> clear hF F) | refine Z.T0 rfl ?_ | refine Z.U0 rfl ?_ | (refine Z.t0 rfl rfl rfl rfl ?_ ?_ <;> (intro hg; simp only [hg, Bool.not_true, Bool.not_false]; simp only [Z.x0] at hg)) | refine And.intro (by omega) ?_ | (refine Z.G0 rfl rfl rfl rfl rfl ?_ ?_ <;> (intro hg; simp only [hg, Bool.not_true, Bool.not_false]; simp only [Z.x0] at hg)) | (refine Z.M0 rfl rfl rfl rfl rfl ?_ ?_ <;> (intro hg; simp only [hg, Bool.not_true, Bool.not_false]; simp only [Z.x0] at hg)) | (refine Z.V0 rfl ?_ ?_ <;> (intro hc; try simp only [hc]; simp only [Z.x0] at hc)))
      refine refReady_ok RE.r2 ?_
      first
        | (refine hF _ _ ?_; clear hF F)
        | (refine hF _ _ ?_ ?_ <;> clear hF F)
      repeat' (first | ((first | refine Z.W0 ?_ | refine Z.X0 ?_); simp only [go_sem, seval, hat, hll]; try (simp (disch := omega) only [Z.w0]; try simp only [go_sem, seval, hat, hll])) | (refine hF _ _ ?_; clear hF F) | (refine Z.p0 ?_; simp only [St.put]) | refine Z.a0 ?_ | refine Z.b0 ?_ | refine Z.c0 ?_ | refine Z.d0 ?_ | refine Z.e0 ?_ | refine Z.f0 ?_ | refine Z.g0 ?_ | refine Z.h0 ?_ | refine Z.i0 rfl ?_ | refine Z.I0 ?_ | refine Z.J0 ?_ | refine Z.K0 ?_ | refine Z.L0 ?_ | refine Z.N0 ?_ | refine Z.j0 ?_ | refine Z.k0 ?_ | refine Z.l0 ?_ | refine Z.m0 ?_ | refine Z.n0 ?_ | refine Z.o0 ?_ | refine Z.q0 rfl rfl fun F hF => ?_ | refine Z.r0 rfl rfl rfl rfl fun F hF => ?_ | refine Z.H0 rfl rfl (fun F hF => ?_) | refine Z.A0 rfl rfl rfl fun F hF => ?_ | refine Z.B0 rfl rfl rfl fun F hF => ?_ | refine Z.s0 rfl rfl rfl rfl ?_ | refine Z.u0 rfl rfl rfl rfl ?_ | (refine Z.D0 ?_; simp only [St.put]) | refine Z.E0 rfl rfl rfl ?_ | refine Z.F0 rfl rfl rfl ?_ | refine W_drawn (id := 23) [0, 1, 0, 7, 15, 31, 63, 127, 63, 319, 831, 1855, 4095, 8191, 16383, 32767, 65535, 32767, 163839, 425983, 950271, 1998847, 4194303, 8388607] [.a 0, .a 2, .e 1 [2], .e 3 [], .a 4, .a 5, .a 6, .a 8, .a 9, .a 10, .a 11, .e 7 [8, 9, 10, 11], .a 12, .a 13, .a 14, .a 15, .a 17, .a 18, .a 19, .a 20, .a 21, .e 16 [17, 18, 19, 20, 21], .a 22, .a 23] mixed (by decide +kernel) ?_ | refine Z.C0 rfl rfl rfl fun F hF => ?_ | (refine hF _ _ ?_ ?_ <;> clear hF F) | refine Z.T0 rfl ?_ | refine Z.U0 rfl ?_ | (refine Z.t0 rfl rfl rfl rfl ?_ ?_ <;> (intro hg; simp only [hg, Bool.not_true, Bool.not_false]; simp only [Z.x0] at hg)) | refine And.intro (by omega) ?_ | (refine Z.G0 rfl rfl rfl rfl rfl ?_ ?_ <;> (intro hg; simp only [hg, Bool.not_true, Bool.not_false]; simp only [Z.x0] at hg)) | (refine Z.M0 rfl rfl rfl rfl rfl ?_ ?_ <;> (intro hg; simp only [hg, Bool.not_true, Bool.not_false]; simp only [Z.x0] at hg)) | (refine Z.V0 rfl ?_ ?_ <;> (intro hc; try simp only [hc]; simp only [Z.x0] at hc)))
      refine broken_ok RE.r1 ?_
      first
        | (refine hF _ _ ?_; clear hF F)
        | (refine hF _ _ ?_ ?_ <;> clear hF F)
      repeat' (first | ((first | refine Z.W0 ?_ | refine Z.X0 ?_); simp only [go_sem, seval, hat, hll]; try (simp (disch := omega) only [Z.w0]; try simp only [go_sem, seval, hat, hll])) | (refine hF _ _ ?_; clear hF F) | (refine Z.p0 ?_; simp only [St.put]) | refine Z.a0 ?_ | refine Z.b0 ?_ | refine Z.c0 ?_ | refine Z.d0 ?_ | refine Z.e0 ?_ | refine Z.f0 ?_ | refine Z.g0 ?_ | refine Z.h0 ?_ | refine Z.i0 rfl ?_ | refine Z.I0 ?_ | refine Z.J0 ?_ | refine Z.K0 ?_ | refine Z.L0 ?_ | refine Z.N0 ?_ | refine Z.j0 ?_ | refine Z.k0 ?_ | refine Z.l0 ?_ | refine Z.m0 ?_ | refine Z.n0 ?_ | refine Z.o0 ?_ | refine Z.q0 rfl rfl fun F hF => ?_ | refine Z.r0 rfl rfl rfl rfl fun F hF => ?_ | refine Z.H0 rfl rfl (fun F hF => ?_) | refine Z.A0 rfl rfl rfl fun F hF => ?_ | refine Z.B0 rfl rfl rfl fun F hF => ?_ | refine Z.s0 rfl rfl rfl rfl ?_ | refine Z.u0 rfl rfl rfl rfl ?_ | (refine Z.D0 ?_; simp only [St.put]) | refine Z.E0 rfl rfl rfl ?_ | refine Z.F0 rfl rfl rfl ?_ | refine W_drawn (id := 23) [0, 1, 0, 7, 15, 31, 63, 127, 63, 319, 831, 1855, 4095, 8191, 16383, 32767, 65535, 32767, 163839, 425983, 950271, 1998847, 4194303, 8388607] [.a 0, .a 2, .e 1 [2], .e 3 [], .a 4, .a 5, .a 6, .a 8, .a 9, .a 10, .a 11, .e 7 [8, 9, 10, 11], .a 12, .a 13, .a 14, .a 15, .a 17, .a 18, .a 19, .a 20, .a 21, .e 16 [17, 18, 19, 20, 21], .a 22, .a 23] mixed (by decide +kernel) ?_ | refine Z.C0 rfl rfl rfl fun F hF => ?_ | (refine hF _ _ ?_ ?_ <;> clear hF F) | refine Z.T0 rfl ?_ | refine Z.U0 rfl ?_ | (refine Z.t0 rfl rfl rfl rfl ?_ ?_ <;> (intro hg; simp only [hg, Bool.not_true, Bool.not_false]; simp only [Z.x0] at hg)) | refine And.intro (by omega) ?_ | (refine Z.G0 rfl rfl rfl rfl rfl ?_ ?_ <;> (intro hg; simp only [hg, Bool.not_true, Bool.not_false]; simp only [Z.x0] at hg)) | (refine Z.M0 rfl rfl rfl rfl rfl ?_ ?_ <;> (intro hg; simp only [hg, Bool.not_true, Bool.not_false]; simp only [Z.x0] at hg)) | (refine Z.V0 rfl ?_ ?_ <;> (intro hc; try simp only [hc]; simp only [Z.x0] at hc)))
      refine left_ok RE.r1 ?_
      first
        | (refine hF _ _ ?_; clear hF F)
        | (refine hF _ _ ?_ ?_ <;> clear hF F)
      repeat' (first | ((first | refine Z.W0 ?_ | refine Z.X0 ?_); simp only [go_sem, seval, hat, hll, wi]; try (simp (disch := omega) only [Z.w0]; try simp only [go_sem, seval, hat, hll, wi])) | (refine hF _ _ ?_; clear hF F) | (refine Z.p0 ?_; simp only [St.put]) | refine Z.a0 ?_ | refine Z.b0 ?_ | refine Z.c0 ?_ | refine Z.d0 ?_ | refine Z.e0 ?_ | refine Z.f0 ?_ | refine Z.g0 ?_ | refine Z.h0 ?_ | refine Z.i0 rfl ?_ | refine Z.I0 ?_ | refine Z.J0 ?_ | refine Z.K0 ?_ | refine Z.L0 ?_ | refine Z.N0 ?_ | refine Z.j0 ?_ | refine Z.k0 ?_ | refine Z.l0 ?_ | refine Z.m0 ?_ | refine Z.n0 ?_ | refine Z.o0 ?_ | refine Z.q0 rfl rfl fun F hF => ?_ | refine Z.r0 rfl rfl rfl rfl fun F hF => ?_ | refine Z.H0 rfl rfl (fun F hF => ?_) | refine Z.A0 rfl rfl rfl fun F hF => ?_ | refine Z.B0 rfl rfl rfl fun F hF => ?_ | refine Z.s0 rfl rfl rfl rfl ?_ | refine Z.u0 rfl rfl rfl rfl ?_ | (refine Z.D0 ?_; simp only [St.put]) | refine Z.E0 rfl rfl rfl ?_ | refine Z.F0 rfl rfl rfl ?_ | refine W_drawn (id := 23) [0, 1, 0, 7, 15, 31, 63, 127, 63, 319, 831, 1855, 4095, 8191, 16383, 32767, 65535, 32767, 163839, 425983, 950271, 1998847, 4194303, 8388607] [.a 0, .a 2, .e 1 [2], .e 3 [], .a 4, .a 5, .a 6, .a 8, .a 9, .a 10, .a 11, .e 7 [8, 9, 10, 11], .a 12, .a 13, .a 14, .a 15, .a 17, .a 18, .a 19, .a 20, .a 21, .e 16 [17, 18, 19, 20, 21], .a 22, .a 23] mixed (by decide +kernel) ?_ | refine Z.C0 rfl rfl rfl fun F hF => ?_ | (refine hF _ _ ?_ ?_ <;> clear hF F) | refine Z.T0 rfl ?_ | refine Z.U0 rfl ?_ | (refine Z.t0 rfl rfl rfl rfl ?_ ?_ <;> (intro hg; simp only [hg, Bool.not_true, Bool.not_false]; simp only [Z.x0] at hg)) | refine And.intro (by omega) ?_ | (refine Z.G0 rfl rfl rfl rfl rfl ?_ ?_ <;> (intro hg; simp only [hg, Bool.not_true, Bool.not_false]; simp only [Z.x0] at hg)) | (refine Z.M0 rfl rfl rfl rfl rfl ?_ ?_ <;> (intro hg; simp only [hg, Bool.not_true, Bool.not_false]; simp only [Z.x0] at hg)) | (refine Z.V0 rfl ?_ ?_ <;> (intro hc; try simp only [hc]; simp only [Z.x0] at hc)))
      simp only [loopK]
      simp only [St.keep, St.get, reduceIte, Nat.reduceEqDiff]
      exact ⟨n, by omega, i + 1, _, _, _, _, _, _, by omega, RE, hlE, hlaE, hlenE, rfl⟩
end Go.Proofs.YtboojmppmaepmaaDoor
/- What came in, read: numbers, messages. -/
namespace Go.Proofs.YtboojmppmaepmaaDoor
set_option maxHeartbeats 8000000
set_option linter.all false
set_option maxRecDepth 10000
open Go Go.Fw Go.ChangeShapes Go.WideShapes Go.ChangeAt Go.RowKit Go.Lib

section
variable {H : Type} {enc : TypeId × Value → H} {w : World}
theorem rowsI_of : ∀ rows : List (List AV), (∀ r ∈ rows, ∃ c : Int, r = [.v (.int .i64 c)]) → ∃ l : List Int, rows = rowsI l
  | [], _ => ⟨[], rfl⟩
  | r :: rows, h => by
    obtain ⟨c, rfl⟩ := h r (by simp)
    obtain ⟨l, rfl⟩ := rowsI_of rows (fun q hq => h q (by simp [hq]))
    exact ⟨c :: l, rfl⟩
/-- Whole numbers that came in. -/
theorem rep_ints {v : Value} {d : DataW H} {ps : List MemPlace} (hv : ∃ a l c, v = .slice a l c) (h : DataW.Trod enc Tryd.prog w 0 (fun _ => true) true 58 v d ps) :
    ∃ l : List Int, Rep w (fun _ => False) (.imm 1 (rowsI l)) v ∧ (Rows.uptoBulk d ≤ 1000000000 → l.length ≤ 1000000000) := by
  obtain ⟨a, l, c, rfl⟩ := hv
  obtain ⟨n, h⟩ := h
  obtain ⟨rows, h1, _, h2⟩ := repL_slice (Q := fun _ r => ∃ c : Int, r = [.v (.int .i64 c)]) Tryd.underlying58 (by rw [cl3]; decide) h (fun m cs' d' p' _ _ h => by
    obtain ⟨z, _, r, hw⟩ := repL_int Tryd.underlying3 h
    exact ⟨[.v (.int .i64 z)], ⟨z, rfl⟩, r⟩)
  rw [cl3] at h1
  rcases h2 with ⟨_, rfl⟩ | ⟨el, sp, rfl, hl, hq⟩
  · exact ⟨[], h1.single, fun _ => by simp⟩
  · obtain ⟨l, rfl⟩ := rowsI_of rows (by
      intro r hr
      obtain ⟨i, hi, rfl⟩ := List.getElem_of_mem hr
      exact hq i _ _ (List.getElem?_eq_getElem (by omega)) (List.getElem?_eq_getElem hi))
    refine ⟨l, h1.single, fun hb => ?_⟩
    have := all_le el
    have := slice_le (el := el) (sp := sp)
    simp only [rowsI_length] at hl
    omega
/-- Messages that came in. -/
theorem rep_msgs {v : Value} {d : DataW H} {ps : List MemPlace} (hv : ∃ a l c, v = .slice a l c) (h : DataW.Trod enc Tryd.prog w 0 (fun _ => true) true 62 v d ps) :
    ∃ rows, Rep w (fun _ => False) (.imm 7 rows) v ∧ (Rows.uptoBulk d ≤ 1000000000 → rows.length ≤ 1000000000 ∧ ∀ r ∈ rows, ∃ i j x, RdM (fun _ => none) i j x r) := by
  obtain ⟨a, l, c, rfl⟩ := hv
  obtain ⟨n, h⟩ := h
  obtain ⟨rows, h1, h2⟩ := slice_rows (R := fun r => ∃ i j x, RdM (fun _ => none) i j x r) Tryd.underlying62 (by rw [cl27]; decide) h (fun m cs' d' p' _ _ h => repL_message h)
  rw [cl27] at h1
  exact ⟨rows, h1.single, h2⟩
end
end Go.Proofs.YtboojmppmaepmaaDoor
/- A message comes out of its frame as it went in: the law's walk. -/
namespace Go.Proofs.YtboojmppmaepmaaDoor
set_option maxHeartbeats 8000000
set_option linter.all false
open Go Go.Fw
attribute [local irreducible] Reg RegD seqK blockK loopK retK panK
set_option maxRecDepth 10000

variable {H : AH} {K : AV → AH → Prop} {J : Value → AH → Prop}

theorem lawBack_ok {i j : Int} {v : Val} {cm : List AV} {x : AV} {raw : Bs} (hm : RdM H i j v cm) (hx : RdS H 1 (rowsB raw) x) (hr : raw.length ≤ 1000000000) (hk : ∀ H', Le H H' → K (.v (.bool true)) H') :
    CallX Tryd.prog 6 [.agg cm, x] H K J := by
  obtain ⟨m1, m2, m3, m4, m5, m6, m7, rfl, k1, k2, k3, k4, k5, k6, k7⟩ := hm.cells
  have okv : okV v := by obtain ⟨_, _, c, _, hv⟩ := hm; exact rdV_ok _ v c (Nat.lt_succ_self _) hv
  refine CallX.of_body Tryd.func6 nm6 rfl ?_; simp only [Tryd.ntmps6, List.length_cons, List.length_nil, argSt, Nat.reduceAdd, Nat.reduceSub]
  repeat' (first | ((first | refine Z.W0 ?_ | refine Z.X0 ?_); simp only [go_sem, seval, k1, k2, k3, k4, k5, k6, k7]) | refine Z.a0 ?_ | refine Z.b0 ?_ | refine Z.q0 rfl rfl fun F hF => ?_)
  (refine box_go2 fun b2 H1 e1 n1 o1 => ?_; refine hF _ _ ?_; clear hF F)
  repeat' (first | ((first | refine Z.W0 ?_ | refine Z.X0 ?_); simp only [go_sem, seval]) | (refine hF _ _ ?_; clear hF F) | (refine Z.p0 ?_; simp only [St.put]) | refine Z.a0 ?_ | refine Z.b0 ?_ | refine Z.c0 ?_ | refine Z.h0 ?_ | refine Z.q0 rfl rfl fun F hF => ?_)
  refine awake_ok fun H2 e2 => ?_
  (refine hF _ _ ?_; clear hF F)
  repeat' (first | ((first | refine Z.W0 ?_ | refine Z.X0 ?_); simp only [go_sem, seval]) | (refine hF _ _ ?_; clear hF F) | (refine Z.p0 ?_; simp only [St.put]) | refine Z.a0 ?_ | refine Z.b0 ?_ | refine Z.c0 ?_ | refine Z.h0 ?_ | refine Z.q0 rfl rfl fun F hF => ?_)
  have e12 := e1.trans e2
  refine parse_ok (hx.mono e12) hr fun H3 Hv3 cs3 e3 a3 le3 mm3 => ?_
  obtain ⟨a, b, c, d, e, f, g, rfl, q1, q2, q3, q4, q5, q6, q7⟩ := mm3.cells
  (refine hF _ _ ?_; clear hF F)
  repeat' (first | ((first | refine Z.W0 ?_ | refine Z.X0 ?_); simp only [go_sem, seval, q1, q2, q3, q4, q5, q6, q7]) | (refine hF _ _ ?_; clear hF F) | refine Z.h0 ?_ | refine Z.q0 rfl rfl fun F hF => ?_)
  (refine box_go2 fun b6 H4 e4 n4 o4 => ?_; refine hF _ _ ?_; clear hF F)
  repeat' (first | ((first | refine Z.W0 ?_ | refine Z.X0 ?_); simp only [go_sem, seval, o4, q1, q2, q3, q4, q5, q6, q7]) | (refine hF _ _ ?_; clear hF F) | (refine Z.p0 ?_; simp only [St.put]) | refine Z.a0 ?_ | refine Z.c0 ?_ | refine Z.h0 ?_ | refine Z.q0 rfl rfl fun F hF => ?_)
  generalize hq : AH.set H4 b6 _ = H5; have e5 : Le H3 H5 := (by rw [← hq]; exact e4.set' n4); have o5 := (congrFun hq b6).symm; rw [AH.set_same] at o5; clear hq
  have e15 := (e12.trans e3).trans e5
  by_cases hz : (parse raw).2 = 0
  case' pos =>
    obtain ⟨pi, pj, pv, hp1, hp2, hp3, hp4, hp5⟩ := frame_parse hz
    rw [hp1] at mm3
    have d0 : ((parse raw).2 == 0) = true := beq_iff_eq.2 hz
    repeat' (first | ((first | refine Z.W0 ?_ | refine Z.X0 ?_); simp only [go_sem, seval, d0, o5]) | (refine hF _ _ ?_; clear hF F) | (refine Z.p0 ?_; simp only [St.put]) | refine Z.a0 ?_ | refine Z.b0 ?_ | refine Z.c0 ?_ | refine Z.h0 ?_ | refine Z.q0 rfl rfl fun F hF => ?_ | refine Z.T0 rfl ?_)
    refine make_ok (mm3.mono (le3.trans e5)) (fun H6 e6 hne => absurd hp2 hne) (fun H6 H7 y e6 _ hy => ?_)
    simp only [Int.toNat_natCast, hp3] at hy
    have e16 := (e15.trans e6).trans hy.le
    have o2 := hy.le _ _ (e6 _ _ (e5 _ _ (e3 _ _ (e2 _ _ o1))))
    have hx6 := hx.mono e16
    (refine hF _ _ ?_; clear hF F)
    repeat' (first | ((first | refine Z.W0 ?_ | refine Z.X0 ?_); simp only [go_sem, seval, convB hy.rd, convB hx6, o2]) | (refine hF _ _ ?_; clear hF F) | (refine Z.p0 ?_; simp only [St.put]) | refine Z.a0 ?_ | refine Z.b0 ?_ | refine Z.c0 ?_ | refine Z.h0 ?_ | refine Z.m0 ?_ | refine Z.q0 rfl rfl fun F hF => ?_ | refine Z.r0 rfl rfl rfl rfl fun F hF => ?_ | refine Z.U0 rfl ?_)
  case' neg =>
    have d0 : ((parse raw).2 == 0) = false := beq_eq_false_iff_ne.2 hz
    have e16 := e15
    have o2 := e5 _ _ (e3 _ _ (e2 _ _ o1))
    repeat' (first | ((first | refine Z.W0 ?_ | refine Z.X0 ?_); simp only [go_sem, seval, d0, o2]) | (refine hF _ _ ?_; clear hF F) | (refine Z.p0 ?_; simp only [St.put]) | refine Z.a0 ?_ | refine Z.b0 ?_ | refine Z.c0 ?_ | refine Z.h0 ?_ | refine Z.m0 ?_ | refine Z.q0 rfl rfl fun F hF => ?_ | refine Z.U0 rfl ?_)
  all_goals
    refine make_ok (hm.mono e16) (fun H8 e8 hne => ?_) (fun H8 H9 y2 e8 he hy2 => ?_)
    · (refine hF _ _ ?_; clear hF F)
      have d1 : (makeErr i j v != 0) = true := bne_iff_ne.2 hne
      repeat' (first | ((first | refine Z.W0 ?_ | refine Z.X0 ?_); simp only [go_sem, seval, d1]) | (refine hF _ _ ?_; clear hF F) | (refine Z.p0 ?_; simp only [St.put]) | refine Z.a0 ?_ | refine Z.b0 ?_ | refine Z.c0 ?_ | refine Z.d0 ?_ | refine Z.h0 ?_ | refine Z.n0 ?_ | refine Z.q0 rfl rfl fun F hF => ?_ | refine Z.r0 rfl rfl rfl rfl fun F hF => ?_ | refine Z.T0 rfl ?_)
      simp only [retK, ares, pack, Tryd.results6, St.get, reduceIte, Nat.reduceEqDiff, aload, arow, List.toArray, Array.toList]
      exact hk _ (e16.trans e8)
    · obtain ⟨g1, g2, g3, g4⟩ := makeErr_zero he
      obtain ⟨s1, s2⟩ := enc_size g3 g4
      have hfl : (frame i.toNat j.toNat v).length = 21 + (encV v).length := (frm_frame _ _ _).len
      have e18 := (e16.trans e8).trans hy2.le
      have o28 := hy2.le _ _ (e8 _ _ o2)
      have hy2r := hy2.rd
      (refine hF _ _ ?_; clear hF F)
      repeat' (first | ((first | refine Z.W0 ?_ | refine Z.X0 ?_); simp only [go_sem, seval]) | (refine hF _ _ ?_; clear hF F) | (refine Z.p0 ?_; simp only [St.put]) | refine Z.a0 ?_ | refine Z.b0 ?_ | refine Z.c0 ?_ | refine Z.h0 ?_ | refine Z.m0 ?_ | refine Z.q0 rfl rfl fun F hF => ?_ | refine Z.r0 rfl rfl rfl rfl fun F hF => ?_ | refine Z.U0 rfl ?_)
      refine parse_ok hy2r (by omega) fun H10 Hv10 cs10 e10 a10 le10 mm10 => ?_
      rw [parse_frame okv he] at mm10 ⊢
      simp only at mm10
      obtain ⟨a', b', c', d', e', f', g', rfl, q1', q2', q3', q4', q5', q6', q7'⟩ := mm10.cells
      (refine hF _ _ ?_; clear hF F)
      repeat' (first | ((first | refine Z.W0 ?_ | refine Z.X0 ?_); simp only [go_sem, seval, q1', q2', q3', q4', q5', q6', q7']) | (refine hF _ _ ?_; clear hF F) | refine Z.h0 ?_ | refine Z.q0 rfl rfl fun F hF => ?_)
      (refine box_go2 fun b12 H11 e11 n11 o11 => ?_; refine hF _ _ ?_; clear hF F)
      repeat' (first | ((first | refine Z.W0 ?_ | refine Z.X0 ?_); simp only [go_sem, seval, o11, q1', q2', q3', q4', q5', q6', q7']) | (refine hF _ _ ?_; clear hF F) | (refine Z.p0 ?_; simp only [St.put]) | refine Z.a0 ?_ | refine Z.c0 ?_ | refine Z.h0 ?_ | refine Z.q0 rfl rfl fun F hF => ?_)
      generalize hq : AH.set H11 b12 _ = H12; have e12' : Le H10 H12 := (by rw [← hq]; exact e11.set' n11); have o12 := (congrFun hq b12).symm; rw [AH.set_same] at o12; clear hq
      have o212 := e12' _ _ (e10 _ _ o28)
      repeat' (first | ((first | refine Z.W0 ?_ | refine Z.X0 ?_); simp only [go_sem, seval, o12, o212]) | (refine hF _ _ ?_; clear hF F) | refine Z.b0 ?_ | refine Z.h0 ?_ | refine Z.q0 rfl rfl fun F hF => ?_)
      refine msame_ok (mm10.mono (le10.trans e12')) (hm.mono ((e18.trans e10).trans e12')) fun H13 e13 => ?_
      have hs : (sameV v v && decide (i = i) && decide (j = j)) = true := by rw [sameV_true rfl]; simp
      rw [hs]
      have hl13 := lenB (hy2r.mono ((e10.trans e12').trans e13))
      have d1 : decide (((frame i.toNat j.toNat v).length : Int) ≤ 131072) = true := by rw [hfl]; simp; omega
      have d2 : decide (((frame i.toNat j.toNat v).length : Int) ≥ 26) = true := by rw [hfl]; simp; omega
      (refine hF _ _ ?_; clear hF F)
      repeat' (first | ((first | refine Z.W0 ?_ | refine Z.X0 ?_); simp only [go_sem, seval, hl13, d1, d2]) | (refine hF _ _ ?_; clear hF F) | (refine Z.p0 ?_; simp only [St.put]) | refine Z.a0 ?_ | refine Z.b0 ?_ | refine Z.c0 ?_ | refine Z.h0 ?_ | refine Z.n0 ?_ | refine Z.q0 rfl rfl fun F hF => ?_ | refine Z.r0 rfl rfl rfl rfl fun F hF => ?_)
      simp only [retK, ares, pack, Tryd.results6, St.get, reduceIte, Nat.reduceEqDiff, aload, arow, List.toArray, Array.toList]
      exact hk _ (((e18.trans e10).trans e12').trans e13)
end Go.Proofs.YtboojmppmaepmaaDoor
