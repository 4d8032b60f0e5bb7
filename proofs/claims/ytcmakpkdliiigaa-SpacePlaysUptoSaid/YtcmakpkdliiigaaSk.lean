/- What each call on a space does, told by the states alone. -/
import Derived.Test.YtcmakpkdliiigaaSj
namespace Go.Proofs.Ytcmakpkdliiigaa
set_option maxHeartbeats 8000000
set_option linter.all false
open Go Go.Fw

/-- A space of these states lies at b. -/
def Sp (H : AH) (b : Nat) (F : List Nat) (st : List Int) : Prop :=
  (∃ b1 c1 fr, Lay H b b1 c1 F st fr ∧ Good st fr) ∧ 0 < st.length ∧ st.length ≤ 65536

theorem Good.short {st fr : List Int} (h : Good st fr) : fr.length ≤ st.length := by rw [h.len]; exact idx_le 0 0 st

def takeR (st : List Int) : Int × Int × List Int := if idx 0 0 st = [] then (0, 4, st) else ((idx 0 0 st).getD 0 0, 0, st.set ((idx 0 0 st).getD 0 0).toNat 1)
def dropR (st : List Int) (n : Int) : Int × List Int := if usesOf st n then (0, st.set n.toNat 2) else (1, st)
def backR (st : List Int) (n : Int) : Int × List Int := if usesOf st n then (0, st.set n.toNat 0) else (1, st)
def t2 (x : Int) : Int := if x = 2 then 0 else x
def turnR (st : List Int) : Int × List Int := ((idx 2 0 st).length, st.map t2)

theorem sp_take {H : AH} {b : Nat} {F : List Nat} {st : List Int} {K : AV → AH → Prop} (h : Sp H b F st)
    (hk : ∀ H' F', Sp H' b F' (takeR st).2.2 → Keeps H F H' F' → K (.tup [.v (.int .i64 (takeR st).1), .v (.int .i64 (takeR st).2.1)]) H') : CallOK Try.prog 11 [.ptr b 2 0 0] H K := by
  have hh := h
  obtain ⟨⟨b1, c1, fr, hL, hG⟩, hp, hb⟩ := h
  have := hG.short
  refine take_ok hL (by omega) (fun hne => ⟨(hG.take hne).2.1, (hG.take hne).2.2.1⟩) (fun hne H' h1 h2 => ?_) (fun he => ?_)
  · have hi : idx 0 0 st ≠ [] := fun e => hne (hG.nil.2 e)
    have hG' := (hG.take hne).1
    rw [hG.first hne] at h1 hG' ⊢
    have := hk H' F
    simp only [takeR, if_neg hi] at this
    exact this ⟨⟨b1, c1, _, h1, hG'⟩, by simpa using hp, by simpa using hb⟩ h2
  · have := hk H F
    simp only [takeR, if_pos (hG.nil.1 he)] at this
    exact this hh (.refl _ _)

theorem sp_free {H : AH} {b : Nat} {F : List Nat} {st : List Int} {K : AV → AH → Prop} (h : Sp H b F st) (hk : K (.v (.int .i64 (idx 0 0 st).length)) H) : CallOK Try.prog 10 [.ptr b 2 0 0] H K := by
  obtain ⟨⟨b1, c1, fr, hL, hG⟩, hp, hb⟩ := h
  exact free_ok hL (by rw [hG.len]; exact hk)

theorem uses_at {st : List Int} {n : Int} (h : usesOf st n = true) : n.toNat < st.length ∧ st.getD n.toNat 0 = 1 := by
  have := of_decide_eq_true h
  exact ⟨by omega, this.2.2⟩

theorem sp_drop {H : AH} {b : Nat} {F : List Nat} {st : List Int} {n : Int} {K : AV → AH → Prop} (h : Sp H b F st)
    (hk : ∀ H' F', Sp H' b F' (dropR st n).2 → Keeps H F H' F' → K (.v (.int .i64 (dropR st n).1)) H') : CallOK Try.prog 13 [.ptr b 2 0 0, .v (.int .i64 n)] H K := by
  have hh := h
  obtain ⟨⟨b1, c1, fr, hL, hG⟩, hp, hb⟩ := h
  refine drop_ok hL (fun hu H' h1 h2 => ?_) (fun hu => ?_)
  · have := hk H' F
    obtain ⟨u1, u2⟩ := uses_at hu
    simp only [dropR, hu, if_true] at this
    exact this ⟨⟨b1, c1, _, h1, hG.other u1 (by omega) (by decide)⟩, by simpa using hp, by simpa using hb⟩ h2
  · have := hk H F
    simp only [dropR, hu] at this
    exact this hh (.refl _ _)

theorem sp_back {H : AH} {b : Nat} {F : List Nat} {st : List Int} {n : Int} {K : AV → AH → Prop} (h : Sp H b F st)
    (hk : ∀ H' F', Sp H' b F' (backR st n).2 → Keeps H F H' F' → K (.v (.int .i64 (backR st n).1)) H') : CallOK Try.prog 14 [.ptr b 2 0 0, .v (.int .i64 n)] H K := by
  have hh := h
  obtain ⟨⟨b1, c1, fr, hL, hG⟩, hp, hb⟩ := h
  have := hG.short
  refine back_ok hL (by omega) (fun hu H' F' h1 h2 => ?_) (fun hu => ?_)
  · have := hk H' F'
    obtain ⟨u1, u2⟩ := uses_at hu
    have hn : ((n.toNat : Nat) : Int) = n := by have := of_decide_eq_true hu; omega
    simp only [backR, hu, if_true] at this
    have hG' := hG.put u1 (by omega)
    rw [hn] at hG'
    exact this ⟨⟨b1, c1, _, h1, hG'⟩, by simpa using hp, by simpa using hb⟩ h2
  · have := hk H F
    simp only [backR, hu] at this
    exact this hh (.refl _ _)

theorem turnS_eq {n i : Nat} {st fr : List Int} {m : Int} (hn : n + i = st.length) (hG : Good st fr) :
    Good (turnS n i st fr m).1 (turnS n i st fr m).2.1 ∧ (turnS n i st fr m).1 = st.take i ++ (st.drop i).map t2 ∧ (turnS n i st fr m).2.2 = m + (idx 2 i (st.drop i)).length := by
  induction n generalizing i st fr m with
  | zero =>
    have e : st.drop i = [] := List.drop_of_length_le (by omega)
    simp only [turnS, e, List.map_nil, List.append_nil, idx, List.length_nil]
    exact ⟨hG, (List.take_of_length_le (by omega)).symm, by omega⟩
  | succ n ih =>
    have hi : i < st.length := by omega
    have ed := List.drop_eq_getElem_cons hi
    rw [getD_of hi] at ed
    by_cases h2 : st.getD i 0 = 2
    · rw [turn_go h2]
      obtain ⟨g1, g2, g3⟩ := ih (i := i + 1) (st := st.set i 0) (fr := push fr i) (m := m + 1) (by simp; omega) (hG.put hi (by omega))
      refine ⟨g1, ?_, ?_⟩
      · rw [g2, ed, List.take_succ_eq_append_getElem (by simpa using hi), List.take_set_of_le (Nat.le_refl _), List.drop_set_of_lt (by omega)]
        simp only [List.getElem_set_self, List.map_cons, t2, h2, if_true, List.append_assoc, List.singleton_append]
      · rw [g3, ed, List.drop_set_of_lt (by omega)]
        simp only [idx, h2, if_true, List.length_cons]
        omega
    · rw [turn_no h2]
      obtain ⟨g1, g2, g3⟩ := ih (i := i + 1) (st := st) (fr := fr) (m := m) (by omega) hG
      refine ⟨g1, ?_, ?_⟩
      · rw [g2, ed, List.take_succ_eq_append_getElem hi, getD_of hi]
        simp only [List.map_cons, t2, if_neg h2, List.append_assoc, List.singleton_append]
      · rw [g3, ed]
        simp only [idx, if_neg h2]

theorem sp_turn {H : AH} {b : Nat} {F : List Nat} {st : List Int} {K : AV → AH → Prop} (h : Sp H b F st)
    (hk : ∀ H' F', Sp H' b F' (turnR st).2 → Keeps H F H' F' → K (.v (.int .i64 (turnR st).1)) H') : CallOK Try.prog 15 [.ptr b 2 0 0] H K := by
  obtain ⟨⟨b1, c1, fr, hL, hG⟩, hp, hb⟩ := h
  have := hG.short
  obtain ⟨g1, g2, g3⟩ := turnS_eq (n := st.length) (i := 0) (m := 0) (by omega) hG
  simp only [List.take_zero, List.drop_zero, List.nil_append, Int.zero_add] at g2 g3
  refine turn_ok hL (by omega) fun H' F' h1 h2 => ?_
  rw [g3]
  refine hk H' F' ⟨⟨b1, c1, _, ?_, g1.1, ?_⟩, by simpa [turnR] using hp, by simpa [turnR] using hb⟩ h2
  · rw [g2] at h1; exact h1
  · have := g1.2; rw [g2] at this; exact this

theorem sp_used {H : AH} {b : Nat} {F : List Nat} {st : List Int} {K : AV → AH → Prop} (h : Sp H b F st)
    (hk : ∀ H' y z oy oz, VecA H' y oy (idx 1 0 st) → VecA H' z oz (idx 2 0 st) → Own2 H H' oy oz → K (.tup [y, z]) H') : CallOK Try.prog 12 [.ptr b 2 0 0] H K := by
  obtain ⟨⟨b1, c1, fr, hL, hG⟩, hp, hb⟩ := h
  exact used_ok hL (by omega) hk

theorem sp_clone {H : AH} {b : Nat} {F : List Nat} {st : List Int} {K : AV → AH → Prop} (h : Sp H b F st)
    (hk : ∀ H' b' F', Sp H' b' F' st → Keeps H [] H' F' → K (.ptr b' 2 0 0) H') : CallOK Try.prog 18 [.ptr b 2 0 0] H K := by
  obtain ⟨⟨b1, c1, fr, hL, hG⟩, hp, hb⟩ := h
  have := hG.short
  exact clone_ok hL hp (by omega) (by omega) fun H' b' b1' F' h1 h2 => hk H' b' F' ⟨⟨b1', none, fr, h1, hG⟩, hp, hb⟩ h2

theorem newGo_len {us st st' : List Int} (h : newGo us st = some st') : st'.length = st.length := by
  induction us generalizing st with
  | nil => simp only [newGo, Option.some.injEq] at h; rw [h]
  | cons u us ih =>
    simp only [newGo] at h
    split at h
    · cases h
    · rw [ih h]; simp
theorem newOf_len {us st : List Int} {pages : Int} (h : newOf pages us = some st) : st.length = pages.toNat ∧ 1 ≤ pages ∧ pages ≤ 65536 := by
  unfold newOf at h
  split at h
  · cases h
  · rename_i hp
    exact ⟨by rw [newGo_len h]; simp, by omega, by omega⟩

theorem idx_heapy (v : Int) (k : Nat) (st : List Int) : Heapy (idx v k st) := by
  intro j h0 hj
  have := List.pairwise_iff_getElem.1 (idx_sorted v k st) ((j - 1) / 2) j (by omega) hj (by omega)
  rw [getD_of hj, getD_of (by omega)] at this
  exact Int.le_of_lt this

theorem sp_new {H : AH} {z : AV} {pages : Int} {us : List Int} {K : AV → AH → Prop} (hz : Arg H z us) (hbig : us.length ≤ 1000000000)
    (h1 : ∀ st H' b F, newOf pages us = some st → Sp H' b F st → Keeps H [] H' F → K (.tup [.ptr b 2 0 0, .v (.int .i64 0)]) H')
    (h2 : ∀ H', newOf pages us = none → Keeps H [] H' [] → K (.tup [.v (.pointer none), .v (.int .i64 1)]) H') :
    CallOK Try.prog 9 [.v (.int .i64 pages), z] H K := by
  refine new_ok hz hbig (fun st H' b b1 c1 F hn hL hK => ?_) h2
  have hl := newOf_len hn
  exact h1 st H' b F hn ⟨⟨b1, c1, _, hL, idx_heapy 0 0 st, .refl _⟩, by omega, by omega⟩ hK
end Go.Proofs.Ytcmakpkdliiigaa
