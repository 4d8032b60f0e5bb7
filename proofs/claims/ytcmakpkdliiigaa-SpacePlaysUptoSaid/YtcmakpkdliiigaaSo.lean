/- Plain laws on the states of pages. -/
import Derived.Test.YtcmakpkdliiigaaSm
namespace Go.Proofs.Ytcmakpkdliiigaa
set_option maxHeartbeats 8000000
set_option linter.all false
open Go Go.Fw

def V3 (st : List Int) : Prop := ∀ x ∈ st, x = 0 ∨ x = 1 ∨ x = 2

theorem V3.set {st : List Int} (h : V3 st) (n : Nat) {v : Int} (hv : v = 0 ∨ v = 1 ∨ v = 2) : V3 (st.set n v) := by
  intro x hx
  rcases List.mem_or_eq_of_mem_set hx with h1 | rfl
  · exact h x h1
  · exact hv
theorem V3.take {st : List Int} (h : V3 st) : V3 (takeR st).2.2 := by
  unfold takeR
  split
  · exact h
  · exact h.set _ (.inr (.inl rfl))
theorem V3.drop {st : List Int} (h : V3 st) (n : Int) : V3 (dropR st n).2 := by
  unfold dropR
  split
  · exact h.set _ (.inr (.inr rfl))
  · exact h
theorem V3.back {st : List Int} (h : V3 st) (n : Int) : V3 (backR st n).2 := by
  unfold backR
  split
  · exact h.set _ (.inl rfl)
  · exact h
theorem V3.turn {st : List Int} (h : V3 st) : V3 (turnR st).2 := by
  intro x hx
  obtain ⟨y, hy, rfl⟩ := List.mem_map.1 hx
  rcases h y hy with rfl | rfl | rfl <;> simp [t2]
theorem V3.rep (n : Nat) : V3 (List.replicate n 0) := fun x hx => .inl (List.eq_of_mem_replicate hx)

theorem take_len (st : List Int) : (takeR st).2.2.length = st.length := by unfold takeR; split <;> simp
theorem drop_len (st : List Int) (n : Int) : (dropR st n).2.length = st.length := by unfold dropR; split <;> simp
theorem back_len (st : List Int) (n : Int) : (backR st n).2.length = st.length := by unfold backR; split <;> simp
theorem turn_len (st : List Int) : (turnR st).2.length = st.length := by simp [turnR]

theorem newOf_nil {pages : Int} : newOf pages [] = if pages < 1 ∨ 65536 < pages then none else some (List.replicate pages.toNat 0) := rfl

theorem count3 {st : List Int} (k : Nat) (h : V3 st) : (idx 0 k st).length + (idx 1 k st).length + (idx 2 k st).length = st.length := by
  induction st generalizing k with
  | nil => rfl
  | cons x r ih =>
    have := ih (k + 1) (fun y hy => h y (by simp [hy]))
    rcases h x (by simp) with rfl | rfl | rfl <;> simp [idx] <;> omega

theorem drop_free {st : List Int} {n : Int} : (idx 0 0 (dropR st n).2).length = (idx 0 0 st).length := by
  unfold dropR
  split
  · rename_i h
    obtain ⟨u1, u2⟩ := uses_at h
    rw [idx_out u1 (by omega) (by decide)]
  · rfl
theorem back_free {st : List Int} {n : Int} (h0 : (backR st n).1 = 0) : (idx 0 0 (backR st n).2).length = (idx 0 0 st).length + 1 := by
  unfold backR at h0 ⊢
  by_cases h : usesOf st n = true
  · obtain ⟨u1, u2⟩ := uses_at h
    rw [if_pos h]
    exact (idx_in u1 (by omega)).length_eq
  · rw [if_neg h] at h0; cases h0
theorem turn_free {st : List Int} (k : Nat) : (idx 0 k (st.map t2)).length = (idx 0 k st).length + (idx 2 k st).length := by
  induction st generalizing k with
  | nil => rfl
  | cons x r ih =>
    have := ih (k + 1)
    simp only [List.map_cons, idx, t2]
    by_cases h2 : x = 2
    · subst h2; simp; omega
    · rw [if_neg h2, if_neg h2]; split
      · simp only [List.length_cons]; omega
      · exact this

/-- What a take from such states gives. -/
theorem take_some {st : List Int} {a : Int} {r : List Int} (h : idx 0 0 st = a :: r) : takeR st = (a, 0, st.set a.toNat 1) := by
  simp only [takeR]; rw [if_neg (by rw [h]; simp), h]; rfl
theorem take_none {st : List Int} (h : idx 0 0 st = []) : takeR st = (0, 4, st) := by
  simp only [takeR]; rw [if_pos h]
theorem idx_apart {st : List Int} {v w a : Int} (hv : v ≠ w) (h1 : a ∈ idx v 0 st) (h2 : a ∈ idx w 0 st) : False := by
  obtain ⟨j, hj, e, h3⟩ := idx_mem.1 h1
  obtain ⟨j', hj', e', h4⟩ := idx_mem.1 h2
  have : j = j' := by omega
  subst this
  exact hv (h3.symm.trans h4)

/-- Made anew with the pages in use. -/
theorem newGo_used {pre suf : List Int} (h : ∀ x ∈ suf, x = 0 ∨ x = 1) : newGo (idx 1 pre.length suf) (pre ++ List.replicate suf.length 0) = some (pre ++ suf) := by
  induction suf generalizing pre with
  | nil => simp [idx, newGo]
  | cons x r ih =>
    have hr : ∀ y : Int, newGo (idx 1 (pre.length + 1) r) (pre ++ y :: List.replicate r.length 0) = some (pre ++ y :: r) := by
      intro y
      have := ih (pre := pre ++ [y]) (fun z hz => h z (by simp [hz]))
      simpa only [List.length_append, List.length_cons, List.length_nil, Nat.zero_add, List.append_assoc, List.singleton_append] using this
    rcases h x (by simp) with rfl | rfl
    · simp only [idx, List.length_cons, List.replicate_succ]
      rw [if_neg (by decide)]
      exact hr 0
    · simp only [idx, List.length_cons, List.replicate_succ, if_true, newGo]
      rw [if_neg, Int.toNat_natCast]
      · have : (pre ++ (0 : Int) :: List.replicate r.length 0).set pre.length 1 = pre ++ 1 :: List.replicate r.length 0 := by simp
        rw [this]
        exact hr 1
      · rintro (h1 | h1 | h1)
        · omega
        · simp at h1; omega
        · exact h1 (by simp [List.getD])
theorem newOf_used {st : List Int} (h : ∀ x ∈ st, x = 0 ∨ x = 1) (h1 : 1 ≤ st.length) (h2 : st.length ≤ 65536) : newOf st.length (idx 1 0 st) = some st := by
  have := newGo_used (pre := []) (suf := st) h
  simp only [List.length_nil, List.nil_append] at this
  unfold newOf
  rw [if_neg (by omega), Int.toNat_natCast]
  exact this
theorem turn_two {st : List Int} (h : V3 st) : ∀ x ∈ (turnR st).2, x = 0 ∨ x = 1 := by
  intro x hx
  obtain ⟨y, hy, rfl⟩ := List.mem_map.1 hx
  rcases h y hy with rfl | rfl | rfl <;> simp [t2]
theorem idx_two {st : List Int} (k : Nat) (h : ∀ x ∈ st, x = 0 ∨ x = 1) : idx 2 k st = [] := by
  induction st generalizing k with
  | nil => rfl
  | cons x r ih =>
    simp only [idx]
    rw [if_neg (by have := h x (by simp); omega), ih _ (fun y hy => h y (by simp [hy]))]

/-- Pages set so. -/
def setAll (v : Int) (us : List Int) (st : List Int) : List Int := us.foldl (fun s u => s.set u.toNat v) st
theorem setAll_len (v : Int) (us st : List Int) : (setAll v us st).length = st.length := by
  unfold setAll
  induction us generalizing st with
  | nil => rfl
  | cons u us ih => simp only [List.foldl_cons]; rw [ih]; simp
theorem setAll_at {v : Int} {us st : List Int} {j : Nat} (hj : j < st.length) (hu : ∀ u ∈ us, 0 ≤ u) : (setAll v us st).getD j 0 = if (j : Int) ∈ us then v else st.getD j 0 := by
  unfold setAll
  induction us generalizing st with
  | nil => simp
  | cons u us ih =>
    simp only [List.foldl_cons]
    rw [ih (by simpa using hj) (fun x hx => hu x (by simp [hx]))]
    have h0 := hu u (by simp)
    by_cases h1 : (j : Int) ∈ us
    · rw [if_pos h1, if_pos (by simp [h1])]
    · rw [if_neg h1]
      by_cases h2 : (j : Int) = u
      · subst h2
        rw [if_pos (by simp)]
        simp [List.getD, hj]
      · rw [if_neg (by simp [h1, h2])]
        have : u.toNat ≠ j := by omega
        simp [List.getD, List.getElem?_set_ne this]
theorem setAll_snoc (v : Int) (us : List Int) (u : Int) (st : List Int) : setAll v (us ++ [u]) st = (setAll v us st).set u.toNat v := by simp [setAll]
theorem ext_getD {a b : List Int} (hl : a.length = b.length) (h : ∀ j, j < a.length → a.getD j 0 = b.getD j 0) : a = b := by
  apply List.ext_getElem hl
  intro j h1 h2
  rw [getD_of h1, getD_of h2]
  exact h j h1
theorem idx_pos {v : Int} {st : List Int} : ∀ u ∈ idx v 0 st, 0 ≤ u := by
  intro u hu
  obtain ⟨j, _, e, _⟩ := idx_mem.1 hu
  omega
/-- The first pages taken, given back. -/
theorem undo_all {st : List Int} {T : List Int} (hT : ∀ u ∈ T, u ∈ idx 0 0 st) : setAll 0 T (setAll 1 T st) = st := by
  have hp : ∀ u ∈ T, 0 ≤ u := fun u hu => idx_pos u (hT u hu)
  refine ext_getD (by simp [setAll_len]) fun j hj => ?_
  simp only [setAll_len] at hj
  rw [setAll_at (by simpa [setAll_len] using hj) hp, setAll_at hj hp]
  by_cases h : (j : Int) ∈ T
  · rw [if_pos h]
    obtain ⟨j', _, e, h2⟩ := idx_mem.1 (hT _ h)
    have : j = j' := by omega
    subst this
    exact h2.symm
  · rw [if_neg h, if_neg h]
theorem take_rows {st : List Int} {i : Nat} {a : Int} (h : (idx 0 0 st)[i]? = some a) (hq : idx 0 0 (setAll 1 ((idx 0 0 st).take i) st) = (idx 0 0 st).drop i) :
    takeR (setAll 1 ((idx 0 0 st).take i) st) = (a, 0, setAll 1 ((idx 0 0 st).take (i + 1)) st) ∧ idx 0 0 (setAll 1 ((idx 0 0 st).take (i + 1)) st) = (idx 0 0 st).drop (i + 1) := by
  obtain ⟨hi, e⟩ := List.getElem?_eq_some_iff.1 h
  rw [List.drop_eq_getElem_cons hi, e] at hq
  have e2 : (idx 0 0 st).take (i + 1) = (idx 0 0 st).take i ++ [a] := by rw [List.take_succ_eq_append_getElem hi, e]
  rw [e2, setAll_snoc]
  exact ⟨take_some hq, (take_idx hq).1⟩
theorem take_rest {st : List Int} {i : Nat} (h : (idx 0 0 st).length ≤ i) (hq : idx 0 0 (setAll 1 ((idx 0 0 st).take i) st) = (idx 0 0 st).drop i) :
    takeR (setAll 1 ((idx 0 0 st).take i) st) = (0, 4, setAll 1 ((idx 0 0 st).take (i + 1)) st) ∧ idx 0 0 (setAll 1 ((idx 0 0 st).take (i + 1)) st) = (idx 0 0 st).drop (i + 1) := by
  rw [List.drop_of_length_le h] at hq
  rw [List.take_of_length_le h] at hq ⊢
  rw [List.take_of_length_le (by omega), List.drop_of_length_le (by omega)]
  exact ⟨take_none hq, hq⟩
/-- A page of those taken goes back. -/
theorem back_rows {st : List Int} {T : List Int} (hT : ∀ u ∈ T, u ∈ idx 0 0 st) (hn : T.Pairwise (· < ·)) {i : Nat} {a : Int} (h : T[i]? = some a) :
    backR (setAll 0 (T.take i) (setAll 1 T st)) a = (0, setAll 0 (T.take (i + 1)) (setAll 1 T st)) := by
  obtain ⟨hi, e⟩ := List.getElem?_eq_some_iff.1 h
  have hp : ∀ u ∈ T, 0 ≤ u := fun u hu => idx_pos u (hT u hu)
  have ha : a ∈ T := by rw [← e]; exact List.getElem_mem hi
  obtain ⟨j, hj, ej, _⟩ := idx_mem.1 (hT a ha)
  rw [Nat.zero_add] at ej
  subst ej
  have hu : usesOf (setAll 0 (T.take i) (setAll 1 T st)) (j : Int) = true := by
    refine decide_eq_true ⟨by omega, by simp [setAll_len]; omega, ?_⟩
    rw [Int.toNat_natCast, setAll_at (by simpa [setAll_len] using hj) (fun u hu => hp u (List.mem_of_mem_take hu)), setAll_at hj hp, if_pos ha, if_neg]
    intro hm
    obtain ⟨k, hk, ek⟩ := List.getElem_of_mem hm
    simp only [List.length_take] at hk
    rw [List.getElem_take] at ek
    have := List.pairwise_iff_getElem.1 hn k i (by omega) hi (by omega)
    rw [ek, e] at this
    omega
  unfold backR
  rw [if_pos hu]
  have e2 : T.take (i + 1) = T.take i ++ [(j : Int)] := by rw [List.take_succ_eq_append_getElem hi, e]
  rw [e2, setAll_snoc]
end Go.Proofs.Ytcmakpkdliiigaa
