/- What the heap of free pages is, told by the states alone. -/
import Derived.Test.YtcmakpkdliiigaaSi
namespace Go.Proofs.Ytcmakpkdliiigaa
set_option maxHeartbeats 8000000
set_option linter.all false
open Go Go.Fw

theorem getD_app {a t : List Int} {k : Nat} (h : k < a.length) : (a ++ t).getD k 0 = a.getD k 0 := by simp [List.getD, List.getElem?_append_left h]

theorem pop_heapy {fr : List Int} (hne : fr ≠ []) (h : Heapy fr) : Heapy (pop fr) ∧ (fr.getD 0 0 :: pop fr).Perm fr := by
  have hpos : 0 < fr.length := List.length_pos_iff.2 hne
  obtain ⟨a, z, rfl⟩ : ∃ a z, fr = a ++ [z] := ⟨fr.dropLast, fr.getLast hne, (List.dropLast_concat_getLast hne).symm⟩
  have hz : (a ++ [z]).getD a.length 0 = z := by simp [List.getD]
  cases a with
  | nil => simp [pop, down, Heapy, HeapAt]
  | cons x m =>
    have e1 : pop (x :: m ++ [z]) = down (m.length + 1) (m.length + 1) 0 (z :: m) := by
      have e : ((x :: m) ++ [z]).set 0 z = (z :: m) ++ [z] := by simp
      unfold pop
      simp only [List.length_append, List.length_cons, List.length_nil, Nat.zero_add, Nat.add_sub_cancel] at hz ⊢
      rw [hz, e, down_app (by simp)]
      rw [List.take_left']
      simp [down_len]
    have q : DownTo (z :: m) (m.length + 1) 0 := by
      refine ⟨fun j hj h0 hjn => ?_, fun j h0 => by omega⟩
      have := h j h0 (by simp; omega)
      rw [getD_app (by simp; omega), getD_app (by simp; omega)] at this
      obtain ⟨j', rfl⟩ : ∃ j', j = j' + 1 := ⟨j - 1, by omega⟩
      obtain ⟨p', hp⟩ : ∃ p', (j' + 1 - 1) / 2 = p' + 1 := ⟨(j' + 1 - 1) / 2 - 1, by omega⟩
      rw [hp] at this ⊢
      exact this
    obtain ⟨h1, h2⟩ := down_heapy (f := m.length + 1) (n := m.length + 1) (i := 0) (l := z :: m) (by omega) (by simp) q
    rw [e1]
    refine ⟨fun j => ?_, ?_⟩
    · have := h1 j
      rw [down_len]
      exact this
    · refine (h2.cons _).trans ?_
      show (x :: z :: m).Perm (x :: (m ++ [z]))
      exact (by simpa using List.perm_append_comm (l₁ := [z]) (l₂ := m) : (z :: m).Perm (m ++ [z])).cons x

theorem idx_cons_set {v w : Int} {n : Nat} {st : List Int} (h : n < st.length) : idx v 0 (st.set n w) = idx v 0 (st.take n) ++ (if w = v then [(n : Int)] else []) ++ idx v (n + 1) (st.drop (n + 1)) := by
  rw [List.set_eq_take_append_cons_drop, if_pos h, idx_app]
  simp only [idx, List.length_take, Nat.min_eq_left (Nat.le_of_lt h), Nat.zero_add]
  split <;> simp
theorem idx_at {v : Int} {n : Nat} {st : List Int} (h : n < st.length) : idx v 0 st = idx v 0 (st.take n) ++ (if st.getD n 0 = v then [(n : Int)] else []) ++ idx v (n + 1) (st.drop (n + 1)) := by
  have := idx_cons_set (v := v) (w := st[n]) h
  rw [List.set_getElem_self] at this
  rw [← getD_of h]
  exact this
theorem idx_out {v w : Int} {n : Nat} {st : List Int} (h : n < st.length) (h1 : st.getD n 0 ≠ v) (h2 : w ≠ v) : idx v 0 (st.set n w) = idx v 0 st := by
  rw [idx_cons_set h, idx_at h, if_neg h1, if_neg h2]
theorem idx_in {v : Int} {n : Nat} {st : List Int} (h : n < st.length) (h1 : st.getD n 0 ≠ v) : (idx v 0 (st.set n v)).Perm ((n : Int) :: idx v 0 st) := by
  rw [idx_cons_set h, idx_at h, if_neg h1, if_pos rfl, List.append_nil, List.append_assoc]
  exact List.perm_middle
theorem idx_del {v w : Int} {n : Nat} {st : List Int} (h : n < st.length) (h1 : st.getD n 0 = v) (h2 : w ≠ v) : (idx v 0 st).Perm ((n : Int) :: idx v 0 (st.set n w)) := by
  rw [idx_cons_set h, idx_at h, if_pos h1, if_neg h2, List.append_nil, List.append_assoc]
  exact List.perm_middle
theorem idx_mem {v a : Int} {k : Nat} {st : List Int} : a ∈ idx v k st ↔ ∃ j, j < st.length ∧ a = ((k + j : Nat) : Int) ∧ st.getD j 0 = v := by
  induction st generalizing k with
  | nil => simp [idx]
  | cons x r ih =>
    have hr : a ∈ idx v (k + 1) r ↔ ∃ j, 0 < j ∧ j < (x :: r).length ∧ a = ((k + j : Nat) : Int) ∧ (x :: r).getD j 0 = v := by
      rw [ih]
      constructor
      · rintro ⟨j, h1, h2, h3⟩; exact ⟨j + 1, by omega, by simp; omega, by rw [h2]; congr 1; omega, by simpa using h3⟩
      · rintro ⟨j, h0, h1, h2, h3⟩
        obtain ⟨j, rfl⟩ : ∃ j', j = j' + 1 := ⟨j - 1, by omega⟩
        exact ⟨j, by simp at h1; omega, by rw [h2]; congr 1; omega, by simpa using h3⟩
    simp only [idx]
    by_cases hx : x = v
    · rw [if_pos hx, List.mem_cons, hr]
      constructor
      · rintro (h | ⟨j, h0, h⟩)
        · exact ⟨0, by simp, by simpa using h, by simpa using hx⟩
        · exact ⟨j, h⟩
      · rintro ⟨j, h⟩
        by_cases e : j = 0
        · subst e; exact .inl (by simpa using h.2.1)
        · exact .inr ⟨j, by omega, h⟩
    · rw [if_neg hx, hr]
      constructor
      · rintro ⟨j, h0, h⟩; exact ⟨j, h⟩
      · rintro ⟨j, h⟩
        by_cases e : j = 0
        · subst e; exact absurd (by simpa using h.2.2) hx
        · exact ⟨j, by omega, h⟩
theorem idx_sorted (v : Int) (k : Nat) (st : List Int) : (idx v k st).Pairwise (· < ·) := by
  induction st generalizing k with
  | nil => simp [idx]
  | cons x r ih =>
    simp only [idx]
    split
    · refine List.Pairwise.cons (fun a ha => ?_) (ih _)
      obtain ⟨j, _, h, _⟩ := idx_mem.1 ha
      rw [h]; omega
    · exact ih _

/-- The heap is of the free pages. -/
def Good (st fr : List Int) : Prop := Heapy fr ∧ fr.Perm (idx 0 0 st)
theorem Good.len {st fr : List Int} (h : Good st fr) : fr.length = (idx 0 0 st).length := h.2.length_eq
theorem Good.nil {st fr : List Int} (h : Good st fr) : fr = [] ↔ idx 0 0 st = [] := by
  rw [← List.length_eq_zero_iff, h.len, List.length_eq_zero_iff]
theorem Good.first {st fr : List Int} (h : Good st fr) (hne : fr ≠ []) : fr.getD 0 0 = (idx 0 0 st).getD 0 0 := by
  have hi : idx 0 0 st ≠ [] := fun e => hne (h.nil.2 e)
  cases hx : idx 0 0 st with
  | nil => exact absurd hx hi
  | cons a r =>
    have hs := idx_sorted 0 0 st
    rw [hx] at hs
    cases fr with
    | nil => exact absurd rfl hne
    | cons b q =>
      show b = a
      have m1 : b ∈ a :: r := by rw [← hx]; exact h.2.mem_iff.1 (by simp)
      have m2 : a ∈ b :: q := h.2.mem_iff.2 (by rw [hx]; simp)
      have l1 : a ≤ b := by
        rcases List.mem_cons.1 m1 with e | e
        · omega
        · exact Int.le_of_lt ((List.pairwise_cons.1 hs).1 b e)
      obtain ⟨j, hj, e⟩ := List.getElem_of_mem m2
      have := heap_min h.1 j hj
      rw [← getD_of hj, e] at this
      have : b ≤ a := this
      omega
theorem Good.take {st fr : List Int} (h : Good st fr) (hne : fr ≠ []) : Good (st.set (fr.getD 0 0).toNat 1) (pop fr) ∧ 0 ≤ fr.getD 0 0 ∧ fr.getD 0 0 < st.length ∧ st.getD (fr.getD 0 0).toNat 0 = 0 := by
  obtain ⟨p1, p2⟩ := pop_heapy hne h.1
  have hm : fr.getD 0 0 ∈ idx 0 0 st := h.2.mem_iff.1 (p2.mem_iff.1 (by simp))
  obtain ⟨j, hj, e, hv⟩ := idx_mem.1 hm
  rw [Nat.zero_add] at e
  rw [e, Int.toNat_natCast]
  rw [e] at p2
  refine ⟨⟨p1, ?_⟩, by omega, by omega, hv⟩
  have := (p2.trans h.2).trans (idx_del (w := 1) hj hv (by decide))
  exact List.Perm.cons_inv this
theorem Good.put {st fr : List Int} {n : Nat} (h : Good st fr) (hn : n < st.length) (hv : st.getD n 0 ≠ 0) : Good (st.set n 0) (push fr n) := by
  obtain ⟨p1, p2⟩ := push_heapy (n := (n : Int)) h.1
  exact ⟨p1, p2.trans ((h.2.cons _).trans (idx_in hn hv).symm)⟩
theorem Good.other {st fr : List Int} {n : Nat} {w : Int} (h : Good st fr) (hn : n < st.length) (hv : st.getD n 0 ≠ 0) (hw : w ≠ 0) : Good (st.set n w) fr :=
  ⟨h.1, by rw [idx_out hn hv hw]; exact h.2⟩
end Go.Proofs.Ytcmakpkdliiigaa
