/- The plain laws of the heap of free pages. -/
import Derived.Test.YtcmakpkdliiigaaSh
namespace Go.Proofs.Ytcmakpkdliiigaa
set_option maxHeartbeats 8000000
set_option linter.all false
open Go Go.Fw

theorem swp_perm {l : List Int} {i j : Nat} (hi : i < l.length) (hj : j < l.length) : (swp l i j).Perm l := by
  have h := Array.swap_perm (xs := l.toArray) (i := i) (j := j) (by simpa using hi) (by simpa using hj)
  have h2 := h.toList
  rw [Array.toList_swap] at h2
  simpa [swp, List.getD, hi, hj] using h2

/-- Each is no less than what is above it. -/
def HeapAt (l : List Int) (n j : Nat) : Prop := 0 < j → j < n → l.getD ((j - 1) / 2) 0 ≤ l.getD j 0
def Heapy (l : List Int) : Prop := ∀ j, HeapAt l l.length j

theorem getD_swp {l : List Int} {i j k : Nat} (hi : i < l.length) (hj : j < l.length) : (swp l i j).getD k 0 = if k = j then l.getD i 0 else if k = i then l.getD j 0 else l.getD k 0 := by
  unfold swp
  simp only [List.getD, List.getElem?_set, List.length_set]
  by_cases h1 : k = j
  · subst h1; simp [hj]
  · by_cases h2 : k = i
    · subst h2; simp [h1, Ne.symm h1, hi]
    · simp [h1, h2, Ne.symm h1, Ne.symm h2]

theorem heap_min {l : List Int} (h : Heapy l) : ∀ j, j < l.length → l.getD 0 0 ≤ l.getD j 0 := by
  intro j
  induction j using Nat.strongRecOn with
  | _ j ih =>
    intro hj
    by_cases h0 : j = 0
    · subst h0; exact Int.le_refl _
    · exact Int.le_trans (ih ((j - 1) / 2) (by omega) (by omega)) (h j (by omega) hj)

/-- A heap, but for what is above i. -/
def UpTo (l : List Int) (i : Nat) : Prop := (∀ j, j ≠ i → HeapAt l l.length j) ∧ ∀ j, 0 < i → 0 < j → j < l.length → (j - 1) / 2 = i → l.getD ((i - 1) / 2) 0 ≤ l.getD j 0
theorem up_heapy {f i : Nat} {l : List Int} (hf : i ≤ f) (hi : i < l.length) (h : UpTo l i) : Heapy (up f i l) ∧ (up f i l).Perm l := by
  induction f generalizing i l with
  | zero =>
    refine ⟨fun j => ?_, List.Perm.refl _⟩
    by_cases e : j = i
    · intro h0; omega
    · exact h.1 j e
  | succ f ih =>
    by_cases hc : 0 < i ∧ l.getD i 0 < l.getD ((i - 1) / 2) 0
    · rw [up_go hc.1 hc.2]
      have hp : (i - 1) / 2 < l.length := by omega
      have hs := fun k => getD_swp (l := l) (k := k) hi hp
      have q : UpTo (swp l i ((i - 1) / 2)) ((i - 1) / 2) := by
       refine ⟨fun j hj h0 hjn => ?_, fun j h0 hj0 hjn hjp => ?_⟩
       · rw [swp_len] at hjn
         rw [hs, hs]
         have a1 := h.1 j
         have a2 := h.2 j hc.1 h0 hjn
         have a3 := hc.2
         unfold HeapAt at a1
         by_cases e : j = i
         · subst e; simp only [show j ≠ (j - 1) / 2 by omega, if_true, if_false]; omega
         · have a1' := a1 e h0 hjn
           by_cases e2 : (j - 1) / 2 = i
           · have a2' := a2 e2
             simp only [e2, e, hj, if_false, if_true, show i ≠ (i - 1) / 2 by omega]
             omega
           · by_cases e3 : (j - 1) / 2 = (i - 1) / 2
             · simp only [e3, e, hj, if_false, if_true]
               rw [e3] at a1'
               omega
             · simp only [e2, e3, e, hj, if_false]
               exact a1'
       · rw [swp_len] at hjn
         rw [hs, hs]
         have b1 := h.1 ((i - 1) / 2) (by omega) h0 (by omega)
         have b2 := h.1 j
         have a2 := h.2 j hc.1 hj0 hjn
         unfold HeapAt at b2
         by_cases e : j = i
         · subst e
           simp only [show ((j - 1) / 2 - 1) / 2 ≠ (j - 1) / 2 by omega, show ((j - 1) / 2 - 1) / 2 ≠ j by omega, show j ≠ (j - 1) / 2 by omega, if_false, if_true]
           exact b1
         · have b2' := b2 e hj0 hjn
           rw [hjp] at b2'
           simp only [show ((i - 1) / 2 - 1) / 2 ≠ (i - 1) / 2 by omega, show ((i - 1) / 2 - 1) / 2 ≠ i by omega, show j ≠ (i - 1) / 2 by omega, e, if_false]
           omega
      obtain ⟨g1, g2⟩ := ih (l := swp l i ((i - 1) / 2)) (i := (i - 1) / 2) (by omega) (by rw [swp_len]; exact hp) q
      exact ⟨g1, g2.trans (swp_perm hi hp)⟩
    · rw [up_stop hc]
      refine ⟨fun j => ?_, List.Perm.refl _⟩
      by_cases e : j = i
      · subst e
        intro h0 _
        exact Int.not_lt.1 fun h => hc ⟨h0, h⟩
      · exact h.1 j e

/-- A heap of the first n, but for what is under i. -/
def DownTo (l : List Int) (n i : Nat) : Prop := (∀ j, (j - 1) / 2 ≠ i → HeapAt l n j) ∧ ∀ j, 0 < i → 0 < j → j < n → (j - 1) / 2 = i → l.getD ((i - 1) / 2) 0 ≤ l.getD j 0
theorem kid_least {n i : Nat} {l : List Int} (h : 2 * i + 1 < n) : (∀ j, 0 < j → j < n → (j - 1) / 2 = i → l.getD (kid n i l) 0 ≤ l.getD j 0) ∧ kid n i l < n ∧ (kid n i l - 1) / 2 = i ∧ 0 < kid n i l := by
  unfold kid
  split
  · rename_i h2
    refine ⟨fun j h0 hj hp => ?_, h2.1, by omega, by omega⟩
    by_cases e : j = 2 * i + 2
    · subst e; exact Int.le_refl _
    · have : j = 2 * i + 1 := by omega
      subst this; exact Int.le_of_lt h2.2
  · rename_i h2
    refine ⟨fun j h0 hj hp => ?_, h, by omega, by omega⟩
    by_cases e : j = 2 * i + 1
    · subst e; exact Int.le_refl _
    · have : j = 2 * i + 2 := by omega
      subst this
      exact Int.not_lt.1 fun h => h2 ⟨hj, h⟩

theorem down_heapy {f n i : Nat} {l : List Int} (hf : n ≤ f + i) (hn : n ≤ l.length) (h : DownTo l n i) : (∀ j, HeapAt (down n f i l) n j) ∧ (down n f i l).Perm l := by
  induction f generalizing i l with
  | zero =>
    refine ⟨fun j h0 hj => h.1 j (by omega) h0 hj, List.Perm.refl _⟩
  | succ f ih =>
    by_cases hk : 2 * i + 1 < n
    · obtain ⟨k1, k2, k3, k4⟩ := kid_least (l := l) hk
      by_cases hc : l.getD i 0 ≤ l.getD (kid n i l) 0
      · rw [down_stop hc]
        refine ⟨fun j => ?_, List.Perm.refl _⟩
        by_cases e : (j - 1) / 2 = i
        · intro h0 hj; rw [e]; exact Int.le_trans hc (k1 j h0 hj e)
        · exact h.1 j e
      · rw [down_go hk hc]
        generalize kid n i l = k at *
        have hi : i < l.length := by omega
        have hs := fun q => getD_swp (l := l) (k := q) hi (show k < l.length by omega)
        have q : DownTo (swp l i k) n k := by
          refine ⟨fun j hj h0 hjn => ?_, fun j h0 hj0 hjn hjp => ?_⟩
          · rw [hs, hs]
            have a1 := h.1 j
            have a2 := h.2 k
            unfold HeapAt at a1
            by_cases e : j = k
            · subst e; rw [k3]; simp only [show i ≠ j by omega, if_true, if_false]; omega
            · by_cases e2 : (j - 1) / 2 = i
              · have := k1 j h0 hjn e2
                simp only [e2, e, show i ≠ k by omega, show j ≠ i by omega, if_true, if_false]
                exact this
              · have a1' := a1 e2 h0 hjn
                by_cases e3 : j = i
                · subst e3
                  have := a2 h0 k4 k2 k3
                  simp only [hj, e2, show j ≠ k by omega, if_true, if_false]
                  exact this
                · simp only [hj, e2, e, e3, if_false]
                  exact a1'
          · rw [hs, hs, k3]
            have a1 := h.1 j (by omega) hj0 hjn
            rw [hjp] at a1
            simp only [show i ≠ k by omega, show j ≠ k by omega, show j ≠ i by omega, if_true, if_false]
            exact a1
        obtain ⟨g1, g2⟩ := ih (l := swp l i k) (i := k) (by omega) (by rw [swp_len]; exact hn) q
        exact ⟨g1, g2.trans (swp_perm hi (by omega))⟩
    · rw [down_end hk]
      refine ⟨fun j h0 hj => h.1 j (by omega) h0 hj, List.Perm.refl _⟩

theorem push_heapy {fr : List Int} {n : Int} (h : Heapy fr) : Heapy (push fr n) ∧ (push fr n).Perm (n :: fr) := by
  have q : UpTo (fr ++ [n]) fr.length := by
    refine ⟨fun j hj h0 hjn => ?_, fun j h0 hj0 hjn hjp => ?_⟩
    · rw [List.length_append, List.length_singleton] at hjn
      have e1 : (fr ++ [n]).getD j 0 = fr.getD j 0 := by simp [List.getD, List.getElem?_append_left (show j < fr.length by omega)]
      have e2 : (fr ++ [n]).getD ((j - 1) / 2) 0 = fr.getD ((j - 1) / 2) 0 := by simp [List.getD, List.getElem?_append_left (show (j - 1) / 2 < fr.length by omega)]
      rw [e1, e2]
      exact h j h0 (by omega)
    · rw [List.length_append, List.length_singleton] at hjn; omega
  obtain ⟨h1, h2⟩ := up_heapy (f := fr.length) (i := fr.length) (l := fr ++ [n]) (Nat.le_refl _) (by simp) q
  exact ⟨h1, h2.trans (by simpa using List.perm_append_comm (l₁ := fr) (l₂ := [n]))⟩
end Go.Proofs.Ytcmakpkdliiigaa
