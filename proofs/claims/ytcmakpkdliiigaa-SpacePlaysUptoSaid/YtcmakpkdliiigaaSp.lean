/- Each page is free, in use or waits. -/
import Derived.Test.YtcmakpkdliiigaaSo
namespace Go.Proofs.Ytcmakpkdliiigaa
set_option maxHeartbeats 8000000
set_option linter.all false
open Go Go.Fw
attribute [local irreducible] Reg RegD seqK blockK loopK retK
set_option maxRecDepth 10000

/-- Less is said of a value. -/
def Weaker (x x' : AV) : Prop := ∀ w O v, Rep w O x v → Rep w O x' v
theorem CallOK.weak {P : Program} {f : FuncId} {args : List AV} {H : AH} {K K' : AV → AH → Prop} (h : CallOK P f args H K) (hk : ∀ r H', K r H' → ∃ r', Weaker r r' ∧ K' r' H') : CallOK P f args H K' := by
  refine ⟨h.1, fun w O vs hO hH hl hr => (h.2 w O vs hO hH hl hr).mono fun e w' hR => ?_⟩
  obtain ⟨r, H', O', v, h1, h2, h3, h4⟩ := hR
  obtain ⟨r', g1, g2⟩ := hk r H' h2
  exact ⟨r', H', O', v, h1, g2, h3, g1 _ _ _ h4⟩
theorem Weaker.refl (x : AV) : Weaker x x := fun _ _ _ h => h
theorem Weaker.nil : Weaker (.v (.slice none 0 0)) (.ov none 0 1 0 none) := by
  intro w O v h
  cases h
  exact .ovn 1 none
theorem Weaker.tup2 {x x' y y' : AV} (hx : Weaker x x') (hy : Weaker y y') : Weaker (.tup [x, y]) (.tup [x', y']) := by
  intro w O v h
  cases h with
  | tup cs vs hl h =>
    match vs, hl, h with
    | [a, b], _, h =>
      refine .tup [x', y'] [a, b] rfl fun i p q hp hq => ?_
      match i, hp, hq with
      | 0, hp, hq => simp at hp hq; subst hp; subst hq; exact hx _ _ _ (h 0 _ _ rfl rfl)
      | 1, hp, hq => simp at hp hq; subst hp; subst hq; exact hy _ _ _ (h 1 _ _ rfl rfl)
theorem VecA.weak {H : AH} {y : AV} {ob : Option Nat} {fr : List Int} (h : VecA H y ob fr) : Weaker y (.ov ob 0 1 fr.length none) ∧ Vec H ob fr := by
  rcases h with ⟨rfl, h⟩ | ⟨rfl, rfl, rfl⟩
  · exact ⟨.refl _, h⟩
  · exact ⟨.nil, rfl⟩

theorem sp_used' {H : AH} {b : Nat} {F : List Nat} {st : List Int} {K : AV → AH → Prop} (h : Sp H b F st)
    (hk : ∀ H' oy oz, Vec H' oy (idx 1 0 st) → Vec H' oz (idx 2 0 st) → Own2 H H' oy oz → K (.tup [.ov oy 0 1 (idx 1 0 st).length none, .ov oz 0 1 (idx 2 0 st).length none]) H') : CallOK Try.prog 12 [.ptr b 2 0 0] H K := by
  refine CallOK.weak (K := fun r H' => ∃ y z oy oz, r = .tup [y, z] ∧ VecA H' y oy (idx 1 0 st) ∧ VecA H' z oz (idx 2 0 st) ∧ Own2 H H' oy oz) (sp_used h fun H' y z oy oz h1 h2 h3 => ⟨y, z, oy, oz, rfl, h1, h2, h3⟩) ?_
  rintro r H' ⟨y, z, oy, oz, rfl, h1, h2, h3⟩
  exact ⟨_, .tup2 h1.weak.1 h2.weak.1, hk H' oy oz h1.weak.2 h2.weak.2 h3⟩

theorem Sp.all {H H' : AH} {b : Nat} {F : List Nat} {st : List Int} (h : Sp H b F st) (hk : ∀ q, (H q).isSome = true → H' q = H q) : Sp H' b F st :=
  h.keep (F1 := []) (F1' := []) ⟨fun q _ hq => hk q hq, fun q hq => by cases hq⟩ (fun _ _ h => by cases h)
theorem Sp.there {H : AH} {b : Nat} {F : List Nat} {st : List Int} (h : Sp H b F st) : ∀ q ∈ F, q = b ∨ (H q).isSome = true := by
  obtain ⟨⟨b1, c1, fr, ⟨ob, y, l1, l2, l3, l4, l5, l6, rfl⟩, hG⟩, h2⟩ := h
  intro q hq
  simp only [List.mem_cons, Option.mem_toList] at hq
  rcases hq with rfl | rfl | hq
  · exact .inl rfl
  · exact .inr (by rw [l2]; rfl)
  · rcases l3 with ⟨_, h3⟩ | ⟨_, h3, _⟩
    · subst hq; obtain ⟨tl, h3⟩ := h3; exact .inr (by rw [h3]; rfl)
    · subst h3; cases hq
theorem Sp.base {H : AH} {b : Nat} {F : List Nat} {st : List Int} (h : Sp H b F st) : (H b).isSome = true := by
  obtain ⟨⟨b1, c1, fr, ⟨ob, y, l1, _⟩, hG⟩, h2⟩ := h
  rw [l1]; rfl
theorem Sp.some {H : AH} {b : Nat} {F : List Nat} {st : List Int} (h : Sp H b F st) : ∀ q ∈ F, (H q).isSome = true := by
  intro q hq
  rcases h.there q hq with rfl | h1
  · exact h.base
  · exact h1

/-- A vector that was made since is as it was, when the space has been written. -/
theorem Vec.keep {H0 H H' : AH} {b : Nat} {F F' : List Nat} {st : List Int} {ob : Option Nat} {xs : List Int} (hS : Sp H0 b F st) (ho : ∀ q, ob = some q → H0 q = none) (h : Vec H ob xs) (hk : Keeps H F H' F') : Vec H' ob xs := by
  cases ob with
  | none => exact h
  | some q =>
    obtain ⟨tl, h⟩ := h
    refine ⟨tl, ?_⟩
    rw [hk.1 q (fun hq => ?_) (by rw [h]; rfl), h]
    have := hS.some q hq
    rw [ho q rfl] at this
    cases this
theorem Vec.row {H : AH} {ob : Option Nat} {xs : List Int} {k : Nat} (h : Vec H ob xs) (hk : k < xs.length) : ∃ q tl, ob = some q ∧ H q = some ⟨1, iv (xs ++ tl)⟩ ∧ (iv (xs ++ tl))[k]? = some [.v (.int .i64 (xs.getD k 0))] := by
  cases ob with
  | none => simp only [Vec] at h; subst h; simp at hk
  | some q =>
    obtain ⟨tl, h⟩ := h
    exact ⟨q, tl, rfl, h, by rw [iv_row (by simp; omega)]; simp [List.getD, List.getElem?_append_left hk]⟩

/-- A script of calls. -/
def ops (l : List (Int × Int × Int)) : List (List AV) := l.map fun o => [.v (.int .i64 o.1), .v (.int .i64 o.2.1), .v (.int .i64 o.2.2)]
theorem ops_len (l : List (Int × Int × Int)) : (ops l).length = l.length := by simp [ops]
theorem ops_row {l : List (Int × Int × Int)} {k : Nat} (h : k < l.length) : (ops l)[k]? = some [.v (.int .i64 l[k].1), .v (.int .i64 l[k].2.1), .v (.int .i64 l[k].2.2)] := by simp [ops, h]
end Go.Proofs.Ytcmakpkdliiigaa
