/- Proved: SpacePlays answers true at every number of pages, every list of pages and every script, and leaves what came in as it was. Condition: the arguments hold together at most 1048576 values (the statement SpacePlaysUptoSaid). -/
import Derived.Test.YtcmakpkdliiigaaTa
import Derived.Test.YtcmakpkdliiigaaSw
namespace Go.Proofs.Ytcmakpkdliiigaa.spacePlays
set_option maxHeartbeats 8000000
set_option linter.all false
open Go Go.Fw Go.ChangeShapes Go.WideShapes Go.ChangeAt Go.RowKit

theorem readable : ∀ t ∈ Try.f7.params.toList, Try.prog.readableRec t = true ∧ t < Try.prog.types.size := by
  rw [Try.params7]
  intro t ht
  simp at ht
  rcases ht with rfl | rfl | rfl <;> exact ⟨by kernel_rfl, of_decide_eq_true (by kernel_rfl)⟩

theorem contract (H : Type) (enc : TypeId × Value → H) (W : World) (base : Nat) (args : Array Value) (ds gs : List (DataW H)) (before : List MemPlace)
    (hval : ∀ (j : Nat) t v, Try.f7.params[j]? = some t → args[j]? = some v → Value.okWide Try.prog W .any base t v)
    (hW : DataW.Whole enc Try.prog Try.f7.params.toList Rows.spacePlaysSpec.vars false W args.toList ds gs before) (hk : Rows.uptoSmall H (ds ++ gs) = true) :
    Calls Try.prog 7 args W fun e W' => ∃ v, e = .returned v ∧ Rows.spacePlaysSpec.post enc Try.prog Try.f7 false true false false W args v W' := by
  have hW' := hW
  obtain ⟨p, q, hA0, hV, rfl, hfz, hnd⟩ := hW
  have hA : DataW.TrodAll enc Try.prog W 0 (fun _ => true) true Try.f7.params.toList args.toList ds p := hA0
  rw [Try.params7] at hA hval
  obtain ⟨v0, vs0, d0, ds0, p0, q0, hargs, rfl, rfl, h0, r0⟩ := trodAll_cons hA
  obtain ⟨v1, vs1, d1, ds1, p1, q1, rfl, rfl, rfl, h1, r1⟩ := trodAll_cons r0
  obtain ⟨v2, vs2, d2, ds2, p2, q2, rfl, rfl, rfl, h2, r2⟩ := trodAll_cons r1
  obtain ⟨rfl, rfl, rfl⟩ := trodAll_nil r2
  obtain rfl : args = #[v0, v1, v2] := by cases args; simp_all
  obtain ⟨rfl, rfl⟩ := trodVars_none hV
  obtain ⟨a0, rfl, rfl, rfl, w0⟩ := open_int Try.underlying3 (hval 0 3 v0 rfl rfl) h0
  obtain ⟨us1, hrep1, hlen1⟩ := rep_ints Try.underlying22 Try.underlying3 cl3 (okWide_slice Try.underlying22 (hval 1 22 v1 rfl rfl)) h1
  have hb1 : us1.length ≤ 1000000000 := small_of (i := 1) hlen1 rfl hk
  obtain ⟨us2, hrep2, hlen2⟩ := rep_ops (okWide_slice Try.underlying32 (hval 2 32 v2 rfl rfl)) h2
  have hb2 : us2.length ≤ 1000000000 := small_of (i := 2) hlen2 rfl hk
  have hc := calls_law (vs := [.int .i64 a0, v1, v2]) (W := W) (plays_ok (H := fun _ => none) (pages := a0) hb1 hb2 (fun _ => rfl)) rfl (by
    intro i x y hx hy
    match i, hx, hy with
    | 0, hx, hy => simp at hx hy; subst hx; subst hy; exact .v _
    | 1, hx, hy => simp at hx hy; subst hx; subst hy; exact hrep1
    | 2, hx, hy => simp at hx hy; subst hx; subst hy; exact hrep2
    | i + 3, hx, hy => simp at hx)
  refine hc.mono fun e W' ⟨he, hg⟩ => ⟨_, he, ?_⟩
  exact law_post laid rfl readable (by kernel_rfl) Try.underlying4 hW' ⟨rfl, rfl, rfl⟩ hg

set_option maxRecDepth 100000 in
theorem lifted (os : Os) (started : os.Started) (H : Type) (enc : TypeId × Value → H) (F : Stop.Interp) :
    ReturnsInHanded {} Try.checked os 7 .any ((Rows.OpenSpec.upto Rows.spacePlaysSpec).pre6 enc Try.prog Try.f7 Rows.spacePlaysUptoRow.domain false) (((Rows.OpenSpec.upto Rows.spacePlaysSpec).at F).post enc Try.prog Try.f7 false true false false) := by
  refine returnsInHanded_of_cond (C := Try.checked) (s := Rows.OpenSpec.upto Rows.spacePlaysSpec) (k := Rows.uptoSmall) rfl own started (by kernel_rfl) Try.func7
    (OpenSpec.witness (enc := enc) (C := Try.checked) (s := Rows.OpenSpec.upto Rows.spacePlaysSpec) (k := Rows.uptoSmall) rfl false ⟨#[], #[.int .i64 0, .slice none 0 0, .slice none 0 0], []⟩ 8 (by kernel_rfl) (by kernel_rfl) (by kernel_rfl)
      (x := ([.lit (.int .i64 0), .nil, .nil], [], [])) (by kernel_rfl) rfl (by kernel_rfl)) ?_
  intro W base args ds gs before hval hW _ hk _
  exact contract H enc W base args ds gs before hval hW hk

theorem over : Rows.spacePlaysUptoRow.holds Try.pinned (Rows.OpenSpec.upto Rows.spacePlaysSpec) :=
  OpenClaim.holds_of_cond 7 Try.f7 rfl rfl rfl rfl rfl rfl rfl ⟨rfl, rfl, rfl, rfl, rfl⟩ rfl rfl rfl rfl rfl (by kernel_rfl) Try.func7 (by kernel_rfl)
    (of_decide_eq_true (by kernel_rfl)) (by unfold Func.isWrapper; first | (rw [if_pos (by decide +kernel)]; kernel_rfl) | (rw [if_neg (by decide +kernel)]; exact ⟨rfl, rfl⟩))
    (fun os started H enc _ F => lifted os started H enc F)

theorem proved : Rows.SpacePlaysUptoSaid :=
  over
#print axioms proved
end Go.Proofs.Ytcmakpkdliiigaa.spacePlays
