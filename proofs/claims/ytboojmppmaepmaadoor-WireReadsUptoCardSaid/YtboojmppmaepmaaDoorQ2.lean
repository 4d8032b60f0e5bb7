/- The walks and the plain laws that the row rests on, part 2: Wf Xd Vc Vd Wp Wq Wr Ws Wt Wu Wv Ww Wg Wh Wi Wj Wk Ve. -/
import Derived.Test.YtboojmppmaepmaaDoorQ1
import Derived.Recover
/- The library's contracts, as the walks take them. -/
namespace Go.Lib
set_option maxHeartbeats 8000000
set_option linter.all false
theorem run_indexByteEmpty {P : Program} (w : World) (a : Addr) (c : Nat) (cv : Int) : (Extern.BytealgIndexByte.indexByte #[.slice (some a) 0 c, .int .u8 cv]).run P w = .ok (.int .i64 (-1)) w := by
  have h := run_indexByteNil (P := P) w 0 0 cv
  change Sem.run P (do
    let b ← Extern.Bytes.bytesOf (.slice (some a) 0 c)
    let c ← Extern.Bytes.asByte (.int .u8 cv)
    match (List.range b.size).find? fun i => b[i]! == c with
    | some i => pure (goInt i)
    | none => pure (goInt (-1))) w = _
  change Sem.run P (do
    let b ← Extern.Bytes.bytesOf (.slice none 0 0)
    let c ← Extern.Bytes.asByte (.int .u8 cv)
    match (List.range b.size).find? fun i => b[i]! == c with
    | some i => pure (goInt i)
    | none => pure (goInt (-1))) w = _ at h
  simp only [Extern.Bytes.bytesOf, Extern.Bytes.loadBytes, Sem.run_bind, Sem.run_pure, Result.andThen] at h ⊢
  exact h
theorem run_indexByteE {P : Program} (w : World) (a : Option Addr) (c : Nat) (cv : Int) : (Extern.BytealgIndexByte.indexByte #[.slice a 0 c, .int .u8 cv]).run P w = .ok (.int .i64 (-1)) w := by
  cases a with
  | none => exact run_indexByteNil w 0 c cv
  | some a => exact run_indexByteEmpty w a c cv
end Go.Lib
namespace Go.Proofs
open Go.Shelf
set_option maxRecDepth 100000 in
theorem Any.bytes_IndexByte_empty {P : Program} {ρ : Ren} (L : Lays.n187 P ρ) (a : Option Addr) (c : Nat) (cv : Int) (w : World) :
    Calls P (ρ.f 187) #[.slice a 0 c, .int .u8 cv] w fun e w' => e = .returned (.int .i64 (-1)) ∧ w' = w := by
  have t3 := L.t3; have t5 := L.t5; have t37 := L.t37
  have a3 := L.a3; have a5 := L.a5; have a37 := L.a37
  have mixed := L.mixed; have z3 := L.z3; have v3 := L.v3; have z5 := L.z5; have v5 := L.v5; have z37 := L.z37; have v37 := L.v37
  go_enter L.f187, Body.n187_ntmps ρ
  go_wp2
  rw [run_callFunc_extern L.f255 (by kernel_rfl) (by kernel_rfl) (by kernel_rfl) (e := Extern.BytealgIndexByte.indexByte) (by kernel_rfl), Lib.run_indexByteE w a c cv]
  simp only [Result.andThen]
  rw [Oper.upon_value]
  go_wp2
  go_ret
  exact ⟨rfl, rfl⟩
end Go.Proofs
namespace Go.Proofs.YtboojmppmaepmaaDoor
open Go Go.Fw Go.RowKit

variable {H : AH} {K : AV → AH → Prop} {J : Value → AH → Prop}

/-- A call that leaves what was there as it was. -/
theorem callX_below {P : Program} {f : FuncId} {args : List AV} {v : Value} (hc : Callable P f)
    (hrun : ∀ (w : World) (O : Nat → Prop) (vs : List Value), Kn w O → (∀ b o, H b = some o → O b ∧ ObjRep w O b o) → args.length = vs.length → (∀ (i : Nat) x y, args[i]? = some x → vs[i]? = some y → Rep w O x y) →
      Calls P f vs.toArray w fun e w' => e = .returned v ∧ Below w.heap.size w w') (hk : K (.v v) H) : CallX P f args H K J := by
  refine ⟨hc, fun w O vs hkn hO hH hl hr => (hrun w O vs hkn hH hl hr).mono ?_⟩
  rintro e w' ⟨rfl, hb⟩
  have hx : Ext w O (Fw.dom H) w' O := ⟨hb.os, hb.tape, hb.output, hb.size, fun b h _ => hb.block b h, fun b c t fr h => ⟨c, fr, (hb.block b (lt_of_heap h)).trans h, rfl⟩, fun _ _ _ => Iff.rfl, fun _ _ h => h⟩
  have hD : ∀ b, Fw.dom H b → O b := fun b ⟨o, h⟩ => (hH b o h).1
  exact .inl ⟨.v v, H, O, v, rfl, hk, ⟨hx, fun b h => Nat.lt_of_lt_of_le (hO b h) hb.size, fun b o h => ⟨(hH b o h).1, fun _ => ⟨o, h⟩⟩, fun b o h => (hH b o h).2.ext hx hD (hb.block b (hO b (hH b o h).1))⟩, .v v⟩

theorem one_arg {w : World} {O : Nat → Prop} {vs : List Value} {x : Value} (hl : [AV.v x].length = vs.length) (hr : ∀ (i : Nat) a y, [AV.v x][i]? = some a → vs[i]? = some y → Rep w O a y) : vs = [x] := by
  match vs, hl, hr with
  | [y], _, hr => rw [(hr 0 _ y rfl rfl).inv_v]

theorem itoa_ok {n : Int} (h0 : -9223372036854775808 ≤ n) (h1 : n ≤ 9223372036854775807) (hk : K (.v (.string (bs (Lib.itoa n)))) H) : CallX Tryd.prog 55 [.v (.int .i64 n)] H K J := by
  refine callX_below ⟨_, Tryd.func55, nm55, by kernel_rfl⟩ (fun w O vs hkn _ hl hr => ?_) hk
  rw [one_arg hl hr]
  refine (Tryd.strconv_Itoa n h0 h1 w hkn.what.pow).mono ?_
  rintro e w' ⟨rfl, k, os, rfl⟩
  refine ⟨rfl, ?_⟩
  have hd : ∀ (k : Nat) (w : World), (w.drewN k).os = w.os ∧ (w.drewN k).tape = w.tape ∧ (w.drewN k).output = w.output ∧ (w.drewN k).heap = w.heap := by
    intro k w
    simp [World.drewN]
  obtain ⟨e1, e2, e3, e4⟩ := hd k w
  refine ⟨e1, e2, e3, ?_, fun b hb => ?_⟩
  · show w.heap.size ≤ ((w.drewN k).heap ++ os).size
    rw [e4, Array.size_append]; omega
  · show ((w.drewN k).heap ++ os)[b]? = _
    rw [e4, Array.getElem?_append_left hb]

theorem valid_ok {l : Bs} (hl : l.length ≤ 1000000000) (hk : K (.v (.bool (Lib.validD l))) H) : CallX Tryd.prog 84 [.v (.string (bs l))] H K J := by
  refine callX_below ⟨_, Tryd.func84, nm84, by kernel_rfl⟩ (fun w O vs hkn _ hl' hr => ?_) hk
  rw [one_arg hl' hr]
  exact Tryd.utf8_ValidString (bs l) w (by simp; omega) hkn.what.utf

theorem strIndex_ok {l : Bs} {c : UInt8} (hk : K (.v (.int .i64 (Lib.indexByte l c))) H) : CallX Tryd.prog 85 [.v (.string (bs l)), .v (.int .u8 c.toNat)] H K J := by
  refine callX_below ⟨_, Tryd.func85, nm85, by kernel_rfl⟩ (fun w O vs hkn _ hl hr => ?_) hk
  match vs, hl, hr with
  | [y, z], _, hr =>
    have h0 := (hr 0 _ y rfl rfl).inv_v
    have h1 := (hr 1 _ z rfl rfl).inv_v
    subst h0 h1
    refine (Tryd.strings_IndexByte (bs l) c.toNat w).mono ?_
    rintro e w' ⟨rfl, rfl⟩
    exact ⟨by simp, Below.refl _ _⟩

theorem bytesIndex_ok {l : Bs} {x : AV} {c : UInt8} (hx : RdS H 1 (rowsB l) x) (hk : K (.v (.int .i64 (Lib.indexByte l c))) H) : CallX Tryd.prog 88 [x, .v (.int .u8 c.toNat)] H K J := by
  refine callX_below ⟨_, Tryd.func88, nm88, by kernel_rfl⟩ (fun w O vs hkn hH hl hr => ?_) hk
  match vs, hl, hr with
  | [y, z], _, hr =>
    have h0 := hr 0 _ y rfl rfl
    have h1 := (hr 1 _ z rfl rfl).inv_v
    subst h1
    have hxs : Lib.bytesOf (l.map fun c => (c.toNat : Int)) = l := by
      unfold Lib.bytesOf
      rw [List.map_map]
      conv => rhs; rw [← List.map_id l]
      apply List.map_congr_left
      intro c _
      simp
    have hcv : ((c.toNat : Int)).toNat.toUInt8 = c := by simp
    have done : ∀ (b o : Nat) (n cc : Nat), n = l.length → (∀ i, i < n → w.cell? ⟨b, o + i, none⟩ = some (.int .u8 ((l.map fun c => (c.toNat : Int)).getD i 0))) →
        Calls Tryd.prog 88 #[.slice (some ⟨b, o, none⟩) n cc, .int .u8 c.toNat] w fun e w' => e = .returned (.int .i64 (Lib.indexByte l c)) ∧ Below w.heap.size w w' := by
      intro b o n cc hn hc
      refine (Tryd.bytes_IndexByte b o n cc _ c.toNat w (by simp [hn]) hc).mono ?_
      rintro e w' ⟨rfl, rfl⟩
      rw [hxs, hcv]
      exact ⟨rfl, Below.refl _ _⟩
    have empty : ∀ (a : Option Addr) (cc : Nat), l = [] → Calls Tryd.prog 88 #[.slice a 0 cc, .int .u8 c.toNat] w fun e w' => e = .returned (.int .i64 (Lib.indexByte l c)) ∧ Below w.heap.size w w' := by
      intro a cc hn
      subst hn
      refine (Any.bytes_IndexByte_empty Tryd.lays187 a cc c.toNat w).mono ?_
      rintro e w' ⟨rfl, rfl⟩
      exact ⟨rfl, Below.refl _ _⟩
    have cellAt : ∀ (b i : Nat) (cells : Array Value) (t : TypeId) (fr : Nat × Nat) (v : Value), w.heap[b]? = some (.cells cells t fr) → cells[i]? = some v → w.cell? ⟨b, i, none⟩ = some v := by
      intro b i cells t fr v h1 h2
      unfold World.cell?
      simp [h1, h2]
    generalize hrows : rowsB l = rows at hx
    cases hx with
    | nil =>
      have hl0 : l = [] := by simpa [rowsB] using hrows
      rw [h0.inv_v]
      exact empty none 0 hl0
    | onil =>
      have hl0 : l = [] := by simpa [rowsB] using hrows
      cases h0 with
      | ovn es a => exact empty a 0 hl0
    | imm =>
      cases h0 with
      | imn es a cc =>
        have hl0 : l = [] := by simpa [rowsB] using hrows
        exact empty a cc hl0
      | imm es xs b o cc cells t fr vals hw hO hcc hes h2 h3 =>
        subst hrows
        refine done b o _ cc (by simp) fun i hi => ?_
        have hi' : i < l.length := by simpa using hi
        have g1 := h2 i [.v (.int .u8 l[i].toNat)] 0 (.v (.int .u8 l[i].toNat)) (by simp [rowsB, hi']) rfl
        have g2 := (h3 i [.v (.int .u8 l[i].toNat)] 0 (.v (.int .u8 l[i].toNat)) (by simp [rowsB, hi']) rfl).inv_v
        rw [cellAt b (o + i) cells t fr (vals i 0) hw (by simpa using g1), g2]
        simp [hi']
    | ov b off cc o rows hb ho hz hol hr' hc =>
      cases h0 with
      | ov b off es n c1 c' cells t fr hw hcells hn hcc =>
        subst hrows
        obtain ⟨cells', t', g1, g2, g3, g4⟩ := (hH b o hb).2.rows (by rw [ho]; decide)
        rw [g1] at hw
        cases hw
        rw [Nat.mul_one]
        refine done b off _ c1 (by simp) fun i hi => ?_
        have hi' : i < l.length := by simpa using hi
        have e1 : o.xs[off + i]? = some [.v (.int .u8 l[i].toNat)] := by
          have : ((o.xs.drop off).take (rowsB l).length)[i]? = o.xs[off + i]? := by
            rw [List.getElem?_take, if_pos hi, List.getElem?_drop]
          rw [← this, hr']
          simp [rowsB, hi']
        obtain ⟨v, g5, g6⟩ := g4 (off + i) _ 0 _ e1 rfl
        rw [ho, Nat.mul_one, Nat.add_zero] at g5
        rw [cellAt b (off + i) cells t _ v g1 g5, g6.inv_v]
        simp [hi']
end Go.Proofs.YtboojmppmaepmaaDoor
/- Rooms are named and forgotten. -/
namespace Go.Fw
set_option maxHeartbeats 8000000
set_option linter.all false
open Go

variable {P : Program} {n : Nat} {s : St} {H : AH}

/-- A known room is forgotten. -/
theorem W_uncap {c : Code} {K : Exit → St → AH → Prop} {t b off es n' k : Nat} (hs : s.get t = .ov (some b) off es n' (some k)) (h : W P n c (s.put (some t) (.ov (some b) off es n' none)) H K) : W P n c s H K := by
  refine ⟨fun df w0 O0 D0 a w O hm => ?_⟩
  have ht := hm.tmps t
  rw [hs] at ht
  cases hv : a.tmps.getD t undef <;> rw [hv] at ht <;> cases ht
  rename_i c1 cells tt fr hw hc hn hcc
  refine h.run df w0 O0 D0 a w O ⟨hm.heap, hm.defers, hm.size, fun u => ?_, hm.base, hm.sub⟩
  rw [St.get_put]
  split
  · rename_i e
    subst e
    rw [hv]
    exact .ov b off es n' c1 none cells tt fr hw hc hn fun k hk => by cases hk
  · exact hm.tmps u

/-- What is appended where there is room. -/
theorem app_in {new : List (List AV)} {z : AV} {b off n' c : Nat} {o : AObj} {t el es : TypeId} {ts : Array TypeId} {u : TypeId} {d : TypeDesc} {F : AV → AH → Prop} (T : VecT P t el es) (h0 : ts[0]? = some t) (h1 : ts[1]? = some u) (hu : P.underlying u = some d) (hd : ∀ k, d ≠ .int k)
    (hb : H b = some o) (ho : o.es = es) (hl : off + n' ≤ o.xs.length) (hc : n' + new.length ≤ c) (hsrc : ∀ G : List (List AV) → Prop, asrc z H es G = G new)
    (hF : F (.ov (some b) off es (n' + new.length) (some c)) (H.set b ⟨es, o.xs.take (off + n') ++ new ++ o.xs.drop (off + n' + new.length)⟩)) : aapp P ts (.ov (some b) off es n' (some c)) z H F := by
  obtain ⟨z0, hz1, hz2, hz3⟩ := T.zero
  have hpos := T.pos
  unfold aapp
  simp only [h0, T.under, hz1, h1, hu]
  have key : 0 < z0.length ∧ z0.length = P.cellsOf el ∧ allCell z0 = true ∧ asrc z H z0.length fun new => aappD P el z0.length (.ov (some b) off es n' (some c)) new H F ∨ aappP P el z0.length (.ov (some b) off es n' (some c)) new H F ∨ aappI z0.length (.ov (some b) off es n' (some c)) new H F := by
    refine ⟨by omega, by rw [hz2, T.cells], hz3, ?_⟩
    rw [hz2, hsrc]
    refine .inr (.inr ?_)
    simp only [aappI, hb]
    exact ⟨ho, trivial, hl, hc, hF⟩
  exact key

theorem On.inv {H0 : AH} {es : Nat} {rows : List (List AV)} {x : AV} (h : On H0 es rows H x) (hr : rows ≠ []) : ∃ b, H0 b = none ∧ x = .ov (some b) 0 es rows.length none ∧ H = H0.set b ⟨es, rows⟩ := by
  cases h with
  | nil => exact absurd rfl hr
  | onil => exact absurd rfl hr
  | ov b rows hb hz => exact ⟨b, hb, rfl, rfl⟩

/-- An empty cut inside. -/
theorem ov_cut0 {t el es b n' c l : Nat} {o1 o2 : Operand} {k1 k2 : IntKind} {F : AV → Prop} (T : VecT P t el es) (hh : ev s o1 = .v (.int k1 l)) (hl : ev s o2 = .v (.int k2 l)) (hln : l < n') (hnc : n' ≤ c) (hF : F (.ov (some b) l es 0 (some (c - l)))) :
    aslice P t (.ov (some b) 0 es n' (some c)) (some o2) (some o1) none s F := by
  unfold aslice
  simp only [T.under, T.cells]
  refine ⟨trivial, T.pos, ?_⟩
  unfold abnd
  simp only [hh, hl]
  refine ⟨by omega, by simp; omega, by omega, by omega, .inl ⟨.inr (.inl (by omega)), ?_⟩⟩
  simpa using hF
end Go.Fw
/- How many bytes a value has: sums. -/
namespace Go.Fw
set_option maxHeartbeats 8000000
set_option linter.all false
open Go

theorem sizeV_eq (v : Val) : sizeV v = if v.kind = 3 ∨ v.kind = 10 then 8 else if v.kind = 4 ∨ v.kind = 7 then 5 + v.text.length else if v.kind = 8 then 12 else if v.kind = 9 then 1 else if v.kind = 5 then 5 + sizeD v.doc else if v.kind = 6 then 5 + sizeL 0 v.list else 0 := by
  cases v; rw [sizeV]; rfl
theorem sizeD_append (a b : List (Bs × Val)) : sizeD (a ++ b) = sizeD a + sizeD b := by
  induction a with
  | nil => simp [sizeD]
  | cons x r ih =>
    obtain ⟨n, v⟩ := x
    simp only [List.cons_append, sizeD, ih]
    omega
theorem sizeL_append (a b : List Val) : ∀ i, sizeL i (a ++ b) = sizeL i a + sizeL (i + a.length) b := by
  induction a with
  | nil => intro i; simp [sizeL]
  | cons x r ih =>
    intro i
    simp only [List.cons_append, sizeL, ih, List.length_cons]
    have : i + 1 + r.length = i + (r.length + 1) := by omega
    rw [this]
    omega
theorem sizeD_take {l : List (Bs × Val)} {k : Nat} (h : k < l.length) : sizeD (l.take (k + 1)) = sizeD (l.take k) + (2 + l[k].1.length + sizeV l[k].2) := by
  rw [List.take_succ_eq_append_getElem h, sizeD_append]
  obtain ⟨n, v⟩ := l[k]
  simp [sizeD]
theorem sizeL_take {l : List Val} {k : Nat} (h : k < l.length) : sizeL 0 (l.take (k + 1)) = sizeL 0 (l.take k) + (2 + (Lib.itoa k).length + sizeV l[k]) := by
  rw [List.take_succ_eq_append_getElem h, sizeL_append, List.length_take, Nat.min_eq_left (by omega), Nat.zero_add]
  simp [sizeL]
theorem sizeD_le (l : List (Bs × Val)) (k : Nat) : sizeD (l.take k) ≤ sizeD l := by
  have := sizeD_append (l.take k) (l.drop k)
  rw [List.take_append_drop] at this
  omega
theorem sizeL_le (l : List Val) (k : Nat) : sizeL 0 (l.take k) ≤ sizeL 0 l := by
  have := sizeL_append (l.take k) (l.drop k) 0
  rw [List.take_append_drop] at this
  omega
theorem itoa_short {k : Nat} (h : k ≤ 10000000000) : (Lib.itoa k).length ≤ 11 := by
  have gen : ∀ (n k : Nat), k < 10 ^ (n + 1) → (Lib.decDigits k).length ≤ n + 1 := by
    intro n
    induction n with
    | zero =>
      intro k h
      rw [Lib.decDigits, dif_pos (by simpa using h)]
      simp
    | succ n ih =>
      intro k h
      rw [Lib.decDigits]
      split
      · simp
      · simp only [List.length_append, List.length_singleton]
        have := ih (k / 10) (by rw [Nat.pow_succ] at h; omega)
        omega
  unfold Lib.itoa
  rw [if_neg (by omega), Int.toNat_natCast]
  exact gen 10 k (by omega)
end Go.Fw
/- Where a byte stands. -/
namespace Go.Fw
set_option maxHeartbeats 8000000
set_option linter.all false
open Go

theorem indexByte_place (l : Bs) (c : UInt8) : Lib.indexByte l c = (match place c l with | some k => (k : Int) | none => -1) := by
  induction l with
  | nil => rfl
  | cons b r ih =>
    unfold Lib.indexByte
    by_cases h : b = c
    · subst h
      simp [place, List.idxOf_cons]
    · have hb : (b == c) = false := beq_eq_false_iff_ne.2 h
      have hcb : (c == b) = false := beq_eq_false_iff_ne.2 fun e => h e.symm
      rw [hb, ih]
      have hne : ¬ c = b := fun e => h e.symm
      by_cases hm : c ∈ r
      · have e1 : place c r = some (r.idxOf c) := by simp [place, hm]
        have e2 : place c (b :: r) = some (r.idxOf c + 1) := by simp [place, hm, List.idxOf_cons, hb]
        rw [e1, e2]
        simp only [Bool.false_eq_true, if_false]
        rw [if_neg (by first | (simp; done) | (simp; omega))]
        rfl
      · have e1 : place c r = none := by simp [place, hm]
        have e2 : place c (b :: r) = none := by simp [place, hm, hne]
        rw [e1, e2]
        rfl
theorem indexByte_neg (l : Bs) (c : UInt8) : (Lib.indexByte l c < 0) = (l.contains c = false) := by
  rw [indexByte_place]
  unfold place
  cases h : l.contains c
  · simp
  · simp
end Go.Fw
/- Reading bytes: the cursor. -/
namespace Go.Proofs.YtboojmppmaepmaaDoor
set_option maxHeartbeats 8000000
set_option linter.all false
open Go Go.Fw
attribute [local irreducible] Reg RegD seqK blockK loopK retK panK
set_option maxRecDepth 10000

variable {H : AH} {K : AV → AH → Prop} {J : Value → AH → Prop}

def faultV (e : Int) (at_ : Int) : Value := .iface 94 (.agg #[.int .i64 e, .int .i64 at_])

theorem fail_ok {x : AV} {e at_ : Int} (hj : J (faultV e at_) H) : CallX Tryd.prog 73 [x, .v (.int .i64 e), .v (.int .i64 at_)] H K J := by
  refine CallX.of_body Tryd.func73 nm73 rfl ?_; simp only [Tryd.ntmps73, List.length_cons, List.length_nil, argSt, Nat.reduceAdd, Nat.reduceSub]
  repeat' (first | ((first | refine Z.W0 ?_ | refine Z.X0 ?_); simp only [go_sem, seval]) | (refine hF _ _ ?_; clear hF F) | refine Z.b0 ?_ | refine Z.h0 ?_ | refine Z.I0 ?_ | refine Z.N0 ?_ | refine Z.q0 rfl rfl fun F hF => ?_)
  exact hj

/-- A cursor at a block. -/
structure Cur (H : AH) (p : Nat) (z : AV) (b : Bs) (at_ : Nat) : Prop where
  blk : H p = some ⟨2, [[z, .v (.int .i64 at_)]]⟩
  rdp : RdS (H.del p) 1 (rowsB b) z
  few : b.length ≤ 1000000000
/-- All but a block stays. -/
abbrev Lp (p : Nat) (H H' : AH) : Prop := Le (H.del p) (H'.del p)
theorem Lp.refl (p : Nat) (H : AH) : Lp p H H := Le.refl _
theorem Lp.set (p : Nat) (H : AH) (o : AObj) : Lp p H (H.set p o) := fun c q hc => by
  by_cases e : c = p
  · subst e; rw [AH.del_same] at hc; cases hc
  · rw [AH.del_ne _ e] at hc
    rw [AH.del_ne _ e, AH.set_ne _ _ e]
    exact hc
theorem Lp.le {p : Nat} {H H' : AH} (h : Le H H') : Lp p H H' := fun c q hc => by
  by_cases e : c = p
  · subst e; rw [AH.del_same] at hc; cases hc
  · rw [AH.del_ne _ e] at hc ⊢
    exact h _ _ hc
theorem Le.del (H : AH) (p : Nat) : Le (H.del p) H := fun c q hc => by
  by_cases e : c = p
  · subst e; rw [AH.del_same] at hc; cases hc
  · rwa [AH.del_ne _ e] at hc
theorem Lp.get {p c : Nat} {o : AObj} {H H' : AH} (h : Lp p H H') (hc : H c = some o) (e : c ≠ p) : H' c = some o := by
  have := h c o (by rw [AH.del_ne _ e]; exact hc)
  rwa [AH.del_ne _ e] at this
theorem Cur.rd {p : Nat} {z : AV} {b : Bs} {at_ : Nat} (h : Cur H p z b at_) : RdS H 1 (rowsB b) z := h.rdp.mono (Le.del _ _)
theorem Cur.go {p : Nat} {z : AV} {b : Bs} {at_ : Nat} (h : Cur H p z b at_) (at' : Nat) : Cur (H.set p ⟨2, [[z, .v (.int .i64 at')]]⟩) p z b at' :=
  ⟨AH.set_same _ _ _, h.rdp.mono (Lp.set p H _), h.few⟩
theorem Cur.mono {p : Nat} {z : AV} {b : Bs} {at_ : Nat} {H' : AH} (h : Cur H p z b at_) (hle : Le H H') : Cur H' p z b at_ :=
  ⟨hle _ _ h.blk, h.rdp.mono (Lp.le hle), h.few⟩

theorem need_ok {p : Nat} {z : AV} {b : Bs} {at_ n last : Nat} (h : Cur H p z b at_) (hl : last ≤ b.length) (ha : at_ ≤ last) (hn : n ≤ 5000000000) (hk : n ≤ last - at_ → K (.tup []) H) (hj : last - at_ < n → J (faultV 20 at_) H) :
    CallX Tryd.prog 74 [.ptr p 2 0 0, .v (.int .i64 n), .v (.int .i64 last)] H K J := by
  have h1 := h.blk
  have hf := h.few
  refine CallX.of_body Tryd.func74 nm74 rfl ?_; simp only [Tryd.ntmps74, List.length_cons, List.length_nil, argSt, Nat.reduceAdd, Nat.reduceSub]
  by_cases c : n ≤ last - at_
  · have d : decide ((n : Int) > (last : Int) - at_) = false := by simp; omega
    repeat' (first | ((first | refine Z.W0 ?_ | refine Z.X0 ?_); simp only [go_sem, seval, h1, d]; try (simp (disch := omega) only [Z.w0]; try simp only [go_sem, seval, h1, d])) | (refine hF _ _ ?_; clear hF F) | (refine Z.p0 ?_; simp only [St.put]) | refine Z.a0 ?_ | refine Z.b0 ?_ | refine Z.c0 ?_ | refine Z.h0 ?_ | refine Z.m0 ?_ | refine Z.q0 rfl rfl fun F hF => ?_ | refine Z.U0 rfl ?_)
    simp only [retK, ares, pack, Tryd.results74, St.get, reduceIte, Nat.reduceEqDiff, aload, arow, List.toArray, Array.toList]
    exact hk c
  · have d : decide ((n : Int) > (last : Int) - at_) = true := by simp; omega
    repeat' (first | ((first | refine Z.W0 ?_ | refine Z.X0 ?_); simp only [go_sem, seval, h1, d]; try (simp (disch := omega) only [Z.w0]; try simp only [go_sem, seval, h1, d])) | (refine hF _ _ ?_; clear hF F) | (refine Z.p0 ?_; simp only [St.put]) | refine Z.a0 ?_ | refine Z.b0 ?_ | refine Z.c0 ?_ | refine Z.h0 ?_ | refine Z.q0 rfl rfl fun F hF => ?_ | refine Z.T0 rfl ?_)
    refine fail_ok ?_
    repeat' (first | refine Z.I0 ?_ | refine Z.N0 ?_)
    exact hj (by omega)

theorem signed_eq (n : Nat) (h : n < 18446744073709551616) : IntKind.i64.wrap (n : Int) = signed n := by
  unfold signed
  rw [IntKind.wrap_i64]
  split <;> omega

theorem number_ok2 {p : Nat} {z : AV} {b : Bs} {at_ by_ many : Nat} (h : Cur H p z b at_) (hm : many ≤ 8) (hb : at_ + by_ + many ≤ b.length) (hk : K (.v (.int .i64 (signed (num b (at_ + by_) many)))) H) :
    CallX Tryd.prog 75 [.ptr p 2 0 0, .v (.int .i64 by_), .v (.int .i64 many)] H K J := by
  have h1 := h.blk
  have hf := h.few
  obtain ⟨seg, hseg⟩ : ∃ seg, seg = (b.drop (at_ + by_)).take many := ⟨_, rfl⟩
  have hsl : seg.length = many := by rw [hseg]; simp; omega
  have hnum : num b (at_ + by_) many = unle seg := by rw [hseg]; rfl
  rw [hnum] at hk
  refine CallX.of_body Tryd.func75 nm75 rfl ?_; simp only [Tryd.ntmps75, List.length_cons, List.length_nil, argSt, Nat.reduceAdd, Nat.reduceSub]
  have w0 : IntKind.i64.wrap ((many : Int) - 1) = (many : Int) - 1 := by rw [wrap_of] <;> omega
  repeat' (first | ((first | refine Z.W0 ?_ | refine Z.X0 ?_); simp only [go_sem, seval, w0]) | (refine hF _ _ ?_; clear hF F) | (refine Z.p0 ?_; simp only [St.put]) | refine Z.a0 ?_ | refine Z.b0 ?_ | refine Z.c0 ?_ | refine Z.h0 ?_ | refine Z.l0 ?_ | refine Z.q0 rfl rfl fun F hF => ?_)
  refine W_loop [0, 1, 7, 8] (fun m s H' => H' = H ∧ m ≤ many ∧ s = [(0, .ptr p 2 0 0), (1, .v (.int .i64 by_)), (7, .v (.int .u64 (unle (seg.drop m)))), (8, .v (.int .i64 ((m : Int) - 1)))]) many ?_ ?_
  · simp only [St.keep, St.get, reduceIte, Nat.reduceEqDiff]
    refine ⟨trivial, Nat.le_refl _, ?_⟩
    rw [List.drop_of_length_le (by omega)]
    rfl
  rintro m s H2 ⟨rfl, hmm, rfl⟩
  cases m with
  | zero =>
    have d : decide ((((0 : Nat) : Int) - 1) ≥ 0) = false := by decide
    have hlt : unle seg < 256 ^ seg.length := unle_lt seg
    have h8 : 256 ^ seg.length ≤ 256 ^ 8 := Nat.pow_le_pow_right (by decide) (by omega)
    rw [← signed_eq _ (by omega)] at hk
    repeat' (first | ((first | refine Z.W0 ?_ | refine Z.X0 ?_); simp only [go_sem, seval, d]) | (refine hF _ _ ?_; clear hF F) | (refine Z.p0 ?_; simp only [St.put]) | refine Z.a0 ?_ | refine Z.b0 ?_ | refine Z.c0 ?_ | refine Z.e0 ?_ | refine Z.h0 ?_ | refine Z.k0 ?_ | refine Z.n0 ?_ | refine Z.o0 ?_ | refine Z.q0 rfl rfl fun F hF => ?_ | refine Z.U0 rfl ?_)
    simp only [retK, ares, pack, Tryd.results75, St.get, reduceIte, Nat.reduceEqDiff, aload, arow, List.toArray, Array.toList]
    exact hk
  | succ m =>
    have d : decide ((((m + 1 : Nat) : Int) - 1) ≥ 0) = true := by simp
    have e0 : ((m + 1 : Nat) : Int) - 1 = (m : Int) := by omega
    have w1 : IntKind.i64.wrap ((at_ : Int) + by_) = ((at_ + by_ : Nat) : Int) := by rw [wrap_of] <;> omega
    have w2 : IntKind.i64.wrap (((at_ + by_ : Nat) : Int) + m) = ((at_ + by_ + m : Nat) : Int) := by rw [wrap_of] <;> omega
    have w3 : IntKind.i64.wrap ((m : Int) - 1) = (m : Int) - 1 := by rw [wrap_of] <;> omega
    have hc0 : b[at_ + by_ + m]'(by omega) = seg[m]'(by omega) := by simp [hseg]
    obtain ⟨q, E⟩ := elB h.rd (show at_ + by_ + m < b.length by omega)
    rw [hc0] at E
    have hdr : seg.drop m = seg[m]'(by omega) :: seg.drop (m + 1) := List.drop_eq_getElem_cons (by omega)
    have hlt := unle_lt (seg.drop (m + 1))
    have hle8 : 256 ^ (seg.drop (m + 1)).length ≤ 256 ^ 7 := Nat.pow_le_pow_right (by decide) (by simp; omega)
    have hc := (seg[m]'(by omega)).toNat_lt
    rw [e0]
    have d : decide ((m : Int) ≥ 0) = true := by simp
    have ew : IntKind.u64.wrap ((((seg[m]'(by omega)).toNat : Nat)) : Int) = (((seg[m]'(by omega)).toNat : Nat) : Int) := wrap64 _ (by omega)
    have e1 : ((unle (seg.drop (m + 1)) : Nat) : Int) * 2 ^ (min 8 64) = ((unle (seg.drop (m + 1)) * 2 ^ 8 : Nat) : Int) := by rw [show min 8 64 = 8 from rfl, Int.natCast_mul, Int.natCast_pow]; rfl
    have ew2 : IntKind.u64.wrap ((unle (seg.drop (m + 1)) * 2 ^ 8 : Nat) : Int) = ((unle (seg.drop (m + 1)) * 2 ^ 8 : Nat) : Int) := wrap64 _ (by omega)
    have hor : bor .u64 ((unle (seg.drop (m + 1)) * 2 ^ 8 : Nat) : Int) (((seg[m]'(by omega)).toNat : Nat) : Int) = _ := or64 _ _ (by omega) (by omega)
    repeat' (first | ((first | refine Z.W0 ?_ | refine Z.X0 ?_); simp only [go_sem, seval, d, h1, w1, w2, E.idx, E.load, w3]) | (refine hF _ _ ?_; clear hF F) | (refine Z.p0 ?_; simp only [St.put]) | refine Z.a0 ?_ | refine Z.b0 ?_ | refine Z.c0 ?_ | refine Z.f0 ?_ | refine Z.h0 ?_ | refine Z.l0 ?_ | refine Z.m0 ?_ | refine Z.q0 rfl rfl fun F hF => ?_ | refine Z.A0 rfl rfl rfl fun F hF => ?_ | refine Z.B0 rfl rfl rfl fun F hF => ?_ | (refine Z.D0 ?_; simp only [St.put]) | refine W_drawn (id := 5) [0, 1, 0, 4, 12, 28, 0, 64, 192, 448, 0, 1984, 0, 8128, 16380, 32764, 65532, 131071, 262143] [.a 0, .a 1, .a 2, .a 3, .a 4, .a 5, .a 6, .a 7, .a 8, .a 9, .a 10, .a 11, .a 12, .a 13, .a 14, .a 15, .a 16, .a 17, .e 18 []] mixed (by decide +kernel) ?_ | refine Z.T0 rfl ?_)
    simp only [loopK]
    simp only [St.keep, St.get, reduceIte, Nat.reduceEqDiff]
    refine ⟨m, by omega, trivial, by omega, ?_⟩
    have e3 : IntKind.u64.wrap (bor .u64 (IntKind.u64.wrap (((unle (seg.drop (m + 1)) : Nat) : Int) * 256)) (IntKind.u64.wrap (((seg[m]'(by omega)).toNat : Nat) : Int))) = ((unle (seg.drop m) : Nat) : Int) := by
      rw [show (256 : Int) = 2 ^ (min 8 64) from rfl, e1, ew, ew2, hor, Nat.or_comm, or_add _ _ _ (by omega), wrap64 _ (by omega), hdr]
      simp only [unle]
      omega
    have e4 : min (8 : Int).toNat 64 = 8 := rfl
    try simp only [List.cons.injEq, Prod.mk.injEq, AV.v.injEq, Value.int.injEq, true_and, and_true, e4]
    exact e3

theorem num4 (l : Bs) (k : Nat) : num l k 4 < 4294967296 := by
  have := unle_lt ((l.drop k).take 4)
  have h2 : 256 ^ ((l.drop k).take 4).length ≤ 256 ^ 4 := Nat.pow_le_pow_right (by decide) (by simp; omega)
  unfold num
  omega
theorem num4_ok {p : Nat} {z : AV} {b : Bs} {at_ : Nat} (h : Cur H p z b at_) (hb : at_ + 4 ≤ b.length) (hk : K (.v (.int .i64 (num b at_ 4))) H) :
    CallX Tryd.prog 75 [.ptr p 2 0 0, .v (.int .i64 0), .v (.int .i64 4)] H K J := by
  refine number_ok2 (by_ := 0) (many := 4) h (by decide) (by omega) ?_
  have := num4 b at_
  rw [Nat.add_zero, show signed (num b at_ 4) = (num b at_ 4 : Int) from by unfold signed; rw [if_pos (by omega)]]
  exact hk

theorem convB {l : Bs} {x : AV} (hx : RdS H 1 (rowsB l) x) : ∀ F, aconv Tryd.prog 30 9 x H F = F (.v (.string (bs l))) := by
  intro F
  have hb : bytesOf (rowsB l) = some l := by
    clear hx
    induction l with
    | nil => rfl
    | cons c r ih =>
      show (bytesOf (rowsB r)).map _ = _
      rw [ih]
      simp
  have hs := hx.src (fun rows => ∃ l, bytesOf rows = some l ∧ F (.v (.string ⟨l.toArray⟩)))
  rw [hb] at hs
  have e : aconv Tryd.prog 30 9 x H F = (Tryd.prog.underlying 5 = some (.int .u8) ∧ asrc x H 1 fun rows => ∃ l, bytesOf rows = some l ∧ F (.v (.string ⟨l.toArray⟩))) := by
    have gen : ∀ {rows : List (List AV)}, RdS H 1 rows x → aconv Tryd.prog 30 9 x H F = (Tryd.prog.underlying 5 = some (.int .u8) ∧ asrc x H 1 fun rows => ∃ l, bytesOf rows = some l ∧ F (.v (.string ⟨l.toArray⟩))) := by
      intro rows hr
      unfold aconv
      rw [Tryd.underlying30, Tryd.underlying9]
      cases hr <;> rfl
    exact gen hx
  rw [e, hs]
  simp [Tryd.underlying5, bs]

theorem take_ok {p : Nat} {z : AV} {b : Bs} {at_ n : Nat} (h : Cur H p z b at_) (hb : at_ + n ≤ b.length) (hk : ∀ H', Lp p H H' → Le (H'.del p) H → Cur H' p z b (at_ + n) → K (.v (.string (bs ((b.drop at_).take n)))) H') :
    CallX Tryd.prog 89 [.ptr p 2 0 0, .v (.int .i64 n)] H K J := by
  have h1 := h.blk
  have hf := h.few
  have w1 : IntKind.i64.wrap ((at_ : Int) + n) = ((at_ + n : Nat) : Int) := by rw [wrap_of] <;> omega
  refine CallX.of_body Tryd.func89 nm89 rfl ?_; simp only [Tryd.ntmps89, List.length_cons, List.length_nil, argSt, Nat.reduceAdd, Nat.reduceSub]
  repeat' (first | ((first | refine Z.W0 ?_ | refine Z.X0 ?_); simp only [go_sem, seval, h1, w1]) | (refine hF _ _ ?_; clear hF F) | (refine Z.p0 ?_; simp only [St.put]) | refine Z.a0 ?_ | refine Z.b0 ?_ | refine Z.c0 ?_ | refine Z.h0 ?_ | refine Z.q0 rfl rfl fun F hF => ?_ | refine Z.A0 rfl rfl rfl fun F hF => ?_ | refine W_drawn (id := 1) [0, 1, 3, 7, 0, 16, 48, 112, 0, 256, 768, 1792, 0, 7936, 16383, 32767, 65535] [.a 0, .a 1, .a 2, .a 3, .a 4, .a 5, .a 6, .a 7, .a 8, .a 9, .a 10, .a 11, .a 12, .a 13, .a 14, .a 15, .e 16 []] mixed (by decide +kernel) ?_)
  refine h.rd.cut (l := at_) (h := at_ + n) vt30 (.inr ⟨_, _, rfl, rfl⟩) (.inr ⟨_, _, rfl, rfl⟩) (by omega) (by simpa using hb) fun y hy _ => ?_
  (refine hF _ _ ?_; clear hF F)
  rw [rowsB_take, rowsB_drop, num_seg] at hy
  repeat' (first | ((first | refine Z.W0 ?_ | refine Z.X0 ?_); simp only [go_sem, seval, convB hy, h1, w1]) | (refine hF _ _ ?_; clear hF F) | (refine Z.p0 ?_; simp only [St.put]) | refine Z.a0 ?_ | refine Z.b0 ?_ | refine Z.c0 ?_ | refine Z.h0 ?_ | refine Z.n0 ?_ | refine Z.q0 rfl rfl fun F hF => ?_ | refine Z.A0 rfl rfl rfl fun F hF => ?_ | refine Z.B0 rfl rfl rfl fun F hF => ?_ | (refine Z.D0 ?_; simp only [St.put]))
  simp only [retK, ares, pack, Tryd.results89, St.get, reduceIte, Nat.reduceEqDiff, aload, arow, List.toArray, Array.toList]
  refine hk _ (Lp.set p H _) (fun c q hc => ?_) (h.go _)
  by_cases e : c = p
  · subst e; rw [AH.del_same] at hc; cases hc
  · rwa [AH.del_ne _ e, AH.set_ne _ _ e] at hc
end Go.Proofs.YtboojmppmaepmaaDoor
/- Reading bytes: kinds, names, texts. -/
namespace Go.Proofs.YtboojmppmaepmaaDoor
set_option maxHeartbeats 8000000
set_option linter.all false
open Go Go.Fw
attribute [local irreducible] Reg RegD seqK blockK loopK retK panK
set_option maxRecDepth 10000

variable {H : AH} {K : AV → AH → Prop} {J : Value → AH → Prop}

theorem place_lt {c : UInt8} {l : Bs} {k : Nat} (h : place c l = some k) : k < l.length := by
  unfold place at h
  split at h
  · rename_i hc
    simp only [Option.some.injEq] at h
    subst h
    exact List.idxOf_lt_length_iff.2 (by simpa using hc)
  · cases h

theorem bkind_ok {p : Nat} {z : AV} {b : Bs} {at_ : Nat} (h : Cur H p z b at_) (hb : at_ < b.length)
    (hk : ∀ k H', b.getD at_ 0 ≠ 0 → place (b.getD at_ 0) kinds = some k → Lp p H H' → Cur H' p z b (at_ + 1) → K (.v (.int .i64 k)) H')
    (hj0 : b.getD at_ 0 = 0 → J (faultV 26 at_) H) (hj1 : b.getD at_ 0 ≠ 0 → place (b.getD at_ 0) kinds = none → J (faultV 22 at_) H) :
    CallX Tryd.prog 76 [.ptr p 2 0 0] H K J := by
  have h1 := h.blk
  have hf := h.few
  have hg : b.getD at_ 0 = b[at_] := by simp [List.getD, List.getElem?_eq_getElem hb]
  rw [hg] at hk hj0 hj1
  obtain ⟨q, E⟩ := elB h.rd hb
  have w1 : IntKind.i64.wrap ((at_ : Int) + 1) = ((at_ + 1 : Nat) : Int) := by rw [wrap_of] <;> omega
  refine CallX.of_body Tryd.func76 nm76 rfl ?_; simp only [Tryd.ntmps76, List.length_cons, List.length_nil, argSt, Nat.reduceAdd, Nat.reduceSub]
  by_cases c0 : b[at_] = 0
  · have d : (((b[at_].toNat : Nat) : Int) == 0) = true := by rw [c0]; rfl
    repeat' (first | ((first | refine Z.W0 ?_ | refine Z.X0 ?_); simp only [go_sem, seval, h1, E.idx, E.load, d]) | (refine hF _ _ ?_; clear hF F) | (refine Z.p0 ?_; simp only [St.put]) | refine Z.a0 ?_ | refine Z.b0 ?_ | refine Z.c0 ?_ | refine Z.h0 ?_ | refine Z.q0 rfl rfl fun F hF => ?_ | refine Z.A0 rfl rfl rfl fun F hF => ?_ | refine Z.B0 rfl rfl rfl fun F hF => ?_ | (refine Z.D0 ?_; simp only [St.put]) | refine W_drawn (id := 1) [0, 1, 3, 7, 15, 0, 32, 96, 224, 480, 1023, 2047, 4095] [.a 0, .a 1, .a 2, .a 3, .a 4, .a 5, .a 6, .a 7, .a 8, .a 9, .a 10, .a 11, .e 12 []] mixed (by decide +kernel) ?_ | refine W_drawn (id := 3) [0, 1, 3, 0, 8, 24, 56, 120, 255] [.a 0, .a 1, .a 2, .a 3, .a 4, .a 5, .a 6, .a 7, .e 8 []] mixed (by decide +kernel) ?_ | refine Z.T0 rfl ?_)
    refine fail_ok ?_
    repeat' (first | refine Z.I0 ?_ | refine Z.J0 ?_ | refine Z.N0 ?_)
    exact hj0 c0
  · have d : (((b[at_].toNat : Nat) : Int) == 0) = false := by
      refine beq_eq_false_iff_ne.2 fun e => c0 ?_
      apply UInt8.toNat_inj.1
      show b[at_].toNat = 0
      omega
    repeat' (first | ((first | refine Z.W0 ?_ | refine Z.X0 ?_); simp only [go_sem, seval, h1, E.idx, E.load, d]) | (refine hF _ _ ?_; clear hF F) | (refine Z.p0 ?_; simp only [St.put]) | refine Z.a0 ?_ | refine Z.b0 ?_ | refine Z.c0 ?_ | refine Z.h0 ?_ | refine Z.m0 ?_ | refine Z.q0 rfl rfl fun F hF => ?_ | refine Z.A0 rfl rfl rfl fun F hF => ?_ | refine Z.B0 rfl rfl rfl fun F hF => ?_ | (refine Z.D0 ?_; simp only [St.put]) | refine W_drawn (id := 1) [0, 1, 3, 7, 15, 0, 32, 96, 224, 480, 1023, 2047, 4095] [.a 0, .a 1, .a 2, .a 3, .a 4, .a 5, .a 6, .a 7, .a 8, .a 9, .a 10, .a 11, .e 12 []] mixed (by decide +kernel) ?_ | refine Z.U0 rfl ?_)
    refine strIndex_ok (l := kinds) (c := b[at_]) ?_
    (refine hF _ _ ?_; clear hF F)
    rw [indexByte_place]
    cases hp : place b[at_] kinds with
    | none =>
      repeat' (first | ((first | refine Z.W0 ?_ | refine Z.X0 ?_); simp only [go_sem, seval, h1]) | (refine hF _ _ ?_; clear hF F) | (refine Z.p0 ?_; simp only [St.put]) | refine Z.a0 ?_ | refine Z.b0 ?_ | refine Z.c0 ?_ | refine Z.h0 ?_ | refine Z.q0 rfl rfl fun F hF => ?_ | refine Z.A0 rfl rfl rfl fun F hF => ?_ | refine Z.B0 rfl rfl rfl fun F hF => ?_ | refine W_drawn (id := 6) [0, 1, 3, 0, 8, 24, 56, 120, 255] [.a 0, .a 1, .a 2, .a 3, .a 4, .a 5, .a 6, .a 7, .e 8 []] mixed (by decide +kernel) ?_ | refine Z.T0 rfl ?_)
      refine fail_ok ?_
      repeat' (first | refine Z.I0 ?_ | refine Z.J0 ?_ | refine Z.N0 ?_)
      exact hj1 c0 hp
    | some k =>
      have d : decide ((k : Int) < 0) = false := by simp
      repeat' (first | ((first | refine Z.W0 ?_ | refine Z.X0 ?_); simp only [go_sem, seval, h1, d, w1]) | (refine hF _ _ ?_; clear hF F) | (refine Z.p0 ?_; simp only [St.put]) | refine Z.a0 ?_ | refine Z.b0 ?_ | refine Z.c0 ?_ | refine Z.h0 ?_ | refine Z.m0 ?_ | refine Z.n0 ?_ | refine Z.q0 rfl rfl fun F hF => ?_ | refine Z.U0 rfl ?_)
      simp only [retK, ares, pack, Tryd.results76, St.get, reduceIte, Nat.reduceEqDiff, aload, arow, List.toArray, Array.toList]
      exact hk k _ c0 hp (Lp.set p H _) (h.go _)

theorem bname_ok {p : Nat} {z : AV} {b : Bs} {at_ last : Nat} (h : Cur H p z b at_) (ha : at_ ≤ last) (hb : last ≤ b.length)
    (hk : ∀ j H', place 0 ((b.take last).drop at_) = some j → at_ + j < last → Lp p H H' → Cur H' p z b (at_ + j + 1) → K (.v (.string (bs (((b.take last).drop at_).take j)))) H')
    (hj : place 0 ((b.take last).drop at_) = none → J (faultV 23 at_) H) :
    CallX Tryd.prog 77 [.ptr p 2 0 0, .v (.int .i64 last)] H K J := by
  have h1 := h.blk
  have hf := h.few
  have w1 : IntKind.i64.wrap ((at_ : Int) + 1) = ((at_ + 1 : Nat) : Int) := by rw [wrap_of] <;> omega
  refine CallX.of_body Tryd.func77 nm77 rfl ?_; simp only [Tryd.ntmps77, List.length_cons, List.length_nil, argSt, Nat.reduceAdd, Nat.reduceSub]
  repeat' (first | ((first | refine Z.W0 ?_ | refine Z.X0 ?_); simp only [go_sem, seval, h1]) | (refine hF _ _ ?_; clear hF F) | (refine Z.p0 ?_; simp only [St.put]) | refine Z.a0 ?_ | refine Z.b0 ?_ | refine Z.c0 ?_ | refine Z.h0 ?_ | refine Z.q0 rfl rfl fun F hF => ?_ | refine Z.A0 rfl rfl rfl fun F hF => ?_ | refine W_drawn (id := 1) [0, 1, 3, 7, 15, 0, 32, 96, 224, 480, 0, 2047, 4095, 8191] [.a 0, .a 1, .a 2, .a 3, .a 4, .a 5, .a 6, .a 7, .a 8, .a 9, .a 10, .a 11, .e 12 [], .e 13 []] mixed (by decide +kernel) ?_)
  refine h.rd.cut (l := at_) (h := last) vt30 (.inr ⟨_, _, rfl, rfl⟩) (.inr ⟨_, _, rfl, rfl⟩) (by omega) (by simpa using hb) fun y hy _ => ?_
  (refine hF _ _ ?_; clear hF F)
  rw [rowsB_take, rowsB_drop] at hy
  repeat' (first | ((first | refine Z.W0 ?_ | refine Z.X0 ?_); simp only [go_sem, seval]) | refine Z.B0 rfl rfl rfl fun F hF => ?_)
  refine bytesIndex_ok (c := 0) hy ?_
  (refine hF _ _ ?_; clear hF F)
  rw [indexByte_place]
  cases hp : place 0 ((b.take last).drop at_) with
  | none =>
    repeat' (first | ((first | refine Z.W0 ?_ | refine Z.X0 ?_); simp only [go_sem, seval, h1]) | (refine hF _ _ ?_; clear hF F) | (refine Z.p0 ?_; simp only [St.put]) | refine Z.a0 ?_ | refine Z.b0 ?_ | refine Z.c0 ?_ | refine Z.h0 ?_ | refine Z.q0 rfl rfl fun F hF => ?_ | refine Z.A0 rfl rfl rfl fun F hF => ?_ | refine Z.B0 rfl rfl rfl fun F hF => ?_ | (refine Z.D0 ?_; simp only [St.put]) | refine W_drawn (id := 3) [0, 1, 3, 0, 8, 24, 56, 120, 255] [.a 0, .a 1, .a 2, .a 3, .a 4, .a 5, .a 6, .a 7, .e 8 []] mixed (by decide +kernel) ?_ | refine Z.T0 rfl ?_)
    refine fail_ok ?_
    repeat' (first | refine Z.I0 ?_ | refine Z.J0 ?_ | refine Z.N0 ?_)
    exact hj hp
  | some j =>
    have hlt := place_lt hp
    simp only [List.length_drop, List.length_take] at hlt
    have d : decide ((j : Int) < 0) = false := by simp
    repeat' (first | ((first | refine Z.W0 ?_ | refine Z.X0 ?_); simp only [go_sem, seval, h1, d]) | (refine hF _ _ ?_; clear hF F) | (refine Z.p0 ?_; simp only [St.put]) | refine Z.a0 ?_ | refine Z.b0 ?_ | refine Z.c0 ?_ | refine Z.h0 ?_ | refine Z.m0 ?_ | refine Z.q0 rfl rfl fun F hF => ?_ | refine Z.B0 rfl rfl rfl fun F hF => ?_ | (refine Z.D0 ?_; simp only [St.put]) | refine Z.U0 rfl ?_)
    refine take_ok h (by omega) fun H1 e1 _ h2 => ?_
    have hs : ((b.drop at_).take j) = ((b.take last).drop at_).take j := by
      rw [List.drop_take, List.take_take, Nat.min_eq_left (by omega)]
    rw [hs]
    (refine hF _ _ ?_; clear hF F)
    have o2 := h2.blk
    have w2 : IntKind.i64.wrap (((at_ + j : Nat) : Int) + 1) = ((at_ + j + 1 : Nat) : Int) := by rw [wrap_of] <;> omega
    repeat' (first | ((first | refine Z.W0 ?_ | refine Z.X0 ?_); simp only [go_sem, seval, o2, w2]) | (refine hF _ _ ?_; clear hF F) | (refine Z.p0 ?_; simp only [St.put]) | refine Z.a0 ?_ | refine Z.b0 ?_ | refine Z.c0 ?_ | refine Z.h0 ?_ | refine Z.n0 ?_ | refine Z.q0 rfl rfl fun F hF => ?_)
    simp only [retK, ares, pack, Tryd.results77, St.get, reduceIte, Nat.reduceEqDiff, aload, arow, List.toArray, Array.toList]
    exact hk j _ hp (by omega) (e1.trans (Lp.set p H1 _)) (h2.go _)

def mayB (s : Bs) : Bool := decide (s ≠ []) && decide (s.length ≤ 100) && Lib.validD s
theorem bmay_ok {s : Bs} (hs : s.length ≤ 1000000000) (hk : K (.v (.bool (mayB s))) H) : CallX Tryd.prog 78 [.v (.string (bs s))] H K J := by
  unfold mayB at hk
  refine CallX.of_body Tryd.func78 nm78 rfl ?_; simp only [Tryd.ntmps78, List.length_cons, List.length_nil, argSt, Nat.reduceAdd, Nat.reduceSub]
  by_cases c1 : s = []
  · subst c1
    repeat' (first | ((first | refine Z.W0 ?_ | refine Z.X0 ?_); simp only [go_sem, seval]) | (refine hF _ _ ?_; clear hF F) | (refine Z.p0 ?_; simp only [St.put]) | refine Z.a0 ?_ | refine Z.b0 ?_ | refine Z.c0 ?_ | refine Z.h0 ?_ | refine Z.n0 ?_ | refine Z.q0 rfl rfl fun F hF => ?_ | refine Z.s0 rfl rfl rfl rfl ?_)
    simp only [retK, ares, pack, Tryd.results78, St.get, reduceIte, Nat.reduceEqDiff, aload, arow, List.toArray, Array.toList]
    simpa using hk
  · have d1 : (s != []) = true := by simp [c1]
    have d1' : (s == []) = false := beq_eq_false_iff_ne.2 c1
    by_cases c2 : s.length ≤ 100
    · have d2 : decide ((s.length : Int) ≤ 100) = true := by simp; omega
      repeat' (first | ((first | refine Z.W0 ?_ | refine Z.X0 ?_); simp only [go_sem, seval, d1, d1', d2]) | (refine hF _ _ ?_; clear hF F) | (refine Z.p0 ?_; simp only [St.put]) | refine Z.a0 ?_ | refine Z.b0 ?_ | refine Z.c0 ?_ | refine Z.h0 ?_ | refine Z.q0 rfl rfl fun F hF => ?_ | refine Z.r0 rfl rfl rfl rfl fun F hF => ?_)
      refine valid_ok hs ?_
      (refine hF _ _ ?_; clear hF F)
      cases c3 : Lib.validD s
      · repeat' (first | ((first | refine Z.W0 ?_ | refine Z.X0 ?_); simp only [go_sem, seval]) | (refine hF _ _ ?_; clear hF F) | (refine Z.p0 ?_; simp only [St.put]) | refine Z.c0 ?_ | refine Z.h0 ?_ | refine Z.n0 ?_ | refine Z.q0 rfl rfl fun F hF => ?_)
        simp only [retK, ares, pack, Tryd.results78, St.get, reduceIte, Nat.reduceEqDiff, aload, arow, List.toArray, Array.toList]
        simpa [c1, c2, c3] using hk
      · repeat' (first | ((first | refine Z.W0 ?_ | refine Z.X0 ?_); simp only [go_sem, seval]) | (refine hF _ _ ?_; clear hF F) | (refine Z.p0 ?_; simp only [St.put]) | refine Z.c0 ?_ | refine Z.h0 ?_ | refine Z.n0 ?_ | refine Z.q0 rfl rfl fun F hF => ?_)
        simp only [retK, ares, pack, Tryd.results78, St.get, reduceIte, Nat.reduceEqDiff, aload, arow, List.toArray, Array.toList]
        simpa [c1, c2, c3] using hk
    · have d2 : decide ((s.length : Int) ≤ 100) = false := by simp; omega
      repeat' (first | ((first | refine Z.W0 ?_ | refine Z.X0 ?_); simp only [go_sem, seval, d1, d1', d2]) | (refine hF _ _ ?_; clear hF F) | (refine Z.p0 ?_; simp only [St.put]) | refine Z.a0 ?_ | refine Z.b0 ?_ | refine Z.c0 ?_ | refine Z.h0 ?_ | refine Z.n0 ?_ | refine Z.q0 rfl rfl fun F hF => ?_ | refine Z.r0 rfl rfl rfl rfl fun F hF => ?_ | refine Z.s0 rfl rfl rfl rfl ?_)
      simp only [retK, ares, pack, Tryd.results78, St.get, reduceIte, Nat.reduceEqDiff, aload, arow, List.toArray, Array.toList]
      simpa [c1, c2] using hk
end Go.Proofs.YtboojmppmaepmaaDoor
/- Reading bytes: texts. -/
namespace Go.Proofs.YtboojmppmaepmaaDoor
set_option maxHeartbeats 8000000
set_option linter.all false
open Go Go.Fw
attribute [local irreducible] Reg RegD seqK blockK loopK retK panK
set_option maxRecDepth 10000

variable {H : AH} {K : AV → AH → Prop} {J : Value → AH → Prop}

def decT (b : Bs) (at_ last : Nat) : Rd (Bs × Nat) :=
  if last - at_ < 4 then fail 20 at_
  else if num b at_ 4 = 0 then fail 21 at_
  else if last - at_ < 4 + num b at_ 4 then fail 20 at_
  else if b.getD (at_ + 4 + num b at_ 4 - 1) 0 ≠ 0 ∨ Lib.validD ((b.drop (at_ + 4)).take (num b at_ 4 - 1)) = false then fail 24 (at_ + 4)
  else .ok ((b.drop (at_ + 4)).take (num b at_ 4 - 1), at_ + 4 + num b at_ 4)

theorem btext_ok {p : Nat} {z : AV} {b : Bs} {at_ last : Nat} (h : Cur H p z b at_) (ha : at_ ≤ last) (hb : last ≤ b.length)
    (hk : ∀ s e H', decT b at_ last = .ok (s, e) → at_ ≤ e → e ≤ last → s.length ≤ b.length → Lp p H H' → Cur H' p z b e → K (.v (.string (bs s))) H')
    (hj : ∀ x H', decT b at_ last = .error x → Lp p H H' → J (faultV x.1 x.2) H') :
    CallX Tryd.prog 90 [.ptr p 2 0 0, .v (.int .i64 last)] H K J := by
  have h1 := h.blk
  have hf := h.few
  unfold decT at hk hj
  have hn4 := num4 b at_
  refine CallX.of_body Tryd.func90 nm90 rfl ?_; simp only [Tryd.ntmps90, List.length_cons, List.length_nil, argSt, Nat.reduceAdd, Nat.reduceSub]
  repeat' (first | ((first | refine Z.W0 ?_ | refine Z.X0 ?_); simp only [go_sem, seval, h1]) | (refine hF _ _ ?_; clear hF F) | (refine Z.p0 ?_; simp only [St.put]) | refine Z.a0 ?_ | refine Z.b0 ?_ | refine Z.c0 ?_ | refine Z.h0 ?_ | refine Z.q0 rfl rfl fun F hF => ?_)
  refine need_ok (n := 4) h hb ha (by omega) (fun hle => ?_) (fun hlt => ?_)
  case refine_2 =>
    rw [if_pos hlt] at hj
    repeat' (first | refine Z.I0 ?_ | refine Z.J0 ?_ | refine Z.N0 ?_)
    exact hj (20, at_) _ rfl (Lp.refl _ _)
  rw [if_neg (by omega)] at hk hj
  (refine hF _ _ ?_; clear hF F)
  repeat' (first | ((first | refine Z.W0 ?_ | refine Z.X0 ?_); simp only [go_sem, seval, h1]) | (refine hF _ _ ?_; clear hF F) | (refine Z.p0 ?_; simp only [St.put]) | refine Z.a0 ?_ | refine Z.b0 ?_ | refine Z.c0 ?_ | refine Z.h0 ?_ | refine Z.q0 rfl rfl fun F hF => ?_)
  refine num4_ok h (by omega) ?_
  (refine hF _ _ ?_; clear hF F)
  by_cases c0 : num b at_ 4 = 0
  · have d : ((num b at_ 4 : Int) == 0) = true := beq_iff_eq.2 (by omega)
    rw [if_pos c0] at hj
    repeat' (first | ((first | refine Z.W0 ?_ | refine Z.X0 ?_); simp only [go_sem, seval, h1, d]) | (refine hF _ _ ?_; clear hF F) | (refine Z.p0 ?_; simp only [St.put]) | refine Z.a0 ?_ | refine Z.b0 ?_ | refine Z.c0 ?_ | refine Z.h0 ?_ | refine Z.q0 rfl rfl fun F hF => ?_ | refine Z.A0 rfl rfl rfl fun F hF => ?_ | refine Z.B0 rfl rfl rfl fun F hF => ?_ | refine W_drawn (id := 4) [0, 1, 3, 0, 8, 24, 56, 120, 255] [.a 0, .a 1, .a 2, .a 3, .a 4, .a 5, .a 6, .a 7, .e 8 []] mixed (by decide +kernel) ?_ | refine Z.T0 rfl ?_)
    refine fail_ok ?_
    repeat' (first | refine Z.I0 ?_ | refine Z.J0 ?_ | refine Z.N0 ?_)
    exact hj (21, at_) _ rfl (Lp.refl _ _)
  have d : ((num b at_ 4 : Int) == 0) = false := beq_eq_false_iff_ne.2 (by omega)
  rw [if_neg c0] at hk hj
  have w1 : IntKind.i64.wrap (4 + (num b at_ 4 : Int)) = ((4 + num b at_ 4 : Nat) : Int) := by rw [wrap_of] <;> omega
  repeat' (first | ((first | refine Z.W0 ?_ | refine Z.X0 ?_); simp only [go_sem, seval, h1, d, w1]) | (refine hF _ _ ?_; clear hF F) | (refine Z.p0 ?_; simp only [St.put]) | refine Z.a0 ?_ | refine Z.b0 ?_ | refine Z.c0 ?_ | refine Z.h0 ?_ | refine Z.m0 ?_ | refine Z.q0 rfl rfl fun F hF => ?_ | refine Z.U0 rfl ?_)
  refine need_ok (n := 4 + num b at_ 4) h hb ha (by omega) (fun hle => ?_) (fun hlt => ?_)
  case refine_2 =>
    rw [if_pos hlt] at hj
    repeat' (first | refine Z.I0 ?_ | refine Z.J0 ?_ | refine Z.N0 ?_)
    exact hj (20, at_) _ rfl (Lp.refl _ _)
  rw [if_neg (by omega)] at hk hj
  have w2 : IntKind.i64.wrap ((at_ : Int) + 4) = ((at_ + 4 : Nat) : Int) := by rw [wrap_of] <;> omega
  (refine hF _ _ ?_; clear hF F)
  repeat' (first | ((first | refine Z.W0 ?_ | refine Z.X0 ?_); simp only [go_sem, seval, h1, w2]) | (refine hF _ _ ?_; clear hF F) | (refine Z.p0 ?_; simp only [St.put]) | refine Z.a0 ?_ | refine Z.b0 ?_ | refine Z.c0 ?_ | refine Z.h0 ?_ | refine Z.q0 rfl rfl fun F hF => ?_)
  refine take_ok (h.go (at_ + 4)) (n := num b at_ 4) (by omega) fun H1 e1 _ h2 => ?_
  have e1 := (Lp.set p H _).trans e1
  obtain ⟨s, hs⟩ : ∃ s, s = (b.drop (at_ + 4)).take (num b at_ 4) := ⟨_, rfl⟩
  have hsl : s.length = num b at_ 4 := by rw [hs]; simp; omega
  rw [← hs]
  have hlast : s[num b at_ 4 - 1]'(by omega) = b.getD (at_ + 4 + num b at_ 4 - 1) 0 := by
    have : at_ + 4 + num b at_ 4 - 1 = at_ + 4 + (num b at_ 4 - 1) := by omega
    rw [this, List.getD, List.getElem?_eq_getElem (by omega), Option.getD_some]
    simp [hs]
  have hcut : (b.drop (at_ + 4)).take (num b at_ 4 - 1) = s.take (num b at_ 4 - 1) := by
    rw [hs, List.take_take, Nat.min_eq_left (by omega)]
  rw [hcut, ← hlast] at hk hj
  obtain ⟨n, hn⟩ : ∃ n, num b at_ 4 = n + 1 := ⟨num b at_ 4 - 1, by omega⟩
  simp only [hn, Nat.add_sub_cancel] at hk hj hsl hlast
  rw [hn] at h2 hle
  (refine hF _ _ ?_; clear hF F)
  simp only [hn]
  have w3 : IntKind.i64.wrap (((n + 1 : Nat) : Int) - 1) = (n : Int) := by rw [wrap_of] <;> omega
  have hg : s[n]? = some (s[n]'(by omega)) := List.getElem?_eq_getElem _
  have hnn : (n : Int) ≤ ((s.length : Nat) : Int) := by omega
  have tn : ((n : Int)).toNat = n := Int.toNat_natCast n
  by_cases c1 : s[n]'(by omega) = 0
  · have d1 : ((((s[n]'(by omega)).toNat : Nat) : Int) != 0) = false := by rw [c1]; rfl
    repeat' (first | ((first | refine Z.W0 ?_ | refine Z.X0 ?_); simp only [go_sem, seval, w3, hg, d1, hnn]) | (refine hF _ _ ?_; clear hF F) | (refine Z.p0 ?_; simp only [St.put]) | refine Z.a0 ?_ | refine Z.b0 ?_ | refine Z.c0 ?_ | refine Z.h0 ?_ | refine Z.q0 rfl rfl fun F hF => ?_ | refine Z.r0 rfl rfl rfl rfl fun F hF => ?_ | refine And.intro (by omega) ?_)
    refine valid_ok (l := s.take n) (by simp; omega) ?_
    (refine hF _ _ ?_; clear hF F)
    cases c2 : Lib.validD (s.take n)
    · rw [if_pos (.inr c2)] at hj
      repeat' (first | ((first | refine Z.W0 ?_ | refine Z.X0 ?_); simp only [go_sem, seval]) | (refine hF _ _ ?_; clear hF F) | (refine Z.p0 ?_; simp only [St.put]) | refine Z.b0 ?_ | refine Z.c0 ?_ | refine Z.h0 ?_ | refine Z.q0 rfl rfl fun F hF => ?_ | refine Z.r0 rfl rfl rfl rfl fun F hF => ?_ | refine Z.T0 rfl ?_)
      refine fail_ok ?_
      repeat' (first | refine Z.I0 ?_ | refine Z.J0 ?_ | refine Z.N0 ?_)
      exact hj (24, ((at_ + 4 : Nat) : Int)) _ rfl e1
    · rw [if_neg (by simp [c1, c2])] at hk
      repeat' (first | ((first | refine Z.W0 ?_ | refine Z.X0 ?_); simp only [go_sem, seval, w3, hnn]) | (refine hF _ _ ?_; clear hF F) | (refine Z.p0 ?_; simp only [St.put]) | refine Z.a0 ?_ | refine Z.b0 ?_ | refine Z.c0 ?_ | refine Z.h0 ?_ | refine Z.m0 ?_ | refine Z.n0 ?_ | refine Z.q0 rfl rfl fun F hF => ?_ | refine Z.r0 rfl rfl rfl rfl fun F hF => ?_ | refine Z.U0 rfl ?_ | refine And.intro (by omega) ?_)
      simp only [retK, ares, pack, Tryd.results90, St.get, reduceIte, Nat.reduceEqDiff, aload, arow, List.toArray, Array.toList]
      refine hk _ _ _ rfl (by omega) (by omega) (by simp; omega) e1 h2
  · have d1 : ((((s[n]'(by omega)).toNat : Nat) : Int) != 0) = true := by
      refine bne_iff_ne.2 fun e => c1 ?_
      apply UInt8.toNat_inj.1
      show (s[n]'(by omega)).toNat = 0
      omega
    rw [if_pos (.inl c1)] at hj
    repeat' (first | ((first | refine Z.W0 ?_ | refine Z.X0 ?_); simp only [go_sem, seval, w3, hg, d1]) | (refine hF _ _ ?_; clear hF F) | (refine Z.p0 ?_; simp only [St.put]) | refine Z.a0 ?_ | refine Z.b0 ?_ | refine Z.c0 ?_ | refine Z.h0 ?_ | refine Z.q0 rfl rfl fun F hF => ?_ | refine Z.s0 rfl rfl rfl rfl ?_ | refine Z.T0 rfl ?_ | refine And.intro (by omega) ?_)
    refine fail_ok ?_
    repeat' (first | refine Z.I0 ?_ | refine Z.J0 ?_ | refine Z.N0 ?_)
    exact hj (24, ((at_ + 4 : Nat) : Int)) _ rfl e1
end Go.Proofs.YtboojmppmaepmaaDoor
/- Reading bytes: values, if fields can be read. -/
namespace Go.Proofs.YtboojmppmaepmaaDoor
set_option maxHeartbeats 8000000
set_option linter.all false
open Go Go.Fw
attribute [local irreducible] Reg RegD seqK blockK loopK retK panK
set_option maxRecDepth 10000

variable {H : AH} {K : AV → AH → Prop} {J : Value → AH → Prop}

/-- Nothing of one heap is in the other. -/
abbrev Apart (H Hv : AH) : Prop := ∀ c o, H c = some o → Hv c = none
/-- What is new in a heap. -/
def newOf (H H' : AH) : AH := fun c => match H c with | none => H' c | some _ => none
theorem newOf_apart (H H' : AH) : Apart H (newOf H H') := fun c o h => by unfold newOf; rw [h]
theorem newOf_le (H H' : AH) : Le (newOf H H') H' := fun c o h => by
  unfold newOf at h
  cases hc : H c with
  | none => rw [hc] at h; exact h
  | some q => rw [hc] at h; cases h
theorem newOf_in {H H' Hv : AH} (h1 : Apart H Hv) (h2 : Le Hv H') : Le Hv (newOf H H') := fun c o h => by
  unfold newOf
  cases hc : H c with
  | none => exact h2 c o h
  | some q => rw [h1 c q hc] at h; cases h
theorem newOf_get {H H' : AH} {c : Nat} (h : H c = none) : newOf H H' c = H' c := by unfold newOf; rw [h]
theorem Cur.lp {p : Nat} {z : AV} {b : Bs} {at_ at' : Nat} {H' : AH} (h : Cur H p z b at_) (hl : Lp p H H') (hb : H' p = some ⟨2, [[z, .v (.int .i64 at')]]⟩) : Cur H' p z b at' :=
  ⟨hb, h.rdp.mono hl, h.few⟩
theorem Lp.set' {p q : Nat} {H H' : AH} {o : AObj} (h : Lp p H H') (hq : H q = none) : Lp p H (H'.set q o) := fun c r hc => by
  by_cases e : c = p
  · subst e; rw [AH.del_same] at hc; cases hc
  · have h1 := h c r hc
    rw [AH.del_ne _ e] at h1 hc ⊢
    by_cases e2 : c = q
    · subst e2; rw [hq] at hc; cases hc
    · rw [AH.set_ne _ _ e2]; exact h1

def FieldsC (d : Nat) : Prop := ∀ (p : Nat) (z : AV) (b : Bs) (at_ last : Nat) (list : Bool) (deep : Nat) (H : AH) (K : AV → AH → Prop) (J : Value → AH → Prop), Cur H p z b at_ → at_ ≤ last → last ≤ b.length → deep + d = 21 →
  (∀ ds e H' Hv x rows, decF b d at_ last list = .ok (ds, e) → at_ ≤ e → e ≤ last → ds.length ≤ e → Lp p H H' → Cur H' p z b e → Apart H Hv → Le Hv H' → RdS Hv 6 rows x → RdFs Hv ds rows → K x H') →
  (∀ x H', decF b d at_ last list = .error x → Lp p H H' → J (faultV x.1 x.2) H') → CallX Tryd.prog 63 [.ptr p 2 0 0, .v (.int .i64 deep), .v (.int .i64 last), .v (.bool list)] H K J
def ValueC (d : Nat) : Prop := ∀ (p : Nat) (z : AV) (b : Bs) (k at_ last : Nat) (deep : Nat) (H : AH) (K : AV → AH → Prop) (J : Value → AH → Prop), Cur H p z b at_ → at_ ≤ last → last ≤ b.length → deep + d = 20 → k < 12 →
  (∀ v e H' Hv cs, decV (decF b d) b k at_ last = .ok (v, e) → at_ ≤ e → e ≤ last → Lp p H H' → Cur H' p z b e → Apart H Hv → Le Hv H' → RdV Hv v cs → K (.agg cs) H') →
  (∀ x H', decV (decF b d) b k at_ last = .error x → Lp p H H' → J (faultV x.1 x.2) H') → CallX Tryd.prog 79 [.ptr p 2 0 0, .v (.int .i64 k), .v (.int .i64 deep), .v (.int .i64 last)] H K J

theorem signed_bound (n : Nat) (h : n < 18446744073709551616) : -9223372036854775808 ≤ signed n ∧ signed n ≤ 9223372036854775807 := by
  unfold signed
  split <;> omega
theorem num_lt8 (l : Bs) (k : Nat) : num l k 8 < 18446744073709551616 := by
  have := unle_lt ((l.drop k).take 8)
  have h2 : 256 ^ ((l.drop k).take 8).length ≤ 256 ^ 8 := Nat.pow_le_pow_right (by decide) (by simp; omega)
  unfold num
  omega

/-- A plain value's cells. -/
theorem rdV_plain {k : Nat} {i : Int} {t : Bs} (hk : k < 12) (hi : -9223372036854775808 ≤ i ∧ i ≤ 9223372036854775807) (ht : t.length ≤ 1000000000) (H : AH) :
    RdV H (.mk k i t [] []) [.v (.int .i64 k), .v (.int .i64 i), .v (.string (bs t)), .v (.slice none 0 0), .v (.slice none 0 0)] :=
  RdV.mk (rl := []) (rd := []) (by omega) hi ht (by simp) (by simp) .nil .nil rfl rfl

theorem ld5 {q : Nat} {cs : List AV} (hb : H q = some ⟨5, [cs]⟩) (hl : cs.length = 5) (F : AV → Prop) : aload Tryd.prog 25 (.ptr q 5 0 0) H F = F (.agg cs) := by
  simp only [aload, arow, hb, acut, Tryd.underlying25, Tryd.underlying24, isAggD, cl25, if_true, true_and, List.getElem?_cons_zero, Option.some.injEq, exists_eq_left', List.drop_zero, ne_eq]
  rw [List.take_of_length_le (by omega)]
  simp [hl]

theorem value_of {d : Nat} (fields : FieldsC d) : ValueC d := by
  intro p z b k at_ last deep H K J h ha hb hd hk12 hk hj
  have hp := h.blk
  have hf := h.few
  have hpn : ∀ {c : Nat}, H c = none → c ≠ p := fun hc e => by rw [e, hp] at hc; cases hc
  refine CallX.of_body Tryd.func79 nm79 rfl ?_; simp only [Tryd.ntmps79, List.length_cons, List.length_nil, argSt, Nat.reduceAdd, Nat.reduceSub]
  repeat' (first | ((first | refine Z.W0 ?_ | refine Z.X0 ?_); simp only [go_sem, seval]) | refine Z.a0 ?_ | refine Z.b0 ?_ | refine Z.q0 rfl rfl fun F hF => ?_)
  (refine box_go2 fun q8 H1 e1 n1 o1 => ?_; refine hF _ _ ?_; clear hF F)
  repeat' (first | ((first | refine Z.W0 ?_ | refine Z.X0 ?_); simp only [go_sem, seval]) | (refine hF _ _ ?_; clear hF F) | (refine Z.p0 ?_; simp only [St.put]) | refine Z.a0 ?_ | refine Z.b0 ?_ | refine Z.c0 ?_ | refine Z.h0 ?_ | refine Z.q0 rfl rfl fun F hF => ?_)
  (refine box_go2 fun q9 H2 e2 n2 o2 => ?_; refine hF _ _ ?_; clear hF F)
  repeat' (first | ((first | refine Z.W0 ?_ | refine Z.X0 ?_); simp only [go_sem, seval, o2]) | (refine hF _ _ ?_; clear hF F) | (refine Z.p0 ?_; simp only [St.put]) | refine Z.a0 ?_ | refine Z.c0 ?_ | refine Z.h0 ?_ | refine Z.q0 rfl rfl fun F hF => ?_)
  generalize hq : AH.set H2 q9 _ = H3; have e3 : Le H1 H3 := (by rw [← hq]; exact e2.set' n2); have o3 := (congrFun hq q9).symm; rw [AH.set_same] at o3; clear hq
  have e13 := e1.trans e3
  have n9 : H q9 = none := e1.none n2
  have h98 : q9 ≠ q8 := fun e => by rw [e, o1] at n2; cases n2
  have o8 := e3 _ _ o1
  have hp3 := e13 _ _ hp
  have h3 := h.mono e13
  clear e2
  have hq8 := hpn n1
  have hq9 := hpn n9
  -- the end
  have fin : ∀ (H' : AH) (v : Val) (e : Nat) (cs : List AV) (Hv : AH), decV (decF b d) b k at_ last = .ok (v, e) → at_ ≤ e → e ≤ last → Lp p H H' → H' p = some ⟨2, [[z, .v (.int .i64 e)]]⟩ → Apart H3 Hv → Le Hv H' → RdV Hv v cs →
      K (.agg cs) ((H'.set q9 ⟨5, [cs]⟩).set q8 ⟨5, [cs]⟩) := by
    intro H' v e cs Hv g1 g2 g3 g4 g5 g6 g7 g8
    have l1 : Lp p H ((H'.set q9 ⟨5, [cs]⟩).set q8 ⟨5, [cs]⟩) := Lp.set' (Lp.set' g4 n9) n1
    refine hk v e _ Hv cs g1 g2 g3 l1 (h.lp l1 ?_) (fun c o hc => g6 c o (e13 _ _ hc)) (Le.set' (Le.set' g7 (g6 _ _ o3)) (g6 _ _ o8)) g8
    rw [AH.set_ne _ _ (Ne.symm hq8), AH.set_ne _ _ (Ne.symm hq9)]
    exact g5
  have wd : IntKind.i64.wrap ((deep : Int) + 1) = ((deep + 1 : Nat) : Int) := by rw [wrap_of] <;> omega
  by_cases k5 : k = 5
  · subst k5
    repeat' (first | ((first | refine Z.W0 ?_ | refine Z.X0 ?_); simp only [go_sem, seval, wd]) | (refine hF _ _ ?_; clear hF F) | (refine Z.p0 ?_; simp only [St.put]) | refine Z.a0 ?_ | refine Z.b0 ?_ | refine Z.c0 ?_ | refine Z.h0 ?_ | refine Z.l0 ?_ | refine Z.q0 rfl rfl fun F hF => ?_ | refine Z.T0 rfl ?_)
    refine fields p z b at_ last false (deep + 1) _ _ _ h3 ha hb (by omega) (fun ds e H4 Hv x rows g1 g2 g3 g4 g5 g6 g7 g8 g9 g10 => ?_) (fun x H4 g1 g2 => ?_)
    · (refine hF _ _ ?_; clear hF F)
      have u9 := g5.get o3 hq9
      have u8 := g5.get o8 hq8
      repeat' (first | ((first | refine Z.W0 ?_ | refine Z.X0 ?_); simp only [go_sem, seval, u9, u8, g9.cell, g9.cells]; try (simp (disch := omega) only [Z.w0]; try simp only [go_sem, seval, u9, u8, g9.cell, g9.cells])) | (refine hF _ _ ?_; clear hF F) | (refine Z.p0 ?_; simp only [St.put]) | refine Z.a0 ?_ | refine Z.b0 ?_ | refine Z.c0 ?_ | refine Z.f0 ?_ | refine Z.h0 ?_ | refine Z.n0 ?_ | refine Z.q0 rfl rfl fun F hF => ?_)
      simp only [retK, ares, pack, Tryd.results79, St.get, reduceIte, Nat.reduceEqDiff, List.toArray, Array.toList]
      rw [ld5 (AH.set_same _ _ _) rfl]
      refine fin H4 (.mk 5 0 [] [] ds) e _ Hv ?_ g2 g3 ((Lp.le e13).trans g5) g6.blk g7 g8 (RdV.mk (rl := []) (rd := rows) (by decide) (by decide) (by simp) (by simp) (by omega) .nil g9 rfl g10)
      simp [decV, g1]
    · repeat' (first | refine Z.I0 ?_ | refine Z.J0 ?_ | refine Z.K0 ?_ | refine Z.N0 ?_)
      refine hj x H4 ?_ ((Lp.le e13).trans g2)
      simp [decV, g1]
  have b5 : ((k : Int) == 5) = false := beq_eq_false_iff_ne.2 (by omega)
  by_cases k6 : k = 6
  · subst k6
    repeat' (first | ((first | refine Z.W0 ?_ | refine Z.X0 ?_); simp only [go_sem, seval, wd]) | (refine hF _ _ ?_; clear hF F) | (refine Z.p0 ?_; simp only [St.put]) | refine Z.a0 ?_ | refine Z.b0 ?_ | refine Z.c0 ?_ | refine Z.h0 ?_ | refine Z.l0 ?_ | refine Z.q0 rfl rfl fun F hF => ?_ | refine Z.T0 rfl ?_ | refine Z.U0 rfl ?_)
    refine fields p z b at_ last true (deep + 1) _ _ _ h3 ha hb (by omega) (fun ds e H4 Hv x rows g1 g2 g3 g4 g5 g6 g7 g8 g9 g10 => ?_) (fun x H4 g1 g2 => ?_)
    case refine_2 =>
      repeat' (first | refine Z.I0 ?_ | refine Z.J0 ?_ | refine Z.K0 ?_ | refine Z.N0 ?_)
      refine hj x H4 ?_ ((Lp.le e13).trans g2)
      simp [decV, g1]
    (refine hF _ _ ?_; clear hF F)
    have u9 := g5.get o3 hq9
    have u8 := g5.get o8 hq8
    have v9 := g7 _ _ o3
    have hlx := (g9.mono g8).len vt23
    rw [g10.len] at hlx
    repeat' (first | ((first | refine Z.W0 ?_ | refine Z.X0 ?_); simp only [go_sem, seval, hlx]) | (refine hF _ _ ?_; clear hF F) | (refine Z.p0 ?_; simp only [St.put]) | refine Z.c0 ?_ | refine Z.h0 ?_ | refine Z.l0 ?_ | refine Z.q0 rfl rfl fun F hF => ?_)
    refine W_loop [8, 9, 30, 31, 32] (fun n s Hc => ∃ (k : Nat) (xl : AV) (rl : List (List AV)), n + k = ds.length ∧ (∀ c o, H4 c = some o → c ≠ q9 → Hc c = some o) ∧ Hc q9 = some ⟨5, [[.v (.int .i64 6), .v (.int .i64 0), .v (.string ⟨#[]⟩), xl, .v (.slice none 0 0)]]⟩ ∧
      Ow Hc 5 rl xl ∧ (∀ c, xl.blk = some c → H4 c = none) ∧ RdVs Hv ((ds.take k).map (·.2)) rl ∧ s = [(8, .ptr q8 5 0 0), (9, .ptr q9 5 0 0), (30, x), (31, .v (.int .i64 ds.length)), (32, .v (.int .i64 k))]) ds.length ?_ ?_
    · simp only [St.keep, St.get, reduceIte, Nat.reduceEqDiff]
      exact ⟨0, .v (.slice none 0 0), [], by omega, fun c o hc _ => hc, u9, .nil, (fun c hc => by cases hc), (by simp [RdVs]), rfl⟩
    rintro n s Hc ⟨j, xl, rl, hn, hkeep, c9, how, hfr, hrl, rfl⟩
    have hle : Le Hv Hc := fun c o hc => hkeep c o (g8 c o hc) (fun e => by rw [e, v9] at hc; cases hc)
    have hx9 : xl.blk ≠ some q9 := fun e => by have := hfr _ e; rw [u9] at this; cases this
    have hx8 : xl.blk ≠ some q8 := fun e => by have := hfr _ e; rw [u8] at this; cases this
    cases n with
    | succ n =>
      have hlt : j < ds.length := by omega
      have hrll : rl.length ≤ j := by rw [hrl.len]; simp; omega
      have d : decide ((j : Int) < (ds.length : Int)) = true := by simp; omega
      obtain ⟨c, p0, p1, p2, hnm, hce, E⟩ := elF (g9.mono hle) g10 hlt
      obtain ⟨_, _, _, _, _, xx, yy, _, _, rfl, f1, f2, _⟩ := hce.out
      have wk : IntKind.i64.wrap ((j : Int) + 1) = ((j + 1 : Nat) : Int) := by rw [wrap_of] <;> omega
      repeat' (first | ((first | refine Z.W0 ?_ | refine Z.X0 ?_); simp only [go_sem, seval, d, E.idx, E.all]) | (refine hF _ _ ?_; clear hF F) | (refine Z.p0 ?_; simp only [St.put]) | refine Z.a0 ?_ | refine Z.b0 ?_ | refine Z.c0 ?_ | refine Z.h0 ?_ | refine Z.l0 ?_ | refine Z.m0 ?_ | refine Z.q0 rfl rfl fun F hF => ?_ | refine Z.T0 rfl ?_)
      (refine box_go2 fun q11 H5 e5 n5 o5 => ?_; refine hF _ _ ?_; clear hF F)
      repeat' (first | ((first | refine Z.W0 ?_ | refine Z.X0 ?_); simp only [go_sem, seval, o5, f1.cell, f2.cell]) | (refine hF _ _ ?_; clear hF F) | (refine Z.p0 ?_; simp only [St.put]) | refine Z.c0 ?_ | refine Z.h0 ?_ | refine Z.q0 rfl rfl fun F hF => ?_)
      generalize hq : AH.set H5 q11 _ = H6; have e6 : Le Hc H6 := (by rw [← hq]; exact e5.set' n5); have o6 := (congrFun hq q11).symm; rw [AH.set_same] at o6; clear hq
      have d9 := e6 _ _ c9
      have how6 := how.mono e6
      repeat' (first | ((first | refine Z.W0 ?_ | refine Z.X0 ?_); simp only [go_sem, seval, d9, o6, f1.cell, f2.cell]) | (refine hF _ _ ?_; clear hF F) | refine Z.b0 ?_ | refine Z.h0 ?_ | refine Z.q0 rfl rfl fun F hF => ?_)
      obtain ⟨H0, hon, hsame⟩ := how6.on
      refine hon.app vt22 rfl rfl Tryd.underlying22 (fun k => by simp) (fun G => by simp [asrc]; rfl) (by simp; omega) fun x' H' hx' => ?_
      (refine hF _ _ ?_; clear hF F)
      have T := hon.turned hx'
      have d9' := T.keep _ _ d9 hx9
      repeat' (first | ((first | refine Z.W0 ?_ | refine Z.X0 ?_); simp only [go_sem, seval, d9', hx'.cell, hx'.ow.rd.cells, wk]) | (refine hF _ _ ?_; clear hF F) | (refine Z.p0 ?_; simp only [St.put]) | refine Z.b0 ?_ | refine Z.c0 ?_ | refine Z.f0 ?_ | refine Z.h0 ?_ | refine Z.q0 rfl rfl fun F hF => ?_)
      simp only [loopK]
      simp only [St.keep, St.get, reduceIte, Nat.reduceEqDiff]
      have hx9' : x'.blk ≠ some q9 := fun e => by
        rcases T.new _ e with e | e
        · exact hx9 e
        · rw [d9] at e; cases e
      refine ⟨n, by omega, j + 1, x', rl ++ [_], by omega, fun c o hc hne => ?_, AH.set_same _ _ _, hx'.ow.keep fun c hc => AH.set_ne _ _ fun e => hx9' (e ▸ hc), fun c hc => ?_, ?_, rfl⟩
      · rw [AH.set_ne _ _ hne]
        exact T.keep c o (e6 _ _ (hkeep c o hc hne)) (fun e => by have := hfr _ e; rw [hc] at this; cases this)
      · rcases T.new _ hc with e | e
        · exact hfr _ e
        · cases hq : H4 c with
          | none => rfl
          | some o =>
            by_cases hcq : c = q9
            · rw [hcq, d9] at e; cases e
            · have := e6 _ _ (hkeep c o hq hcq)
              rw [e] at this; cases this
      · rw [List.take_succ_eq_append_getElem hlt, List.map_append]
        exact hrl.append ⟨_, [], rfl, hce, rfl⟩
    | zero =>
      have d : decide ((j : Int) < (ds.length : Int)) = false := by simp; omega
      rw [List.take_of_length_le (by omega)] at hrl
      have c8 := hkeep _ _ u8 (Ne.symm h98)
      repeat' (first | ((first | refine Z.W0 ?_ | refine Z.X0 ?_); simp only [go_sem, seval, d, c8, c9, how.cell, how.rd.cells]) | (refine hF _ _ ?_; clear hF F) | (refine Z.p0 ?_; simp only [St.put]) | refine Z.a0 ?_ | refine Z.b0 ?_ | refine Z.c0 ?_ | refine Z.e0 ?_ | refine Z.f0 ?_ | refine Z.h0 ?_ | refine Z.k0 ?_ | refine Z.n0 ?_ | refine Z.o0 ?_ | refine Z.q0 rfl rfl fun F hF => ?_ | refine Z.U0 rfl ?_)
      simp only [retK, ares, pack, Tryd.results79, St.get, reduceIte, Nat.reduceEqDiff, List.toArray, Array.toList]
      rw [ld5 (AH.set_same _ _ _) rfl]
      have hlp : Lp p H Hc := fun c o hc => by
        have h1 := ((Lp.le e13).trans g5) c o hc
        by_cases ep : c = p
        · subst ep; rw [AH.del_same] at hc; cases hc
        · rw [AH.del_ne _ ep] at h1 hc ⊢
          exact hkeep c o h1 (fun e => by rw [e, n9] at hc; cases hc)
      have hc0 : Hc.set q9 ⟨5, [[.v (.int .i64 6), .v (.int .i64 0), .v (.string ⟨#[]⟩), xl, .v (.slice none 0 0)]]⟩ = Hc := AH.set_self _ c9
      rw [← hc0]
      have h3n : ∀ c, xl.blk = some c → H3 c = none := fun c hc => by
        cases hq : H3 c with
        | none => rfl
        | some o =>
          have h1 := hfr c hc
          by_cases ep : c = p
          · rw [ep, g6.blk] at h1; cases h1
          · rw [g5.get hq ep] at h1; cases h1
      refine fin Hc (.mk 6 0 [] (ds.map (·.2)) []) e _ (newOf H3 Hc) ?_ g2 g3 hlp (hkeep _ _ g6.blk (Ne.symm hq9)) (newOf_apart _ _) (newOf_le _ _) (RdV.mk (rl := rl) (rd := []) (by decide) (by decide) (by simp) (by simp; omega) (by simp) ?_ .nil ?_ rfl)
      · simp [decV, g1]
      · exact how.rd.keep fun c hc => newOf_get (h3n c hc)
      · exact RdVs.mono (newOf_in g7 hle) _ _ hrl
  have b6 : ((k : Int) == 6) = false := beq_eq_false_iff_ne.2 (by omega)
  have hH3 : Lp p H H3 := Lp.le e13
  have hh3 := h3.blk
  -- a plain value
  have plain : ∀ (H' : AH) (i : Int) (t : Bs) (e : Nat), decV (decF b d) b k at_ last = .ok (.mk k i t [] [], e) → -9223372036854775808 ≤ i ∧ i ≤ 9223372036854775807 → t.length ≤ 1000000000 → at_ ≤ e → e ≤ last → Lp p H H' → H' p = some ⟨2, [[z, .v (.int .i64 e)]]⟩ →
      K (.agg [.v (.int .i64 k), .v (.int .i64 i), .v (.string (bs t)), .v (.slice none 0 0), .v (.slice none 0 0)]) H' :=
    fun H' i t e g1 gi gt g2 g3 g4 g5 => hk _ e H' (fun _ => none) _ g1 g2 g3 g4 (h.lp g4 g5) (fun _ _ _ => rfl) (fun _ _ h => by cases h) (rdV_plain hk12 gi gt _)
  by_cases k3 : k = 3 ∨ k = 10
  · have hn8 := num_lt8 b at_
    have hdec : decV (decF b d) b k at_ last = if last - at_ < 8 then fail 20 at_ else .ok (.mk k (signed (num b at_ 8)) [] [] [], at_ + 8) := by
      unfold decV
      rw [if_neg k5, if_neg k6, if_pos k3]
    have w8 : IntKind.i64.wrap ((at_ : Int) + 8) = ((at_ + 8 : Nat) : Int) := by rw [wrap_of] <;> omega
    have b310 : ((k : Int) == 3) = true ∨ (((k : Int) == 3) = false ∧ ((k : Int) == 10) = true) := by
      rcases k3 with k3 | k3
      · exact .inl (beq_iff_eq.2 (by omega))
      · exact .inr ⟨beq_eq_false_iff_ne.2 (by omega), beq_iff_eq.2 (by omega)⟩
    obtain ⟨b10, hb10⟩ : ∃ b10, b10 = ((k : Int) == 10) := ⟨_, rfl⟩
    rw [← hb10] at b310
    have hb10' := hb10.symm
    have b3x : ∀ (b3 : Bool), ((k : Int) == 3) = b3 → b3 = true ∨ (b3 = false ∧ b10 = true) := fun b3 e => by rw [← e]; exact b310
    cases hb3 : ((k : Int) == 3)
    all_goals
      have hb10t := b3x _ hb3
      simp only [reduceCtorEq, false_or, true_and, true_or, Bool.true_eq_false, false_and, or_false] at hb10t
      try rw [hb10t] at hb10'
      repeat' (first | ((first | refine Z.W0 ?_ | refine Z.X0 ?_); simp only [go_sem, seval, b5, b6, hb3, hb10']) | (refine hF _ _ ?_; clear hF F) | (refine Z.p0 ?_; simp only [St.put]) | refine Z.a0 ?_ | refine Z.b0 ?_ | refine Z.c0 ?_ | refine Z.h0 ?_ | refine Z.l0 ?_ | refine Z.m0 ?_ | refine Z.q0 rfl rfl fun F hF => ?_ | refine Z.T0 rfl ?_ | refine Z.U0 rfl ?_)
      refine need_ok (n := 8) h3 hb ha (by omega) (fun hle => ?_) (fun hlt => ?_)
      case refine_2 =>
        repeat' (first | refine Z.I0 ?_ | refine Z.J0 ?_ | refine Z.K0 ?_ | refine Z.N0 ?_)
        exact hj (20, at_) _ (by rw [hdec, if_pos hlt]; rfl) hH3
      rw [if_neg (by omega)] at hdec
      (refine hF _ _ ?_; clear hF F)
      repeat' (first | ((first | refine Z.W0 ?_ | refine Z.X0 ?_); simp only [go_sem, seval, o3, hh3]) | (refine hF _ _ ?_; clear hF F) | (refine Z.p0 ?_; simp only [St.put]) | refine Z.a0 ?_ | refine Z.b0 ?_ | refine Z.c0 ?_ | refine Z.h0 ?_ | refine Z.q0 rfl rfl fun F hF => ?_)
      refine number_ok2 (by_ := 0) (many := 8) h3 (by decide) (by omega) ?_
      (refine hF _ _ ?_; clear hF F)
      repeat' (first | ((first | refine Z.W0 ?_ | refine Z.X0 ?_); simp only [go_sem, seval, o3, o8, hh3, w8, hq9, hq8, h98]; try (simp (disch := omega) only [Z.w0]; try simp only [go_sem, seval, o3, o8, hh3, w8, hq9, hq8, h98])) | (refine hF _ _ ?_; clear hF F) | (refine Z.p0 ?_; simp only [St.put]) | refine Z.a0 ?_ | refine Z.b0 ?_ | refine Z.c0 ?_ | refine Z.f0 ?_ | refine Z.h0 ?_ | refine Z.n0 ?_ | refine Z.q0 rfl rfl fun F hF => ?_)
      simp only [retK, ares, pack, Tryd.results79, St.get, reduceIte, Nat.reduceEqDiff, List.toArray, Array.toList]
      rw [ld5 (AH.set_same _ _ _) rfl]
      refine plain _ _ [] (at_ + 8) hdec (signed_bound _ hn8) (by simp) (by omega) (by omega) (Lp.set' ((Lp.set' hH3 n9).trans (Lp.set p _ _)) n1) ?_
      rw [AH.set_ne _ _ (Ne.symm hq8), AH.set_same]
  have b3 : ((k : Int) == 3) = false := beq_eq_false_iff_ne.2 (by omega)
  have b10 : ((k : Int) == 10) = false := beq_eq_false_iff_ne.2 (by omega)
  by_cases k8 : k = 8
  · subst k8
    repeat' (first | ((first | refine Z.W0 ?_ | refine Z.X0 ?_); simp only [go_sem, seval, b5, b6, b3, b10]) | (refine hF _ _ ?_; clear hF F) | (refine Z.p0 ?_; simp only [St.put]) | refine Z.a0 ?_ | refine Z.b0 ?_ | refine Z.c0 ?_ | refine Z.h0 ?_ | refine Z.l0 ?_ | refine Z.q0 rfl rfl fun F hF => ?_ | refine Z.T0 rfl ?_ | refine Z.U0 rfl ?_)
    refine need_ok (n := 12) h3 hb ha (by omega) (fun hle => ?_) (fun hlt => ?_)
    case refine_2 =>
      repeat' (first | refine Z.I0 ?_ | refine Z.J0 ?_ | refine Z.K0 ?_ | refine Z.N0 ?_)
      exact hj (20, at_) _ (by simp [decV, hlt, fail]) hH3
    (refine hF _ _ ?_; clear hF F)
    repeat' (first | ((first | refine Z.W0 ?_ | refine Z.X0 ?_); simp only [go_sem, seval, o3, hh3]) | (refine hF _ _ ?_; clear hF F) | (refine Z.p0 ?_; simp only [St.put]) | refine Z.b0 ?_ | refine Z.c0 ?_ | refine Z.h0 ?_ | refine Z.q0 rfl rfl fun F hF => ?_)
    refine take_ok h3 (n := 12) (by omega) fun H4 g1 _ g2 => ?_
    have u9 := g1.get o3 hq9
    have u8 := g1.get o8 hq8
    (refine hF _ _ ?_; clear hF F)
    repeat' (first | ((first | refine Z.W0 ?_ | refine Z.X0 ?_); simp only [go_sem, seval, u9, u8, h98]; try (simp (disch := omega) only [Z.w0]; try simp only [go_sem, seval, u9, u8, h98])) | (refine hF _ _ ?_; clear hF F) | (refine Z.p0 ?_; simp only [St.put]) | refine Z.a0 ?_ | refine Z.b0 ?_ | refine Z.c0 ?_ | refine Z.f0 ?_ | refine Z.h0 ?_ | refine Z.n0 ?_ | refine Z.q0 rfl rfl fun F hF => ?_)
    simp only [retK, ares, pack, Tryd.results79, St.get, reduceIte, Nat.reduceEqDiff, List.toArray, Array.toList]
    rw [ld5 (AH.set_same _ _ _) rfl]
    refine plain _ 0 _ (at_ + 12) ?_ (by decide) (by simp; omega) (by omega) (by omega) (Lp.set' (Lp.set' (hH3.trans g1) n9) n1) ?_
    · simp [decV, show ¬ last - at_ < 12 from by omega]
    · rw [AH.set_ne _ _ (Ne.symm hq8), AH.set_ne _ _ (Ne.symm hq9)]
      exact g2.blk
  have b8 : ((k : Int) == 8) = false := beq_eq_false_iff_ne.2 (by omega)
  by_cases k9 : k = 9
  · subst k9
    repeat' (first | ((first | refine Z.W0 ?_ | refine Z.X0 ?_); simp only [go_sem, seval, b5, b6, b3, b10, b8]) | (refine hF _ _ ?_; clear hF F) | (refine Z.p0 ?_; simp only [St.put]) | refine Z.a0 ?_ | refine Z.b0 ?_ | refine Z.c0 ?_ | refine Z.h0 ?_ | refine Z.l0 ?_ | refine Z.q0 rfl rfl fun F hF => ?_ | refine Z.T0 rfl ?_ | refine Z.U0 rfl ?_)
    refine need_ok (n := 1) h3 hb ha (by omega) (fun hle => ?_) (fun hlt => ?_)
    case refine_2 =>
      repeat' (first | refine Z.I0 ?_ | refine Z.J0 ?_ | refine Z.K0 ?_ | refine Z.N0 ?_)
      exact hj (20, at_) _ (by simp [decV, hlt, fail]) hH3
    (refine hF _ _ ?_; clear hF F)
    have hin : at_ < b.length := by omega
    obtain ⟨q, E⟩ := elB h3.rd hin
    have hg : b.getD at_ 0 = b[at_] := by simp [List.getD, List.getElem?_eq_getElem hin]
    have hg2 : b[at_]? = some b[at_] := List.getElem?_eq_getElem hin
    have hc256 := b[at_].toNat_lt
    have w1 : IntKind.i64.wrap ((at_ : Int) + 1) = ((at_ + 1 : Nat) : Int) := by rw [wrap_of] <;> omega
    have w2 : IntKind.i64.wrap ((b[at_].toNat : Nat) : Int) = ((b[at_].toNat : Nat) : Int) := by rw [wrap_of] <;> omega
    by_cases c1 : 1 < b[at_].toNat
    · have d1 : decide (((b[at_].toNat : Nat) : Int) > 1) = true := by simp; omega
      repeat' (first | ((first | refine Z.W0 ?_ | refine Z.X0 ?_); simp only [go_sem, seval, o3, hh3, E.idx, E.load, w2, d1, hq9, Ne.symm hq9]) | (refine hF _ _ ?_; clear hF F) | (refine Z.p0 ?_; simp only [St.put]) | refine Z.a0 ?_ | refine Z.b0 ?_ | refine Z.c0 ?_ | refine Z.h0 ?_ | refine Z.q0 rfl rfl fun F hF => ?_ | refine Z.A0 rfl rfl rfl fun F hF => ?_ | refine Z.B0 rfl rfl rfl fun F hF => ?_ | (refine Z.D0 ?_; simp only [St.put]) | refine W_drawn (id := 21) [0, 1, 3, 7, 15, 0, 32, 96, 224, 480, 1023, 2047, 4095, 8191, 16383] [.a 0, .a 1, .a 2, .a 3, .a 4, .a 5, .a 6, .a 7, .a 8, .a 9, .a 10, .a 11, .a 12, .a 13, .e 14 []] mixed (by decide +kernel) ?_ | refine W_drawn (id := 23) [0, 1, 3, 0, 8, 24, 56, 120, 255] [.a 0, .a 1, .a 2, .a 3, .a 4, .a 5, .a 6, .a 7, .e 8 []] mixed (by decide +kernel) ?_ | refine Z.T0 rfl ?_)
      refine fail_ok ?_
      repeat' (first | refine Z.I0 ?_ | refine Z.J0 ?_ | refine Z.K0 ?_ | refine Z.N0 ?_)
      refine hj (24, at_) _ ?_ (Lp.set' hH3 n9)
      have hx : ¬ last - at_ < 1 := by omega
      simp [decV, hx, hg2, c1, fail]
    · have d1 : decide (((b[at_].toNat : Nat) : Int) > 1) = false := by simp; omega
      repeat' (first | ((first | refine Z.W0 ?_ | refine Z.X0 ?_); simp only [go_sem, seval, o3, o8, hh3, E.idx, E.load, w1, w2, d1, hq9, Ne.symm hq9, hq8, h98]; try (simp (disch := omega) only [Z.w0]; try simp only [go_sem, seval, o3, o8, hh3, E.idx, E.load, w1, w2, d1, hq9, Ne.symm hq9, hq8, h98])) | (refine hF _ _ ?_; clear hF F) | (refine Z.p0 ?_; simp only [St.put]) | refine Z.a0 ?_ | refine Z.b0 ?_ | refine Z.c0 ?_ | refine Z.f0 ?_ | refine Z.h0 ?_ | refine Z.m0 ?_ | refine Z.n0 ?_ | refine Z.q0 rfl rfl fun F hF => ?_ | refine Z.A0 rfl rfl rfl fun F hF => ?_ | refine Z.B0 rfl rfl rfl fun F hF => ?_ | (refine Z.D0 ?_; simp only [St.put]) | refine W_drawn (id := 21) [0, 1, 3, 7, 15, 0, 32, 96, 224, 480, 1023, 2047, 4095, 8191, 16383] [.a 0, .a 1, .a 2, .a 3, .a 4, .a 5, .a 6, .a 7, .a 8, .a 9, .a 10, .a 11, .a 12, .a 13, .e 14 []] mixed (by decide +kernel) ?_ | refine Z.U0 rfl ?_)
      simp only [retK, ares, pack, Tryd.results79, St.get, reduceIte, Nat.reduceEqDiff, List.toArray, Array.toList]
      rw [ld5 (AH.set_same _ _ _) rfl]
      refine plain _ (b[at_].toNat : Int) [] (at_ + 1) ?_ (by omega) (by simp) (by omega) (by omega) (Lp.set' ((Lp.set' hH3 n9).trans (Lp.set p _ _)) n1) ?_
      · have hx : ¬ last - at_ < 1 := by omega
        simp [decV, hx, hg2, c1]
      · rw [AH.set_ne _ _ (Ne.symm hq8), AH.set_same]
  have b9 : ((k : Int) == 9) = false := beq_eq_false_iff_ne.2 (by omega)
  by_cases k4 : k = 4
  · subst k4
    have hdec : decV (decF b d) b 4 at_ last = (match decT b at_ last with | .ok (s, e) => .ok (.mk 4 0 s [] [], e) | .error x => .error x) := by
      unfold decT decV
      simp only [Nat.reduceEqDiff, if_false, if_true, or_self, reduceIte]
      repeat' split
      all_goals first | rfl | (simp_all [fail]; done)
    repeat' (first | ((first | refine Z.W0 ?_ | refine Z.X0 ?_); simp only [go_sem, seval, b5, b6, b3, b10, b8, b9]) | (refine hF _ _ ?_; clear hF F) | (refine Z.p0 ?_; simp only [St.put]) | refine Z.a0 ?_ | refine Z.b0 ?_ | refine Z.c0 ?_ | refine Z.h0 ?_ | refine Z.l0 ?_ | refine Z.q0 rfl rfl fun F hF => ?_ | refine Z.T0 rfl ?_ | refine Z.U0 rfl ?_)
    refine btext_ok h3 ha hb (fun s e H4 g1 g2 g3 g4 g5 g6 => ?_) (fun x H4 g1 g2 => ?_)
    case refine_2 =>
      repeat' (first | refine Z.I0 ?_ | refine Z.J0 ?_ | refine Z.K0 ?_ | refine Z.N0 ?_)
      exact hj x _ (by rw [hdec, g1]) (hH3.trans g2)
    have u9 := g5.get o3 hq9
    have u8 := g5.get o8 hq8
    (refine hF _ _ ?_; clear hF F)
    repeat' (first | ((first | refine Z.W0 ?_ | refine Z.X0 ?_); simp only [go_sem, seval, u9, u8, h98]; try (simp (disch := omega) only [Z.w0]; try simp only [go_sem, seval, u9, u8, h98])) | (refine hF _ _ ?_; clear hF F) | (refine Z.p0 ?_; simp only [St.put]) | refine Z.a0 ?_ | refine Z.b0 ?_ | refine Z.c0 ?_ | refine Z.f0 ?_ | refine Z.h0 ?_ | refine Z.n0 ?_ | refine Z.q0 rfl rfl fun F hF => ?_)
    simp only [retK, ares, pack, Tryd.results79, St.get, reduceIte, Nat.reduceEqDiff, List.toArray, Array.toList]
    rw [ld5 (AH.set_same _ _ _) rfl]
    refine plain _ 0 _ e (by rw [hdec, g1]; rfl) (by decide) (by omega) (by omega) (by omega) (Lp.set' (Lp.set' (hH3.trans g5) n9) n1) ?_
    rw [AH.set_ne _ _ (Ne.symm hq8), AH.set_ne _ _ (Ne.symm hq9)]
    exact g6.blk
  have b4 : ((k : Int) == 4) = false := beq_eq_false_iff_ne.2 (by omega)
  by_cases k7 : k = 7
  · subst k7
    have hn4 := num4 b at_
    repeat' (first | ((first | refine Z.W0 ?_ | refine Z.X0 ?_); simp only [go_sem, seval, b5, b6, b3, b10, b8, b9, b4]) | (refine hF _ _ ?_; clear hF F) | (refine Z.p0 ?_; simp only [St.put]) | refine Z.a0 ?_ | refine Z.b0 ?_ | refine Z.c0 ?_ | refine Z.h0 ?_ | refine Z.l0 ?_ | refine Z.q0 rfl rfl fun F hF => ?_ | refine Z.T0 rfl ?_ | refine Z.U0 rfl ?_)
    refine need_ok (n := 5) h3 hb ha (by omega) (fun hle => ?_) (fun hlt => ?_)
    case refine_2 =>
      repeat' (first | refine Z.I0 ?_ | refine Z.J0 ?_ | refine Z.K0 ?_ | refine Z.N0 ?_)
      exact hj (20, at_) _ (by simp [decV, hlt, fail]) hH3
    have x5 : ¬ last - at_ < 5 := by omega
    (refine hF _ _ ?_; clear hF F)
    repeat' (first | ((first | refine Z.W0 ?_ | refine Z.X0 ?_); simp only [go_sem, seval, hh3]) | (refine hF _ _ ?_; clear hF F) | (refine Z.p0 ?_; simp only [St.put]) | refine Z.a0 ?_ | refine Z.b0 ?_ | refine Z.c0 ?_ | refine Z.h0 ?_ | refine Z.q0 rfl rfl fun F hF => ?_)
    refine num4_ok h3 (by omega) ?_
    (refine hF _ _ ?_; clear hF F)
    have w5 : IntKind.i64.wrap (5 + (num b at_ 4 : Int)) = ((5 + num b at_ 4 : Nat) : Int) := by rw [wrap_of] <;> omega
    have w4 : IntKind.i64.wrap ((at_ : Int) + 4) = ((at_ + 4 : Nat) : Int) := by rw [wrap_of] <;> omega
    have w6 : IntKind.i64.wrap ((at_ : Int) + 5) = ((at_ + 5 : Nat) : Int) := by rw [wrap_of] <;> omega
    repeat' (first | ((first | refine Z.W0 ?_ | refine Z.X0 ?_); simp only [go_sem, seval, hh3, w5]) | (refine hF _ _ ?_; clear hF F) | (refine Z.p0 ?_; simp only [St.put]) | refine Z.a0 ?_ | refine Z.b0 ?_ | refine Z.c0 ?_ | refine Z.h0 ?_ | refine Z.q0 rfl rfl fun F hF => ?_)
    refine need_ok (n := 5 + num b at_ 4) h3 hb ha (by omega) (fun hle2 => ?_) (fun hlt => ?_)
    case refine_2 =>
      repeat' (first | refine Z.I0 ?_ | refine Z.J0 ?_ | refine Z.K0 ?_ | refine Z.N0 ?_)
      exact hj (20, at_) _ (by simp [decV, x5, hlt, fail]) hH3
    have x6 : ¬ last - at_ < 5 + num b at_ 4 := by omega
    have hin : at_ + 4 < b.length := by omega
    obtain ⟨q, E⟩ := elB h3.rd hin
    have hg2 : b[at_ + 4]? = some b[at_ + 4] := List.getElem?_eq_getElem hin
    (refine hF _ _ ?_; clear hF F)
    by_cases c1 : b[at_ + 4] = 0
    · have d1 : (((b[at_ + 4].toNat : Nat) : Int) != 0) = false := by rw [c1]; rfl
      repeat' (first | ((first | refine Z.W0 ?_ | refine Z.X0 ?_); simp only [go_sem, seval, hh3, w4, E.idx, E.load, d1, w6]) | (refine hF _ _ ?_; clear hF F) | (refine Z.p0 ?_; simp only [St.put]) | refine Z.a0 ?_ | refine Z.b0 ?_ | refine Z.c0 ?_ | refine Z.h0 ?_ | refine Z.m0 ?_ | refine Z.q0 rfl rfl fun F hF => ?_ | refine Z.A0 rfl rfl rfl fun F hF => ?_ | (refine Z.D0 ?_; simp only [St.put]) | refine W_drawn (id := 31) [0, 1, 3, 7, 15, 0, 32, 96, 224, 480, 992, 2047, 4095, 8191] [.a 0, .a 1, .a 2, .a 3, .a 4, .a 5, .a 6, .a 7, .a 8, .a 9, .a 10, .a 11, .a 12, .a 13] mixed (by decide +kernel) ?_ | refine Z.U0 rfl ?_)
      refine take_ok (h3.go (at_ + 5)) (n := num b at_ 4) (by omega) fun H4 g1 _ g2 => ?_
      have g1 : Lp p H3 H4 := (Lp.set p H3 _).trans g1
      have u9 := g1.get o3 hq9
      have u8 := g1.get o8 hq8
      (refine hF _ _ ?_; clear hF F)
      repeat' (first | ((first | refine Z.W0 ?_ | refine Z.X0 ?_); simp only [go_sem, seval, u9, u8, h98]; try (simp (disch := omega) only [Z.w0]; try simp only [go_sem, seval, u9, u8, h98])) | (refine hF _ _ ?_; clear hF F) | (refine Z.p0 ?_; simp only [St.put]) | refine Z.a0 ?_ | refine Z.b0 ?_ | refine Z.c0 ?_ | refine Z.f0 ?_ | refine Z.h0 ?_ | refine Z.n0 ?_ | refine Z.q0 rfl rfl fun F hF => ?_)
      simp only [retK, ares, pack, Tryd.results79, St.get, reduceIte, Nat.reduceEqDiff, List.toArray, Array.toList]
      rw [ld5 (AH.set_same _ _ _) rfl]
      refine plain _ 0 _ (at_ + 5 + num b at_ 4) ?_ (by decide) (by simp; omega) (by omega) (by omega) (Lp.set' (Lp.set' (hH3.trans g1) n9) n1) ?_
      · simp [decV, x5, x6, hg2, c1]
      · rw [AH.set_ne _ _ (Ne.symm hq8), AH.set_ne _ _ (Ne.symm hq9)]
        exact g2.blk
    · have d1 : (((b[at_ + 4].toNat : Nat) : Int) != 0) = true := by
        refine bne_iff_ne.2 fun e => c1 ?_
        apply UInt8.toNat_inj.1
        show b[at_ + 4].toNat = 0
        omega
      repeat' (first | ((first | refine Z.W0 ?_ | refine Z.X0 ?_); simp only [go_sem, seval, hh3, w4, E.idx, E.load, d1]) | (refine hF _ _ ?_; clear hF F) | (refine Z.p0 ?_; simp only [St.put]) | refine Z.a0 ?_ | refine Z.c0 ?_ | refine Z.h0 ?_ | refine Z.A0 rfl rfl rfl fun F hF => ?_ | refine Z.B0 rfl rfl rfl fun F hF => ?_ | (refine Z.D0 ?_; simp only [St.put]) | refine W_drawn (id := 31) [0, 1, 3, 7, 15, 0, 32, 96, 224, 480, 992, 2047, 4095, 8191] [.a 0, .a 1, .a 2, .a 3, .a 4, .a 5, .a 6, .a 7, .a 8, .a 9, .a 10, .a 11, .a 12, .a 13] mixed (by decide +kernel) ?_ | refine W_drawn (id := 32) [0, 1, 3, 0, 8, 24, 56, 120, 248, 511] [.a 0, .a 1, .a 2, .a 3, .a 4, .a 5, .a 6, .a 7, .a 8, .e 9 []] mixed (by decide +kernel) ?_ | refine Z.T0 rfl ?_)
      refine fail_ok ?_
      repeat' (first | refine Z.I0 ?_ | refine Z.J0 ?_ | refine Z.K0 ?_ | refine Z.N0 ?_)
      refine hj (24, ((at_ + 4 : Nat) : Int)) _ ?_ hH3
      simp [decV, x5, x6, hg2, c1, fail]
  have b7 : ((k : Int) == 7) = false := beq_eq_false_iff_ne.2 (by omega)
  repeat' (first | ((first | refine Z.W0 ?_ | refine Z.X0 ?_); simp only [go_sem, seval, b5, b6, b3, b10, b8, b9, b4, b7, o3, o8]) | (refine hF _ _ ?_; clear hF F) | (refine Z.p0 ?_; simp only [St.put]) | refine Z.a0 ?_ | refine Z.b0 ?_ | refine Z.c0 ?_ | refine Z.f0 ?_ | refine Z.h0 ?_ | refine Z.l0 ?_ | refine Z.m0 ?_ | refine Z.n0 ?_ | refine Z.q0 rfl rfl fun F hF => ?_ | refine Z.U0 rfl ?_)
  simp only [retK, ares, pack, Tryd.results79, St.get, reduceIte, Nat.reduceEqDiff, List.toArray, Array.toList]
  rw [ld5 (AH.set_same _ _ _) rfl]
  refine plain _ 0 [] at_ ?_ (by decide) (by simp) (by omega) (by omega) (Lp.set' hH3 n1) ?_
  · unfold decV
    rw [if_neg k5, if_neg k6, if_neg k3, if_neg k8, if_neg k9, if_neg k4, if_neg k7]
  · rw [AH.set_ne _ _ (Ne.symm hq8)]
    exact hh3
end Go.Proofs.YtboojmppmaepmaaDoor
/- Reading bytes: fields, if values can be read. -/
namespace Go.Proofs.YtboojmppmaepmaaDoor
set_option maxHeartbeats 8000000
set_option linter.all false
open Go Go.Fw
attribute [local irreducible] Reg RegD seqK blockK loopK retK panK
set_option maxRecDepth 10000

variable {H : AH} {K : AV → AH → Prop} {J : Value → AH → Prop}

theorem decLoop_end {rec : Nat → Nat → Bool → Rd (List (Bs × Val) × Nat)} {b : Bs} {last : Nat} {list : Bool} {n at_ : Nat} {out : List (Bs × Val)} (h : ¬ at_ < last) :
    decLoop rec b last list n at_ out = if b.getD last 0 ≠ 0 then fail 26 last else .ok (out, last + 1) := by
  cases n with
  | zero => rfl
  | succ n => simp only [decLoop]; rw [if_neg h]
theorem decLoop_go {rec : Nat → Nat → Bool → Rd (List (Bs × Val) × Nat)} {b : Bs} {last : Nat} {list : Bool} {n at_ : Nat} {out : List (Bs × Val)} (h : at_ < last) :
    decLoop rec b last list (n + 1) at_ out = if b.getD at_ 0 = 0 then fail 26 at_
      else match place (b.getD at_ 0) kinds with
        | none => fail 22 at_
        | some k => (match place 0 ((b.take last).drop (at_ + 1)) with
          | none => fail 23 (at_ + 1)
          | some j =>
            if fits1 list (((b.take last).drop (at_ + 1)).take j) out = false then fail 23 (at_ + 1)
            else (match decV rec b k (at_ + 1 + j + 1) last with
              | .ok (v, e) => decLoop rec b last list n e (out ++ [(((b.take last).drop (at_ + 1)).take j, v)])
              | .error x => .error x)) := by
  rw [decLoop, if_pos h]
  rfl

/-- Two heaps as one. -/
def orH (A B : AH) : AH := fun c => match A c with | some o => some o | none => B c
theorem orH_l (A B : AH) : Le A (orH A B) := fun c o h => by unfold orH; rw [h]
theorem orH_r {A B : AH} (h : ∀ c o, B c = some o → A c = none) : Le B (orH A B) := fun c o hb => by unfold orH; rw [h c o hb]; exact hb
theorem orH_le {A B H : AH} (h1 : Le A H) (h2 : Le B H) : Le (orH A B) H := fun c o h => by
  unfold orH at h
  cases hc : A c with
  | none => rw [hc] at h; exact h2 c o h
  | some q => rw [hc] at h; rw [← h]; exact h1 c q hc
theorem orH_none {A B : AH} {c : Nat} (h1 : A c = none) (h2 : B c = none) : orH A B c = none := by unfold orH; rw [h1]; exact h2

theorem vt66_app {rows : List (List AV)} {cs : List AV} : ∀ (H : AH) (G : List (List AV) → Prop), asrc (.imm 6 [cs]) H 6 G = G [cs] := fun H G => by simp [asrc]

theorem fields_of {d : Nat} (value : ∀ m, d = m + 1 → ValueC m) : FieldsC d := by
  intro p z b at_ last list deep H K J h ha hb hd hk hj
  have hp := h.blk
  have hf := h.few
  have hpn : ∀ {c : Nat}, H c = none → c ≠ p := fun hc e => by rw [e, hp] at hc; cases hc
  refine CallX.of_body Tryd.func63 nm63 rfl ?_; simp only [Tryd.ntmps63, List.length_cons, List.length_nil, argSt, Nat.reduceAdd, Nat.reduceSub]
  cases d with
  | zero =>
    have d0 : decide ((deep : Int) > 20) = true := by simp; omega
    repeat' (first | ((first | refine Z.W0 ?_ | refine Z.X0 ?_); simp only [go_sem, seval, d0, hp]) | (refine hF _ _ ?_; clear hF F) | (refine Z.p0 ?_; simp only [St.put]) | refine Z.a0 ?_ | refine Z.b0 ?_ | refine Z.c0 ?_ | refine Z.h0 ?_ | refine Z.q0 rfl rfl fun F hF => ?_ | refine Z.A0 rfl rfl rfl fun F hF => ?_ | refine Z.B0 rfl rfl rfl fun F hF => ?_ | refine W_drawn (id := 2) [0, 1, 3, 0, 8, 24, 56, 120, 255] [.a 0, .a 1, .a 2, .a 3, .a 4, .a 5, .a 6, .a 7, .e 8 []] mixed (by decide +kernel) ?_ | refine Z.T0 rfl ?_)
    refine fail_ok ?_
    repeat' (first | refine Z.I0 ?_ | refine Z.J0 ?_ | refine Z.N0 ?_)
    exact hj (25, at_) _ rfl (Lp.refl _ _)
  | succ m =>
  have val := value m rfl
  clear value
  have d0 : decide ((deep : Int) > 20) = false := by simp; omega
  have hn4 := num4 b at_
  obtain ⟨L, hL⟩ : ∃ L, L = at_ + num b at_ 4 - 1 := ⟨_, rfl⟩
  have hdec : decF b (m + 1) at_ last list = if last - at_ < 4 then fail 20 at_ else if num b at_ 4 < 5 ∨ 65536 < num b at_ 4 then fail 21 at_ else if last - at_ < num b at_ 4 then fail 20 at_ else decLoop (decF b m) b L list (L - (at_ + 4)) (at_ + 4) [] := by
    rw [decF, hL]
  repeat' (first | ((first | refine Z.W0 ?_ | refine Z.X0 ?_); simp only [go_sem, seval, d0, hp]) | (refine hF _ _ ?_; clear hF F) | (refine Z.p0 ?_; simp only [St.put]) | refine Z.a0 ?_ | refine Z.b0 ?_ | refine Z.c0 ?_ | refine Z.h0 ?_ | refine Z.m0 ?_ | refine Z.q0 rfl rfl fun F hF => ?_ | refine Z.U0 rfl ?_)
  refine need_ok (n := 4) h hb ha (by omega) (fun hle => ?_) (fun hlt => ?_)
  case refine_2 =>
    repeat' (first | refine Z.I0 ?_ | refine Z.J0 ?_ | refine Z.N0 ?_)
    exact hj (20, at_) _ (by rw [hdec, if_pos hlt]; rfl) (Lp.refl _ _)
  rw [if_neg (by omega)] at hdec
  (refine hF _ _ ?_; clear hF F)
  repeat' (first | ((first | refine Z.W0 ?_ | refine Z.X0 ?_); simp only [go_sem, seval, hp]) | (refine hF _ _ ?_; clear hF F) | (refine Z.p0 ?_; simp only [St.put]) | refine Z.a0 ?_ | refine Z.b0 ?_ | refine Z.c0 ?_ | refine Z.h0 ?_ | refine Z.q0 rfl rfl fun F hF => ?_)
  refine num4_ok h (by omega) ?_
  (refine hF _ _ ?_; clear hF F)
  by_cases c1 : num b at_ 4 < 5
  · have d1 : decide ((num b at_ 4 : Int) < 5) = true := by simp; omega
    repeat' (first | ((first | refine Z.W0 ?_ | refine Z.X0 ?_); simp only [go_sem, seval, hp, d1]) | (refine hF _ _ ?_; clear hF F) | (refine Z.p0 ?_; simp only [St.put]) | refine Z.a0 ?_ | refine Z.b0 ?_ | refine Z.c0 ?_ | refine Z.h0 ?_ | refine Z.q0 rfl rfl fun F hF => ?_ | refine Z.A0 rfl rfl rfl fun F hF => ?_ | refine Z.B0 rfl rfl rfl fun F hF => ?_ | refine Z.s0 rfl rfl rfl rfl ?_ | refine W_drawn (id := 6) [0, 1, 3, 0, 8, 24, 56, 120, 255] [.a 0, .a 1, .a 2, .a 3, .a 4, .a 5, .a 6, .a 7, .e 8 []] mixed (by decide +kernel) ?_ | refine Z.T0 rfl ?_)
    refine fail_ok ?_
    repeat' (first | refine Z.I0 ?_ | refine Z.J0 ?_ | refine Z.N0 ?_)
    exact hj (21, at_) _ (by rw [hdec, if_pos (.inl c1)]; rfl) (Lp.refl _ _)
  have d1 : decide ((num b at_ 4 : Int) < 5) = false := by simp; omega
  by_cases c2 : 65536 < num b at_ 4
  · have d2 : decide ((num b at_ 4 : Int) > 65536) = true := by simp; omega
    repeat' (first | ((first | refine Z.W0 ?_ | refine Z.X0 ?_); simp only [go_sem, seval, hp, d1, d2]) | (refine hF _ _ ?_; clear hF F) | (refine Z.p0 ?_; simp only [St.put]) | refine Z.a0 ?_ | refine Z.b0 ?_ | refine Z.c0 ?_ | refine Z.h0 ?_ | refine Z.q0 rfl rfl fun F hF => ?_ | refine Z.r0 rfl rfl rfl rfl fun F hF => ?_ | refine Z.A0 rfl rfl rfl fun F hF => ?_ | refine Z.B0 rfl rfl rfl fun F hF => ?_ | refine W_drawn (id := 6) [0, 1, 3, 0, 8, 24, 56, 120, 255] [.a 0, .a 1, .a 2, .a 3, .a 4, .a 5, .a 6, .a 7, .e 8 []] mixed (by decide +kernel) ?_ | refine Z.T0 rfl ?_)
    refine fail_ok ?_
    repeat' (first | refine Z.I0 ?_ | refine Z.J0 ?_ | refine Z.N0 ?_)
    exact hj (21, at_) _ (by rw [hdec, if_pos (.inr c2)]; rfl) (Lp.refl _ _)
  have d2 : decide ((num b at_ 4 : Int) > 65536) = false := by simp; omega
  rw [if_neg (by omega)] at hdec
  repeat' (first | ((first | refine Z.W0 ?_ | refine Z.X0 ?_); simp only [go_sem, seval, hp, d1, d2]) | (refine hF _ _ ?_; clear hF F) | (refine Z.p0 ?_; simp only [St.put]) | refine Z.a0 ?_ | refine Z.b0 ?_ | refine Z.c0 ?_ | refine Z.h0 ?_ | refine Z.m0 ?_ | refine Z.q0 rfl rfl fun F hF => ?_ | refine Z.r0 rfl rfl rfl rfl fun F hF => ?_ | refine Z.U0 rfl ?_)
  refine need_ok (n := num b at_ 4) h hb ha (by omega) (fun hle2 => ?_) (fun hlt => ?_)
  case refine_2 =>
    repeat' (first | refine Z.I0 ?_ | refine Z.J0 ?_ | refine Z.N0 ?_)
    exact hj (20, at_) _ (by rw [hdec, if_pos hlt]; rfl) (Lp.refl _ _)
  rw [if_neg (by omega)] at hdec
  (refine hF _ _ ?_; clear hF F)
  have w1 : IntKind.i64.wrap ((at_ : Int) + (num b at_ 4 : Int)) = ((at_ + num b at_ 4 : Nat) : Int) := by rw [wrap_of] <;> omega
  have w2 : IntKind.i64.wrap (((at_ + num b at_ 4 : Nat) : Int) - 1) = (L : Int) := by rw [wrap_of] <;> omega
  have w3 : IntKind.i64.wrap ((at_ : Int) + 4) = ((at_ + 4 : Nat) : Int) := by rw [wrap_of] <;> omega
  repeat' (first | ((first | refine Z.W0 ?_ | refine Z.X0 ?_); simp only [go_sem, seval, hp, w1, w2, w3]) | (refine hF _ _ ?_; clear hF F) | (refine Z.p0 ?_; simp only [St.put]) | refine Z.a0 ?_ | refine Z.b0 ?_ | refine Z.c0 ?_ | refine Z.h0 ?_ | refine Z.q0 rfl rfl fun F hF => ?_)
  (refine box_go2 fun q Hq eq nq oq => ?_; refine hF _ _ ?_; clear hF F)
  have hqp : q ≠ p := fun e => by rw [e, AH.set_same] at nq; cases nq
  have hqn : H q = none := by rwa [AH.set_ne _ _ hqp] at nq
  have hLb : L < b.length := by omega
  repeat' (first | ((first | refine Z.W0 ?_ | refine Z.X0 ?_); simp only [go_sem, seval]) | (refine hF _ _ ?_; clear hF F) | (refine Z.p0 ?_; simp only [St.put]) | refine Z.a0 ?_ | refine Z.b0 ?_ | refine Z.c0 ?_ | refine Z.h0 ?_ | refine Z.l0 ?_ | refine Z.q0 rfl rfl fun F hF => ?_)
  refine W_loop [0, 1, 3, 10, 11, 12] (fun n s Hc => ∃ (at' : Nat) (out : List (Bs × Val)) (x : AV) (rows : List (List AV)) (ks : List Bs) (Hv : AH), at_ + 4 ≤ at' ∧ at' ≤ L ∧ L ≤ at' + n ∧ Cur Hc p z b at' ∧ Lp p H Hc ∧ Hc q = some ⟨0, setRows ks⟩ ∧
    (∀ s, s ∈ ks ↔ s ∈ out.map (·.1)) ∧ Ow Hc 6 rows x ∧ (∀ c, x.blk = some c → H c = none ∧ c ≠ q) ∧ RdFs Hv out rows ∧ Apart H Hv ∧ Le Hv Hc ∧ Hv q = none ∧ (∀ c, x.blk = some c → Hv c = none) ∧ out.length ≤ at' ∧ decLoop (decF b m) b L list n at' out = decF b (m + 1) at_ last list ∧
    s = [(0, .ptr p 2 0 0), (1, .v (.int .i64 deep)), (3, .v (.bool list)), (10, .v (.int .i64 L)), (11, .mp q), (12, x)]) (L - (at_ + 4)) ?_ ?_
  · simp only [St.keep, St.get, reduceIte, Nat.reduceEqDiff]
    have hl0 : Lp p H Hq := (Lp.set p H _).trans (Lp.le eq)
    exact ⟨at_ + 4, [], .v (.slice none 0 0), [], [], fun _ => none, by omega, by omega, by omega, h.lp hl0 (eq _ _ (AH.set_same _ _ _)), hl0, oq, (fun s => by simp), .nil, (fun c hc => by cases hc), rfl, (fun _ _ _ => rfl), (fun _ _ hc => by cases hc), rfl, (fun _ _ => rfl), by simp, hdec.symm, rfl⟩
  clear oq nq eq Hq
  rintro n s Hc ⟨at', out, x, rows, ks, Hv, i1, i2, i3, i4, i5, i6, i7, i8, i9, i10, i11, i12, i13, i14, i15, i16, rfl⟩
  have hpc := i4.blk
  have hvp : Hv p = none := i11 _ _ hp
  have hxp : x.blk ≠ some p := fun e => by have := (i9 _ e).1; rw [hp] at this; cases this
  by_cases hlt : at' < L
  case neg =>
    obtain rfl : L = at' := by omega
    rw [decLoop_end (by omega)] at i16
    have dl : decide ((L : Int) < (L : Int)) = false := by simp
    obtain ⟨qe, E⟩ := elB i4.rd hLb
    have hg2 : b.getD L 0 = b[L] := by simp [List.getD, List.getElem?_eq_getElem hLb]
    rw [hg2] at i16
    by_cases c0 : b[L] = 0
    · have dz : (((b[L].toNat : Nat) : Int) != 0) = false := by rw [c0]; rfl
      have wl : IntKind.i64.wrap ((L : Int) + 1) = ((L + 1 : Nat) : Int) := by rw [wrap_of] <;> omega
      rw [if_neg (by simp [c0])] at i16
      repeat' (first | ((first | refine Z.W0 ?_ | refine Z.X0 ?_); simp only [go_sem, seval, hpc, dl, E.idx, E.load, dz, wl]) | (refine hF _ _ ?_; clear hF F) | (refine Z.p0 ?_; simp only [St.put]) | refine Z.a0 ?_ | refine Z.b0 ?_ | refine Z.c0 ?_ | refine Z.e0 ?_ | refine Z.h0 ?_ | refine Z.k0 ?_ | refine Z.m0 ?_ | refine Z.n0 ?_ | refine Z.o0 ?_ | refine Z.q0 rfl rfl fun F hF => ?_ | refine Z.U0 rfl ?_)
      simp only [retK, ares, pack, Tryd.results63, St.get, reduceIte, Nat.reduceEqDiff, aload, arow, List.toArray, Array.toList]
      have hl1 : Lp p H (Hc.set p ⟨2, [[z, .v (.int .i64 ((L + 1 : Nat) : Int))]]⟩) := i5.trans (Lp.set p Hc _)
      refine hk out (L + 1) _ (newOf H (Hc.set p ⟨2, [[z, .v (.int .i64 ((L + 1 : Nat) : Int))]]⟩)) x rows i16.symm (by omega) (by omega) (by omega) hl1 (h.lp hl1 (AH.set_same _ _ _)) (newOf_apart _ _) (newOf_le _ _) ?_ ?_
      · refine i8.rd.keep fun c hc => ?_
        rw [newOf_get (i9 c hc).1, AH.set_ne _ _ (show c ≠ p from fun e => hxp (e ▸ hc))]
      · exact RdFs.mono (newOf_in i11 (Le.set' i12 hvp)) _ _ i10
    · have dz : (((b[L].toNat : Nat) : Int) != 0) = true := by
        refine bne_iff_ne.2 fun e => c0 ?_
        apply UInt8.toNat_inj.1
        show b[L].toNat = 0
        omega
      rw [if_pos c0] at i16
      repeat' (first | ((first | refine Z.W0 ?_ | refine Z.X0 ?_); simp only [go_sem, seval, hpc, dl, E.idx, E.load, dz]) | (refine hF _ _ ?_; clear hF F) | (refine Z.p0 ?_; simp only [St.put]) | refine Z.a0 ?_ | refine Z.b0 ?_ | refine Z.c0 ?_ | refine Z.e0 ?_ | refine Z.h0 ?_ | refine Z.k0 ?_ | refine Z.o0 ?_ | refine Z.q0 rfl rfl fun F hF => ?_ | refine Z.T0 rfl ?_ | refine Z.U0 rfl ?_)
      refine fail_ok ?_
      repeat' (first | refine Z.I0 ?_ | refine Z.J0 ?_ | refine Z.N0 ?_)
      exact hj (26, L) _ i16.symm i5
  obtain ⟨n, rfl⟩ : ∃ n', n = n' + 1 := ⟨n - 1, by omega⟩
  rw [decLoop_go hlt] at i16
  have dl : decide ((at' : Int) < (L : Int)) = true := by simp; omega
  repeat' (first | ((first | refine Z.W0 ?_ | refine Z.X0 ?_); simp only [go_sem, seval, hpc, dl]) | (refine hF _ _ ?_; clear hF F) | (refine Z.p0 ?_; simp only [St.put]) | refine Z.a0 ?_ | refine Z.b0 ?_ | refine Z.c0 ?_ | refine Z.h0 ?_ | refine Z.l0 ?_ | refine Z.m0 ?_ | refine Z.q0 rfl rfl fun F hF => ?_ | refine Z.T0 rfl ?_)
  refine bkind_ok i4 (by omega) (fun k H2 z0 hpl l2 c2 => ?_) (fun z0 => ?_) (fun z0 hpl => ?_)
  case refine_2 =>
    rw [if_pos z0] at i16
    repeat' (first | refine Z.I0 ?_ | refine Z.J0 ?_ | refine Z.K0 ?_ | refine Z.L0 ?_ | refine Z.N0 ?_)
    exact hj (26, at') _ i16.symm i5
  case refine_3 =>
    rw [if_neg z0, hpl] at i16
    repeat' (first | refine Z.I0 ?_ | refine Z.J0 ?_ | refine Z.K0 ?_ | refine Z.L0 ?_ | refine Z.N0 ?_)
    exact hj (22, at') _ i16.symm i5
  have hk12 : k < 12 := place_lt hpl
  rw [if_neg z0, hpl] at i16
  simp only at i16
  (refine hF _ _ ?_; clear hF F)
  have hp2 := c2.blk
  repeat' (first | ((first | refine Z.W0 ?_ | refine Z.X0 ?_); simp only [go_sem, seval, hp2]) | (refine hF _ _ ?_; clear hF F) | (refine Z.p0 ?_; simp only [St.put]) | refine Z.a0 ?_ | refine Z.b0 ?_ | refine Z.c0 ?_ | refine Z.h0 ?_ | refine Z.q0 rfl rfl fun F hF => ?_)
  refine bname_ok c2 (by omega) (by omega) (fun j H3 hpj hjl l3 c3 => ?_) (fun hpj => ?_)
  case refine_2 =>
    rw [hpj] at i16
    repeat' (first | refine Z.I0 ?_ | refine Z.J0 ?_ | refine Z.K0 ?_ | refine Z.L0 ?_ | refine Z.N0 ?_)
    exact hj (23, ((at' + 1 : Nat) : Int)) _ i16.symm (i5.trans l2)
  rw [hpj] at i16
  simp only at i16
  obtain ⟨nm, hnm⟩ : ∃ nm, nm = ((b.take L).drop (at' + 1)).take j := ⟨_, rfl⟩
  have hnl : nm.length ≤ 1000000000 := by rw [hnm]; simp; omega
  rw [← hnm] at i16
  rw [← hnm]
  have hp3 := c3.blk
  have l23 : Lp p Hc H3 := l2.trans l3
  have q3 := l23.get i6 hqp
  have hrl : rows.length = out.length := i10.len
  have hlx := (i8.rd.keep (H1 := H3) fun c hc => by rw [l23.get (i8.atb hc) (fun e => hxp (e ▸ hc)), i8.atb hc]).len vt23
  rw [hrl] at hlx
  (refine hF _ _ ?_; clear hF F)
  repeat' (first | ((first | refine Z.W0 ?_ | refine Z.X0 ?_); simp only [go_sem, seval, hp3, q3]) | (refine hF _ _ ?_; clear hF F) | (refine Z.p0 ?_; simp only [St.put]) | refine Z.a0 ?_ | refine Z.b0 ?_ | refine Z.c0 ?_ | refine Z.h0 ?_ | refine Z.q0 rfl rfl fun F hF => ?_)
  intro b11
  (refine hF _ _ ?_; clear hF F)
  repeat' (first | ((first | refine Z.W0 ?_ | refine Z.X0 ?_); simp only [go_sem, seval, q3]) | (refine hF _ _ ?_; clear hF F) | (refine Z.p0 ?_; simp only [St.put]) | refine Z.a0 ?_ | refine Z.b0 ?_ | refine Z.c0 ?_ | refine Z.h0 ?_ | refine Z.q0 rfl rfl fun F hF => ?_)
  have hks : (if nm ∈ ks then setRows ks else setRows ks ++ [[.v (.string (bs nm))]]) = setRows (if nm ∈ ks then ks else ks ++ [nm]) := by
    split
    · rfl
    · simp [setRows, bs]
  rw [hks]
  obtain ⟨ks', hk'⟩ : ∃ ks', ks' = if nm ∈ ks then ks else ks ++ [nm] := ⟨_, rfl⟩
  rw [← hk']
  have hmem : ∀ s, s ∈ ks' ↔ s ∈ (out.map (·.1)) ∨ s = nm := by
    intro s
    rw [hk']
    split
    · rename_i hin
      rw [i7]
      exact ⟨.inl, fun h => h.elim id fun e => e ▸ (i7 nm).1 hin⟩
    · rw [List.mem_append, i7, List.mem_singleton]
  clear hks hk'
  generalize hH4 : H3.set q _ = H4
  have q4 : H4 q = some ⟨0, setRows ks'⟩ := by rw [← hH4]; exact AH.set_same _ _ _
  have g4 : ∀ c, c ≠ q → H4 c = H3 c := fun c hc => by rw [← hH4]; exact AH.set_ne _ _ hc
  clear hH4
  have hp4 : H4 p = _ := (g4 p (Ne.symm hqp)).trans hp3
  have l4 : Lp p H H4 := fun c o hc => by
    have h1 := (i5.trans l23) c o hc
    by_cases e : c = p
    · subst e; rw [AH.del_same] at hc; cases hc
    · rw [AH.del_ne _ e] at hc h1 ⊢
      rw [g4 c (fun e2 => by rw [e2, hqn] at hc; cases hc)]
      exact h1
  have c4 : Cur H4 p z b (at' + 1 + j + 1) := h.lp l4 hp4
  have hlx : ∀ F, alen Tryd.prog 23 x F = F (.v (.int .i64 out.length)) := hlx
  have wdt : decide (nm ∈ ks) = (out.map (·.1)).contains nm := by
    rw [Bool.eq_iff_iff]
    simp only [decide_eq_true_eq, List.contains_iff_mem]
    exact i7 nm
  rw [wdt]
  by_cases hfit : fits1 list nm out = false
  · rw [if_pos hfit] at i16
    cases list
    · simp only [fits1, Bool.false_eq_true, if_false] at hfit
      cases htw : (out.map (·.1)).contains nm
      · rw [htw] at hfit
        repeat' (first | ((first | refine Z.W0 ?_ | refine Z.X0 ?_); simp only [go_sem, seval, hp4]) | (refine hF _ _ ?_; clear hF F) | refine Z.h0 ?_ | refine Z.q0 rfl rfl fun F hF => ?_ | refine Z.r0 rfl rfl rfl rfl fun F hF => ?_ | refine Z.s0 rfl rfl rfl rfl ?_)
        refine bmay_ok hnl ?_
        have hmay : mayB nm = false := by simpa [mayB] using hfit
        (refine hF _ _ ?_; clear hF F)
        repeat' (first | ((first | refine Z.W0 ?_ | refine Z.X0 ?_); simp only [go_sem, seval, hmay]) | (refine hF _ _ ?_; clear hF F) | (refine Z.p0 ?_; simp only [St.put]) | refine Z.b0 ?_ | refine Z.c0 ?_ | refine Z.h0 ?_ | refine Z.q0 rfl rfl fun F hF => ?_ | refine Z.r0 rfl rfl rfl rfl fun F hF => ?_ | refine Z.T0 rfl ?_)
        refine fail_ok ?_
        repeat' (first | refine Z.I0 ?_ | refine Z.J0 ?_ | refine Z.K0 ?_ | refine Z.L0 ?_ | refine Z.N0 ?_)
        exact hj (23, ((at' + 1 : Nat) : Int)) _ i16.symm l4
      · repeat' (first | ((first | refine Z.W0 ?_ | refine Z.X0 ?_); simp only [go_sem, seval, hp4]) | (refine hF _ _ ?_; clear hF F) | (refine Z.p0 ?_; simp only [St.put]) | refine Z.b0 ?_ | refine Z.c0 ?_ | refine Z.h0 ?_ | refine Z.q0 rfl rfl fun F hF => ?_ | refine Z.r0 rfl rfl rfl rfl fun F hF => ?_ | refine Z.s0 rfl rfl rfl rfl ?_ | refine Z.T0 rfl ?_)
        refine fail_ok ?_
        repeat' (first | refine Z.I0 ?_ | refine Z.J0 ?_ | refine Z.K0 ?_ | refine Z.L0 ?_ | refine Z.N0 ?_)
        exact hj (23, ((at' + 1 : Nat) : Int)) _ i16.symm l4
    · simp only [fits1, if_true, decide_eq_false_iff_not] at hfit
      have hne : (nm == Lib.itoa out.length) = false := by simp [hfit]
      repeat' (first | ((first | refine Z.W0 ?_ | refine Z.X0 ?_); simp only [go_sem, seval, hp4, hlx]) | (refine hF _ _ ?_; clear hF F) | refine Z.h0 ?_ | refine Z.r0 rfl rfl rfl rfl fun F hF => ?_)
      refine itoa_ok (by omega) (by omega) ?_
      (refine hF _ _ ?_; clear hF F)
      repeat' (first | ((first | refine Z.W0 ?_ | refine Z.X0 ?_); simp only [go_sem, seval, hne]) | (refine hF _ _ ?_; clear hF F) | (refine Z.p0 ?_; simp only [St.put]) | refine Z.b0 ?_ | refine Z.c0 ?_ | refine Z.h0 ?_ | refine Z.q0 rfl rfl fun F hF => ?_ | refine Z.r0 rfl rfl rfl rfl fun F hF => ?_ | refine Z.s0 rfl rfl rfl rfl ?_ | refine Z.u0 rfl rfl rfl rfl ?_ | refine Z.T0 rfl ?_)
      refine fail_ok ?_
      repeat' (first | refine Z.I0 ?_ | refine Z.J0 ?_ | refine Z.K0 ?_ | refine Z.L0 ?_ | refine Z.N0 ?_)
      exact hj (23, ((at' + 1 : Nat) : Int)) _ i16.symm l4
  rw [if_neg hfit] at i16
  have hfit : fits1 list nm out = true := by simpa using hfit
  cases list
  case' false =>
    simp only [fits1, Bool.false_eq_true, if_false, Bool.and_eq_true, Bool.not_eq_true'] at hfit
    have htw := hfit.1
    have hmay : mayB nm = true := by simpa [mayB] using hfit.2
    rw [htw]
    repeat' (first | ((first | refine Z.W0 ?_ | refine Z.X0 ?_); simp only [go_sem, seval, hp4]) | (refine hF _ _ ?_; clear hF F) | refine Z.h0 ?_ | refine Z.q0 rfl rfl fun F hF => ?_ | refine Z.r0 rfl rfl rfl rfl fun F hF => ?_ | refine Z.s0 rfl rfl rfl rfl ?_)
    refine bmay_ok hnl ?_
    (refine hF _ _ ?_; clear hF F)
    repeat' (first | ((first | refine Z.W0 ?_ | refine Z.X0 ?_); simp only [go_sem, seval, hmay]) | (refine hF _ _ ?_; clear hF F) | (refine Z.p0 ?_; simp only [St.put]) | refine Z.b0 ?_ | refine Z.c0 ?_ | refine Z.h0 ?_ | refine Z.m0 ?_ | refine Z.q0 rfl rfl fun F hF => ?_ | refine Z.r0 rfl rfl rfl rfl fun F hF => ?_ | refine Z.U0 rfl ?_)
  case' true =>
    simp only [fits1, if_true, decide_eq_true_eq] at hfit
    have hne : (nm == Lib.itoa out.length) = true := by simp [hfit]
    repeat' (first | ((first | refine Z.W0 ?_ | refine Z.X0 ?_); simp only [go_sem, seval, hp4, hlx]) | (refine hF _ _ ?_; clear hF F) | refine Z.h0 ?_ | refine Z.r0 rfl rfl rfl rfl fun F hF => ?_)
    refine itoa_ok (by omega) (by omega) ?_
    (refine hF _ _ ?_; clear hF F)
    repeat' (first | ((first | refine Z.W0 ?_ | refine Z.X0 ?_); simp only [go_sem, seval, hne]) | (refine hF _ _ ?_; clear hF F) | (refine Z.p0 ?_; simp only [St.put]) | refine Z.b0 ?_ | refine Z.c0 ?_ | refine Z.h0 ?_ | refine Z.m0 ?_ | refine Z.q0 rfl rfl fun F hF => ?_ | refine Z.r0 rfl rfl rfl rfl fun F hF => ?_ | refine Z.s0 rfl rfl rfl rfl ?_ | refine Z.u0 rfl rfl rfl rfl ?_ | refine Z.U0 rfl ?_)
  all_goals
    refine val p z b k (at' + 1 + j + 1) L deep H4 _ _ c4 (by omega) (by omega) (by omega) hk12 (fun v e H5 Hv5 cs g1 g2 g3 l5 c5 a5 le5 rv => ?_) (fun x' H5 g1 g2 => ?_)
    case refine_2 =>
      rw [g1] at i16
      repeat' (first | refine Z.I0 ?_ | refine Z.J0 ?_ | refine Z.K0 ?_ | refine Z.L0 ?_ | refine Z.N0 ?_)
      exact hj x' _ i16.symm (l4.trans g2)
    rw [g1] at i16
    simp only at i16
    (refine hF _ _ ?_; clear hF F)
    have keep : ∀ c o, Hc c = some o → c ≠ p → c ≠ q → H5 c = some o := fun c o hc e1 e2 => l5.get ((g4 c e2).trans (l23.get hc e1)) e1
    have how5 : Ow H5 6 rows x := i8.keep fun c hc => by rw [keep c _ (i8.atb hc) (fun e => hxp (e ▸ hc)) (i9 c hc).2, i8.atb hc]
    obtain ⟨H0, hon, hsame⟩ := how5.on
    obtain ⟨_, _, _, _, _, xx, yy, _, _, rfl, f1, f2, _⟩ := rv.out
    repeat' (first | ((first | refine Z.W0 ?_ | refine Z.X0 ?_); simp only [go_sem, seval, f1.cell, f2.cell]) | (refine hF _ _ ?_; clear hF F) | refine Z.h0 ?_ | refine Z.q0 rfl rfl fun F hF => ?_)
    refine hon.app vt23 rfl rfl Tryd.underlying23 (fun k => by simp) (fun G => by simp [asrc]; rfl) (by simp; omega) fun x6 H6 hx6 => ?_
    (refine hF _ _ ?_; clear hF F)
    have T := hon.turned hx6
    have q5 := l5.get q4 hqp
    have hxq : x.blk ≠ some q := fun e => (i9 _ e).2 rfl
    repeat' (first | ((first | refine Z.W0 ?_ | refine Z.X0 ?_); simp only [go_sem, seval]) | (refine hF _ _ ?_; clear hF F) | (refine Z.p0 ?_; simp only [St.put]) | refine Z.f0 ?_ | refine Z.h0 ?_ | refine Z.q0 rfl rfl fun F hF => ?_)
    simp only [loopK]
    simp only [St.keep, St.get, reduceIte, Nat.reduceEqDiff]
    have l6 : Lp p H H6 := fun c o hc => by
      have h1 := (l4.trans l5) c o hc
      by_cases ep : c = p
      · subst ep; rw [AH.del_same] at hc; cases hc
      · rw [AH.del_ne _ ep] at h1 hc ⊢
        exact T.keep c o h1 (fun e => by rw [(i9 c e).1] at hc; cases hc)
    have l45 : Lp p H H5 := l4.trans l5
    have n5 : ∀ c, H5 c = none → H c = none := fun c hc => by
      cases hq : H c with
      | none => rfl
      | some o =>
        by_cases ep : c = p
        · rw [ep, c5.blk] at hc; cases hc
        · rw [l45.get hq ep] at hc; cases hc
    have v45 : ∀ c, x.blk = some c → Hv5 c = none := fun c hc => a5 c _ ((g4 c (i9 c hc).2).trans (l23.get (i8.atb hc) (fun e => hxp (e ▸ hc))))
    have lv5 : Le Hv H5 := fun c o hc => keep c o (i12 c o hc) (fun e => by rw [e, hvp] at hc; cases hc) (fun e => by rw [e, i13] at hc; cases hc)
    have dis : ∀ c o, Hv5 c = some o → Hv c = none := fun c o hc => by
      cases hq : Hv c with
      | none => rfl
      | some o2 =>
        have h1 := i12 c o2 hq
        have e1 : c ≠ p := fun e => by rw [e, hvp] at hq; cases hq
        have e2 : c ≠ q := fun e => by rw [e, i13] at hq; cases hq
        rw [a5 c o2 ((g4 c e2).trans (l23.get h1 e1))] at hc; cases hc
    refine ⟨n, by omega, e, out ++ [(nm, v)], x6, rows ++ [_], ks', orH Hv Hv5, by omega, by omega, by omega, h.lp l6 (T.keep _ _ c5.blk hxp), l6, T.keep _ _ q5 hxq, fun s => ?_, hx6.ow, fun c hc => ?_, ?_, fun c o hc => ?_, ?_, ?_, fun c hc => ?_, ?_, i16, rfl⟩
    · rw [hmem, List.map_append, List.mem_append]
      simp
    · rcases T.new c hc with h1 | h1
      · exact i9 c h1
      · exact ⟨n5 c h1, fun e => by rw [e, q5] at h1; cases h1⟩
    · exact (RdFs.mono (orH_l _ _) _ _ i10).append ⟨_, [], rfl, hnl, RdV.mono (orH_r dis) _ _ rv, rfl⟩
    · refine orH_none (i11 c o hc) ?_
      by_cases ep : c = p
      · exact a5 c _ (ep ▸ hp4)
      · exact a5 c _ (l4.get hc ep)
    · refine orH_le (fun c o hc => ?_) (fun c o hc => ?_)
      · exact T.keep c o (lv5 c o hc) (fun e => by rw [i14 c e] at hc; cases hc)
      · exact T.keep c o (le5 c o hc) (fun e => by rw [v45 c e] at hc; cases hc)
    · exact orH_none i13 (a5 q _ q4)
    · rcases T.new c hc with h1 | h1
      · exact orH_none (i14 c h1) (v45 c h1)
      · exact orH_none (lv5.none h1) (le5.none h1)
    · simp; omega

theorem fields_ok : ∀ d, FieldsC d
  | 0 => fields_of fun m hm => by cases hm
  | d + 1 => fields_of fun m hm => by cases hm; exact value_of (fields_ok d)
end Go.Proofs.YtboojmppmaepmaaDoor
/- A deferred call that catches what is thrown: the rules. -/
namespace Go.Fw
set_option maxHeartbeats 8000000
set_option linter.all false
open Go

variable {df : List Deferred} {P : Program} {w w0 : World} {O O0 D0 : Nat → Prop} {H : AH} {s : St} {a : Act} {n : Nat} {t : TypeId}

/-- A region whose first operation is known as such. -/
theorem W_first {id : Nat} {ops : Array Oper} {o : Oper} {rest : List Oper} {d : Nat} {v : Value} {K : Exit → St → AH → Prop} (hops : ops.toList = o :: rest) (hd : o.dst = some d) (hdn : d < n) (hg : o.guard = none)
    (hx : ∀ (a : Act) (w : World) (O : Nat → Prop), (∀ t, Rep w O (s.get t) (a.tmps.getD t undef)) → (execOp a.eval o).run P w = .ok (.value v) w)
    (h : Reg P n ops.toList rest (s.put (some d) (.v v)) H (fun s' H' => K .normal s' H') (panK K)) : W P n (.region id ops false) s H K := by
  refine ⟨fun df w0 O0 D0 a w O hm => ?_⟩
  refine wp_region_list ?_
  rw [hops]
  unfold wpList
  rw [if_pos (by simp [Region.wanted, hg])]
  left
  unfold Oper.wp
  rw [hx a w O hm.tmps, Oper.upon_value]
  refine areg_sound rest _ _ _ w O _ _ h.out ?_ (fun s' H' a' w' O' h1 h2 => ⟨s', H', O', h1, h2⟩) (fun x H' a' w' O' h1 h2 => ⟨[], H', O', h1, h2⟩)
  rw [hd]
  exact hm.put (show inN n (some d) from hdn) hm.heap (Ext.refl w O O) (.v v)

/-- One code behind another, told of abstract states. -/
theorem W_then {c d : Code} {K : Exit → St → AH → Prop} {Q : Exit → Act → World → Prop} (hm : Mod df w0 O0 D0 n s H a w O) (h : W P n c s H K) (hn : ∀ s' H' a' w' O', K .normal s' H' → Mod df w0 O0 D0 n s' H' a' w' O' → d.wp P Q a' w')
    (hx : ∀ e s' H' a' w' O', e ≠ .normal → K e s' H' → Mod df w0 O0 D0 n s' H' a' w' O' → Q e a' w') : (Code.seq c d).wp P Q a w := by
  refine wp_seq (wp_mono (h.run df w0 O0 D0 a w O hm) ?_)
  rintro e a' w' ⟨s', H', O', h1, h2⟩
  cases e <;> first
    | exact hn s' H' a' w' O' h1 h2
    | exact hx _ s' H' a' w' O' (by simp) h1 h2

/-- A function is made, and its call put off. -/
theorem wp_mkdefer {id d1 : Nat} {o1 o2 : Oper} {Q : Exit → Act → World → Prop} {fv : Value} {d : Deferred} (g1 : o1.guard = none) (g2 : o2.guard = none) (hd1 : o1.dst = some d1) (hd2 : o2.dst = none)
    (ex1 : (execOp a.eval o1).run P w = .ok (.value fv) w) (ex2 : (execOp (a.put (some d1) fv).eval o2).run P w = .ok (.defer d) w)
    (h : Q .normal { a.put (some d1) fv with defers := d :: a.defers } w) : (Code.region id #[o1, o2] false).wp P Q a w := by
  refine wp_region_list ?_
  show wpList P #[o1, o2] Q [o1, o2] a w
  unfold wpList
  rw [if_pos (by simp [Region.wanted, g1])]
  left
  unfold Oper.wp
  rw [ex1, Oper.upon_value]
  unfold wpList
  rw [if_pos (by simp [Region.wanted, g2])]
  left
  unfold Oper.wp
  rw [hd1, ex2, Oper.upon_defer, hd2]
  unfold wpList
  exact h

theorem put_other {o : Oper} {l : List Nat} {t : Nat} {v : Value} (hsz : a.tmps.size = n) (hd : inN n o.dst) (ho : ∀ d, o.dst = some d → d ∉ l) (ht : t ∈ l) : (a.put o.dst v).tmps.getD t undef = a.tmps.getD t undef := by
  cases h : o.dst with
  | none => rfl
  | some d =>
    rw [h] at hd
    rw [getD_put _ _ _ _ (by rw [hsz]; exact hd), if_neg]
    rintro rfl
    exact ho d h ht

/-- A region, when what is thrown out of it finds some slots as they were. -/
theorem areg_sound2 {ops : Array Oper} {Q : Exit → Act → World → Prop} (l : List Nat) (a0 : Act) (r : List Oper) (hr : ∀ o ∈ r, ∀ d, o.dst = some d → d ∉ l) : ∀ (s : St) (H : AH) (a : Act) (w : World) (O : Nat → Prop) (K : St → AH → Prop) (J : Value → AH → Prop), areg P n ops.toList r s H K J → Mod df w0 O0 D0 n s H a w O →
    (∀ t ∈ l, a.tmps.getD t undef = a0.tmps.getD t undef) →
    (∀ s' H' a' w' O', K s' H' → Mod df w0 O0 D0 n s' H' a' w' O' → Q .normal a' w') → (∀ x H' a' w' O', J x H' → (∀ t ∈ l, a'.tmps.getD t undef = a0.tmps.getD t undef) → Mod df w0 O0 D0 n [] H' a' w' O' → Q (.panic [{ v := x, recovered := false }]) a' w') → wpList P ops Q r a w := by
  induction r with
  | nil => intro s H a w O K J h hm _ hk _; exact hk s H a w O h hm
  | cons o r ih =>
    have ih := ih fun o ho => hr o (List.mem_cons_of_mem _ ho)
    have hro := hr o List.mem_cons_self
    intro s H a w O K J h hm hl hk hj
    simp only [areg] at h
    obtain ⟨hd, h⟩ := h
    have hl' : ∀ v, ∀ t ∈ l, (a.put o.dst v).tmps.getD t undef = a0.tmps.getD t undef := fun v t ht => (put_other hm.size hd hro ht).trans (hl t ht)
    have go : ∀ s, Mod df w0 O0 D0 n s H a w O → aop P o.op s H (fun x H' => Hide (areg P n ops.toList r (s.put o.dst x) H' K J)) J → Region.wanted o (yielded ops a.tmps) = true → wpList P ops Q (o :: r) a w := by
      intro s hm hop hwant
      unfold wpList
      rw [if_pos hwant]
      exact .inl (aop_sound hm hop (fun x H' w' O' y hx hH hext hr => ih _ _ _ _ _ K J hx.out (hm.put hd hH (hext.mono (dom_own hm.heap)) hr) (hl' y) hk hj) fun x H' w' O' hx hH => hj x H' a w' O' hx hl ⟨hH, hm.defers, hm.size, fun t => .junk _, hm.base, hm.sub⟩)
    cases hg : o.guard with
    | none =>
      rw [hg] at h
      exact go s hm h (by simp [Region.wanted, hg])
    | some jw =>
      obtain ⟨j, want⟩ := jw
      rw [hg] at h
      simp only at h
      cases hgs : gslot ops.toList j with
      | none => rw [hgs] at h; exact h.elim
      | some d =>
        rw [hgs] at h
        simp only at h
        have hdst : (ops[j]?).bind (·.dst) = some d := by
          unfold gslot at hgs
          simpa using hgs
        split at h
        · rename_i c hc
          have hval := hm.guard hc
          have hget : a.tmps[d]? = some (.bool c) := by
            rw [Array.getD_eq_getD_getElem?] at hval
            cases hq : a.tmps[d]? with
            | none => rw [hq] at hval; cases hval
            | some v => rw [hq] at hval; simp at hval; rw [hval]
          have hy : yielded ops a.tmps j = some c := by
            unfold yielded
            rw [hdst]
            simp [hget]
          by_cases hcw : c = want
          · subst hcw
            exact go _ hm (h.1 rfl) (by simp [Region.wanted, hg, hy])
          · have hcw' : c = !want := by cases c <;> cases want <;> simp_all
            have h2 := (h.2 hcw').out
            unfold wpList
            rw [if_neg (by simp [Region.wanted, hg, hy, hcw])]
            exact ih _ _ _ _ _ K J h2 (hm.put hd hm.heap (Ext.refl w O O) (.v _)) (hl' _) hk hj
        · rename_i q hc
          have hval := hm.tmps d
          rw [hc] at hval
          have hval := hval.inv_v
          have hy : yielded ops a.tmps j = none := by
            unfold yielded
            rw [hdst]
            simp only [Option.bind_some]
            rw [Array.getD_eq_getD_getElem?] at hval
            cases hq : a.tmps[d]? with
            | none => rfl
            | some v => rw [hq] at hval; simp at hval; rw [hval]
          unfold wpList
          rw [if_neg (by simp [Region.wanted, hg, hy])]
          exact ih _ _ _ _ _ K J h.out (hm.put hd hm.heap (Ext.refl w O O) (.v _)) (hl' _) hk hj
        · exact h.elim

theorem wp_region2 {id : Nat} {ops : Array Oper} {Q : Exit → Act → World → Prop} (l : List Nat) {K : St → AH → Prop} {J : Value → AH → Prop} (hr : (ops.toList.all fun o => match o.dst with | none => true | some d => !l.contains d) = true) (hm : Mod df w0 O0 D0 n s H a w O)
    (h : Reg P n ops.toList ops.toList s H K J) (hk : ∀ s' H' a' w' O', K s' H' → Mod df w0 O0 D0 n s' H' a' w' O' → Q .normal a' w')
    (hj : ∀ x H' a' w' O', J x H' → (∀ t ∈ l, a'.tmps.getD t undef = a.tmps.getD t undef) → Mod df w0 O0 D0 n [] H' a' w' O' → Q (.panic [{ v := x, recovered := false }]) a' w') : (Code.region id ops false).wp P Q a w := by
  refine wp_region_list (areg_sound2 l a ops.toList (fun o ho d hd => ?_) s H a w O K J h.out hm (fun _ _ => rfl) hk hj)
  have := List.all_eq_true.1 hr o ho
  rw [hd] at this
  simpa using this

theorem Mod.enter {fn : Func} {args : List AV} {vs : List Value} (hkn : Kn w O) (hO : ∀ b, O b → b < w.heap.size) (hH : ∀ b o, H b = some o → O b ∧ ObjRep w O b o) (hl : args.length = vs.length)
    (hr : ∀ (i : Nat) x y, args[i]? = some x → vs[i]? = some y → Rep w O x y) :
    Mod [] w O (dom H) (args.length + (fn.ntmps - args.length)) (argSt 0 args) H { tmps := vs.toArray ++ Array.replicate (fn.ntmps - vs.toArray.size) undef, defers := [] } w O := by
  refine ⟨⟨Ext.refl w O _, hO, fun b o hb => ⟨(hH b o hb).1, fun _ => ⟨o, hb⟩⟩, fun b o hb => (hH b o hb).2⟩, rfl, by simp [hl], fun t => ?_, hkn, fun b hb => by obtain ⟨o, ho⟩ := hb; exact (hH b o ho).1⟩
  rw [argSt_get, Nat.zero_add]
  split
  · rename_i ht
    have hx : args[t - 0]? = some (args[t]'ht.2) := List.getElem?_eq_getElem ht.2
    have hy : vs[t]? = some (vs[t]'(by omega)) := List.getElem?_eq_getElem (by omega)
    rw [hx, Option.getD_some]
    have hq : (vs.toArray ++ Array.replicate (fn.ntmps - vs.toArray.size) undef).getD t undef = vs[t]'(by omega) := by
      rw [Array.getD_eq_getD_getElem?, Array.getElem?_append_left (by simp; omega), List.getElem?_toArray, hy]
      rfl
    rw [hq]
    exact hr t _ _ (List.getElem?_eq_getElem ht.2) hy
  · exact .junk _

/-- What recover finds in a frame of such a mode; and the mode behind it. -/
def found : FrameMode → Value × FrameMode
  | .panicking ({ v, recovered := false, goexit := false } :: older) => (v, .panicking ({ v, recovered := true } :: older))
  | u => (.nilIface, u)

/-- A deferred function that recovers first: its contract. -/
theorem callsD_rec {f : FuncId} {fn : Func} {id : Nat} {ops : Array Oper} {o : Oper} {c : Code} {d : Nat} {args : List AV} {vs : List Value} {u : FrameMode} {KH : AH → Prop} (hf : P.funcs[f]? = some fn) (hb : fn.body = some (.seq (.region id ops false) c))
    (hops : ops = #[o]) (ho : o.op = .call { callee := .builtin .recover, args := #[], argTypes := #[] }) (hod : o.dst = some d) (hd : d < args.length + (fn.ntmps - args.length)) (hg : o.guard = none) (hres : fn.results = #[])
    (hW : W P (args.length + (fn.ntmps - args.length)) c ((argSt 0 args).put (some d) (.v (found u).1)) H (fun e _ H' => e = .normal ∧ KH H'))
    (hkn : Kn w O) (hO : ∀ b, O b → b < w.heap.size) (hH : ∀ b o, H b = some o → O b ∧ ObjRep w O b o) (hl : args.length = vs.length)
    (hr : ∀ (i : Nat) x y, args[i]? = some x → vs[i]? = some y → Rep w O x y) :
    CallsD P f vs.toArray u w fun e u' w' => e = .returned (.tuple #[]) ∧ u' = (found u).2 ∧ ∃ H' O', KH H' ∧ Heap w O (dom H) w' O' H' := by
  subst hops
  refine callsD_of_wpS hf hb fun c₀ cs hu => ?_
  refine wpS_seq (wpS_region ?_)
  have hm := Mod.enter (fn := fn) hkn hO hH hl hr
  have hm2 := hm.put (dst := some d) (show inN _ (some d) from hd) hm.heap (Ext.refl w O O) (.v (found u).1)
  have hex : (execOp (Act.eval { tmps := vs.toArray ++ Array.replicate (fn.ntmps - vs.toArray.size) undef, defers := [] }) o).run P w = .ok .recover w := by
    obtain ⟨dst, op, type, pos, after, guard⟩ := o
    simp only at ho
    subst ho
    rfl
  have hwant : Region.wanted o (yielded #[o] (Act.tmps { tmps := vs.toArray ++ Array.replicate (fn.ntmps - vs.toArray.size) undef, defers := [] })) = true := by simp [Region.wanted, hg]
  have hget : (#[o] : Array Oper)[0]? = some o := rfl
  have hrec : ∀ (X : Value → List Frame → Prop), X (found u).1 ({ c₀ with mode := (found u).2 } :: cs) → (match recoverD (c₀ :: cs) with | some (v, cs') => X v cs' | none => X .nilIface (c₀ :: cs)) := by
    intro X hX
    have hc : ({ c₀ with mode := u } : Frame) = c₀ := by subst hu; rfl
    unfold recoverD
    simp only [hu]
    unfold found at hX
    split at hX
    · simpa using hX
    · rename_i u' hne
      simp only [hc] at hX
      split
      · rename_i v cs' he
        split at he
        · rename_i v' older
          exact absurd rfl (hne v' older)
        · cases he
      · exact hX
  show wpOpsS P #[o] _ [0] _ (c₀ :: cs) w
  unfold wpOpsS
  simp only [hget, hwant, if_true, hex]
  refine hrec (fun v cs' => wpOpsS P #[o] _ [] (Act.put { tmps := vs.toArray ++ Array.replicate (fn.ntmps - vs.toArray.size) undef, defers := [] } o.dst v) cs' w) ?_
  unfold wpOpsS
  rw [hod]
  simp only [Exit.thenS]
  refine wpS_of_wp (wp_mono (hW.run [] w O (dom H) _ w O hm2) ?_)
  rintro e a' w' ⟨s', H', O', ⟨rfl, h1⟩, h2⟩
  refine ⟨h2.defers, _, rfl, .tuple #[], ?_, rfl, rfl, H', O', h1, h2.heap⟩
  simp [results, hres]
end Go.Fw
/- Reading a document: what is thrown is caught. -/
namespace Go.Proofs.YtboojmppmaepmaaDoor
set_option maxHeartbeats 8000000
set_option linter.all false
open Go Go.Fw
attribute [local irreducible] Reg RegD seqK blockK loopK retK panK
set_option maxRecDepth 10000

variable {H : AH} {K : AV → AH → Prop} {J : Value → AH → Prop}

def zero5 : List AV := [.v (.int .i64 0), .v (.int .i64 0), .v (.string (bs [])), .v (.slice none 0 0), .v (.slice none 0 0)]

theorem run_assert (w : World) (e a : Int) : (Instr.typeAssert (faultV e a) 20 94 true).run Tryd.prog w = .ok (.tuple #[.agg #[.int .i64 e, .int .i64 a], .bool true]) w := by kernel_rfl
theorem run_eqFault (w : World) (e a : Int) : (do Go.eqGuard .eql 20 (.tmp 6) (.const .nilIface) (faultV e a) .nilIface; Go.binOp .eql 20 (faultV e a) .nilIface : Sem Value).run Tryd.prog w = .ok (.bool false) w := by kernel_rfl
theorem run_eqNil (w : World) : (do Go.eqGuard .eql 20 (.tmp 6) (.const .nilIface) .nilIface .nilIface; Go.binOp .eql 20 .nilIface .nilIface : Sem Value).run Tryd.prog w = .ok (.bool true) w := by kernel_rfl

/-- The three results of Read, and what it leaves. -/
structure Res3 (H : AH) (r4 r5 r6 : Nat) (cs : List AV) (e : AV) (f : List AV) : Prop where
  h4 : H r4 = some ⟨5, [cs]⟩
  h5 : H r5 = some ⟨1, [[e]]⟩
  h6 : H r6 = some ⟨2, [f]⟩
/-- All but three blocks stays. -/
abbrev But3 (r4 r5 r6 : Nat) (H H' : AH) : Prop := ∀ c o, H c = some o → c ≠ r4 → c ≠ r5 → c ≠ r6 → H' c = some o

theorem catch_fault {r4 r5 r6 : Nat} (h : Res3 H r4 r5 r6 zero5 (.v (.int .i64 0)) [.v (.int .i64 0), .v (.int .i64 0)]) (n45 : r4 ≠ r5) (n46 : r4 ≠ r6) (n56 : r5 ≠ r6) (e a : Int) (older : List PanicEntry) {w : World} {O : Nat → Prop} {vs : List Value}
    (hkn : Kn w O) (hO : ∀ b, O b → b < w.heap.size) (hH : ∀ b o, H b = some o → O b ∧ ObjRep w O b o) (hl : 3 = vs.length)
    (hr : ∀ (i : Nat) x y, ([.ptr r4 5 0 0, .ptr r5 1 0 0, .ptr r6 2 0 0] : List AV)[i]? = some x → vs[i]? = some y → Rep w O x y) :
    CallsD Tryd.prog 62 vs.toArray (.panicking ({ v := faultV e a, recovered := false } :: older)) w fun e' u' w' => e' = .returned (.tuple #[]) ∧ u' = .panicking ({ v := faultV e a, recovered := true } :: older) ∧
      ∃ H' O', (Res3 H' r4 r5 r6 zero5 (.v (.int .i64 0)) [.v (.int .i64 e), .v (.int .i64 a)] ∧ But3 r4 r5 r6 H H') ∧ Heap w O (dom H) w' O' H' := by
  obtain ⟨h4, h5, h6⟩ := h
  refine callsD_rec (args := [.ptr r4 5 0 0, .ptr r5 1 0 0, .ptr r6 2 0 0]) (d := 6) (u := .panicking ({ v := faultV e a, recovered := false } :: older)) Tryd.func62 rfl rfl rfl rfl (show 6 < 3 + (15 - 3) by decide) rfl Tryd.results62 ?_ hkn hO hH hl hr
  simp only [Tryd.ntmps62, List.length_cons, List.length_nil, argSt, Nat.reduceAdd, Nat.reduceSub, found, St.put]
  refine W_block (W_seq (W_first (d := 8) (v := .bool false) rfl rfl (by decide) rfl ?_ ?_))
  · intro act w1 O1 hr1
    have h6 := (hr1 6).inv_v
    have he : act.eval (.tmp 6) = faultV e a := h6
    show (do let x ← (do Go.eqGuard .eql 20 (.tmp 6) (.const .nilIface) (act.eval (.tmp 6)) .nilIface; Go.binOp .eql 20 (act.eval (.tmp 6)) .nilIface : Sem Value); pure (Next.value x)).run Tryd.prog w1 = _
    rw [he, Sem.run_bind, run_eqFault]
    rfl
  repeat' (first | (refine Z.p0 ?_; simp only [St.put]) | refine Z.a0 ?_ | refine Z.c0 ?_ | refine Z.U0 rfl ?_)
  refine W_first (d := 9) (v := .tuple #[.agg #[.int .i64 e, .int .i64 a], .bool true]) rfl rfl (by decide) rfl ?_ ?_
  · intro act w1 O1 hr1
    have h6 := (hr1 6).inv_v
    have he : act.eval (.tmp 6) = faultV e a := h6
    show (do let x ← Instr.typeAssert (act.eval (.tmp 6)) 20 94 true; pure (Next.value x)).run Tryd.prog w1 = _
    rw [he, Sem.run_bind, run_assert]
    rfl
  repeat' (first | ((first | refine Z.W0 ?_ | refine Z.X0 ?_); simp only [go_sem, seval]) | (refine hF _ _ ?_; clear hF F) | (refine Z.p0 ?_; simp only [St.put]) | refine Z.a0 ?_ | refine Z.b0 ?_ | refine Z.c0 ?_ | refine Z.h0 ?_ | refine Z.q0 rfl rfl fun F hF => ?_ | refine Z.T0 rfl ?_)
  (refine box_go2 fun q H1 e1 n1 o1 => ?_; refine hF _ _ ?_; clear hF F)
  have g4 := e1 _ _ h4
  have g5 := e1 _ _ h5
  have g6 := e1 _ _ h6
  unfold zero5 at g4
  have m4 : q ≠ r4 := fun e => by rw [e, h4] at n1; cases n1
  have m5 : q ≠ r5 := fun e => by rw [e, h5] at n1; cases n1
  have m6 : q ≠ r6 := fun e => by rw [e, h6] at n1; cases n1
  repeat' (first | ((first | refine Z.W0 ?_ | refine Z.X0 ?_); simp only [go_sem, seval, o1, g4, g5, g6, m4, m5, m6, n45, n46, n56, Ne.symm m4, Ne.symm m5, Ne.symm m6, Ne.symm n45, Ne.symm n46, Ne.symm n56]) | (refine hF _ _ ?_; clear hF F) | (refine Z.p0 ?_; simp only [St.put]) | refine Z.c0 ?_ | refine Z.f0 ?_ | refine Z.h0 ?_ | refine Z.q0 rfl rfl fun F hF => ?_ | refine Z.A0 rfl rfl rfl fun F hF => ?_ | refine Z.B0 rfl rfl rfl fun F hF => ?_ | (refine Z.D0 ?_; simp only [St.put]) | refine W_drawn (id := 7) [0, 0, 2, 1, 9, 31] [.a 0, .a 1, .a 2, .e 3 [1, 2], .e 4 [1, 2], .e 5 []] mixed (by decide +kernel) ?_ | refine Z.C0 rfl rfl rfl fun F hF => ?_ | (refine hF _ _ ?_ ?_ <;> clear hF F) | fail)
  refine ⟨rfl, ⟨?_, ?_, ?_⟩, ?_⟩
  · rw [AH.set_ne _ _ n46, AH.set_ne _ _ n45, AH.set_same]; rfl
  · rw [AH.set_ne _ _ n56, AH.set_same]
  · rw [AH.set_same]
  · intro c o hc c4 c5 c6
    rw [AH.set_ne _ _ c6, AH.set_ne _ _ c5, AH.set_ne _ _ c4, AH.set_ne _ _ (fun e => by rw [e, n1] at hc; cases hc)]
    exact e1 _ _ hc
theorem catch_idle {args : List AV} {w : World} {O : Nat → Prop} {vs : List Value} (ha : args.length = 3)
    (hkn : Kn w O) (hO : ∀ b, O b → b < w.heap.size) (hH : ∀ b o, H b = some o → O b ∧ ObjRep w O b o) (hl : args.length = vs.length)
    (hr : ∀ (i : Nat) x y, args[i]? = some x → vs[i]? = some y → Rep w O x y) :
    CallsD Tryd.prog 62 vs.toArray .returning w fun e' u' w' => e' = .returned (.tuple #[]) ∧ u' = .returning ∧ ∃ H' O', H' = H ∧ Heap w O (dom H) w' O' H' := by
  refine callsD_rec (KH := fun H' => H' = H) (args := args) (d := 6) (u := .returning) Tryd.func62 rfl rfl rfl rfl (by rw [ha]; show 6 < 3 + (15 - 3); decide) rfl Tryd.results62 ?_ hkn hO hH hl hr
  match args, ha with
  | [x0, x1, x2], _ =>
  simp only [Tryd.ntmps62, List.length_cons, List.length_nil, argSt, Nat.reduceAdd, Nat.reduceSub, found, St.put]
  refine W_block (W_seq (W_first (d := 8) (v := .bool true) rfl rfl (by decide) rfl ?_ ?_))
  · intro act w1 O1 hr1
    have h6 := (hr1 6).inv_v
    have he : act.eval (.tmp 6) = .nilIface := h6
    show (do let x ← (do Go.eqGuard .eql 20 (.tmp 6) (.const .nilIface) (act.eval (.tmp 6)) .nilIface; Go.binOp .eql 20 (act.eval (.tmp 6)) .nilIface : Sem Value); pure (Next.value x)).run Tryd.prog w1 = _
    rw [he, Sem.run_bind, run_eqNil]
    rfl
  repeat' (first | ((first | refine Z.W0 ?_ | refine Z.X0 ?_); simp only [go_sem, seval]) | (refine hF _ _ ?_; clear hF F) | (refine Z.p0 ?_; simp only [St.put]) | refine Z.b0 ?_ | refine Z.c0 ?_ | refine Z.f0 ?_ | refine Z.h0 ?_ | refine Z.q0 rfl rfl fun F hF => ?_ | refine Z.T0 rfl ?_)
  exact ⟨rfl, rfl⟩

/-- What comes behind the deferred call. -/
theorem leaves_read {df : List Deferred} {w0 : World} {O0 D0 : Nat → Prop} {n : Nat} {s : St} {a : Act} {w : World} {O : Nat → Prop} {r4 r5 r6 : Nat} {cs : List AV} {e : AV} {f : List AV} {w' : World} {O' : Nat → Prop} {H' : AH} {u : FrameMode}
    (hm : Mod df w0 O0 D0 n s H a w O) (hH : Heap w O (dom H) w' O' H') (s4 : a.tmps.getD 4 undef = .pointer (some ⟨r4, 0, none⟩)) (s5 : a.tmps.getD 5 undef = .pointer (some ⟨r5, 0, none⟩)) (s6 : a.tmps.getD 6 undef = .pointer (some ⟨r6, 0, none⟩)) (hu : u = .returning)
    (h : Res3 H' r4 r5 r6 cs e f) (l4 : cs.length = 5) (l6 : f.length = 2) (hk : K (.tup [.agg cs, e, .agg f]) H') : Leaves Tryd.prog Tryd.f50 a.tmps (Go.Fw.Ends w0 O0 D0 K J) [] u w' := by
  subst hu
  have hh := hm.heap.then hH
  have sz : ∀ {c : Nat} {o : AObj}, H' c = some o → o.es ≠ 0 → c < w'.heap.size := fun hc hz => by
    obtain ⟨cells, t, h1, _⟩ := (hh.rep _ _ hc).rows hz
    exact lt_of_heap h1
  have hm2 : Mod df w0 O0 D0 n [(4, .ptr r4 5 0 0), (5, .ptr r5 1 0 0), (6, .ptr r6 2 0 0)] H' a w' O' := by
    refine ⟨hh, hm.defers, hm.size, fun t => ?_, hm.base, hm.sub⟩
    unfold St.get
    split
    · rename_i e; subst e; rw [s4]; simpa using Rep.ptr r4 5 0 0 (sz h.h4 (show 5 ≠ 0 by decide))
    unfold St.get
    split
    · rename_i e; subst e; rw [s5]; simpa using Rep.ptr r5 1 0 0 (sz h.h5 (show 1 ≠ 0 by decide))
    unfold St.get
    split
    · rename_i e; subst e; rw [s6]; simpa using Rep.ptr r6 2 0 0 (sz h.h6 (show 2 ≠ 0 by decide))
    · exact .junk _
  obtain ⟨x, y, g1, g2, g3⟩ := results_ok (fn := Tryd.f50) (K := fun x => K x H') hm2 (by
    simp only [Tryd.results50, ares, St.get, reduceIte, Nat.reduceEqDiff]
    rw [ld5 h.h4 l4]
    simp only [aload, arow, h.h5, h.h6, acut, Tryd.underlying3, Tryd.underlying73, isAggD, cl73, if_true, if_false, true_and, List.getElem?_cons_zero, Option.some.injEq, exists_eq_left', List.drop_zero, ne_eq, Nat.reduceEqDiff, not_false_eq_true, Bool.false_eq_true, l6]
    refine ⟨by decide, ?_⟩
    rw [List.take_of_length_le (by omega)]
    exact hk)
  exact ⟨y, g3, .inl ⟨x, H', O', y, rfl, g1, hm2.heap, g2⟩⟩
end Go.Proofs.YtboojmppmaepmaaDoor
/- Reading a document. -/
namespace Go.Proofs.YtboojmppmaepmaaDoor
set_option maxHeartbeats 8000000
set_option linter.all false
open Go Go.Fw
attribute [local irreducible] Reg RegD seqK blockK loopK retK panK
set_option maxRecDepth 10000

variable {H : AH} {K : AV → AH → Prop} {J : Value → AH → Prop}

theorem inv_ptr {w : World} {O : Nat → Prop} {b es i f : Nat} {v : Value} (h : Rep w O (.ptr b es i f) v) : v = .pointer (some ⟨b, i * es + f, none⟩) := by cases h; rfl

theorem read1_ok {x : AV} {b : Bs} {at_ : Nat} (hx : RdS H 1 (rowsB b) x) (hb : b.length ≤ 1000000000) (ha : at_ ≤ b.length)
    (hk0 : ∀ ds e H' Hv cs, decF b 20 at_ b.length false = .ok (ds, e) → e ≤ b.length → Le H H' → Apart H Hv → Le Hv H' → RdV Hv (.mk 5 0 [] [] ds) cs → K (.tup [.agg cs, .v (.int .i64 e), .agg [.v (.int .i64 0), .v (.int .i64 0)]]) H')
    (hk1 : ∀ y H', decF b 20 at_ b.length false = .error y → Le H H' → K (.tup [.agg zero5, .v (.int .i64 0), .agg [.v (.int .i64 y.1), .v (.int .i64 y.2)]]) H') :
    CallX Tryd.prog 50 [x, .v (.int .i64 at_)] H K J := by
  refine ⟨⟨_, Tryd.func50, nm50, by rw [show Tryd.f50.body = some _ from rfl]; rfl⟩, fun w O vs hkn hO hH hl hr => ?_⟩
  refine calls_of_wp_defers Tryd.func50 rfl ?_
  have hm := Mod.enter (fn := Tryd.f50) hkn hO hH hl hr
  have lb := lenB hx
  generalize hact : ({ tmps := vs.toArray ++ Array.replicate (Tryd.f50.ntmps - vs.toArray.size) undef, defers := [] } : Act) = act at hm ⊢
  clear hact
  simp only [show Tryd.f50.ntmps = 37 from rfl, List.length_cons, List.length_nil, argSt, Nat.reduceAdd, Nat.reduceSub] at hm
  -- the results' cells
  refine W_then (K := fun e s' H' => e = .normal ∧ ∃ r4 r5 r6, Res3 H' r4 r5 r6 zero5 (.v (.int .i64 0)) [.v (.int .i64 0), .v (.int .i64 0)] ∧ Le H H' ∧ r4 ≠ r5 ∧ r4 ≠ r6 ∧ r5 ≠ r6 ∧ H r4 = none ∧ H r5 = none ∧ H r6 = none ∧ s'.keep [0, 1, 4, 5, 6] = [(0, x), (1, .v (.int .i64 at_)), (4, .ptr r4 5 0 0), (5, .ptr r5 1 0 0), (6, .ptr r6 2 0 0)]) hm ?_ ?_ (fun e s' H' a' w' O' hne h1 => absurd h1.1 hne)
  · repeat' (first | ((first | refine Z.W0 ?_ | refine Z.X0 ?_); simp only [go_sem, seval]) | refine Z.b0 ?_ | refine Z.q0 rfl rfl fun F hF => ?_)
    (refine box_go2 fun r4 H1 e1 n1 o1 => ?_; refine hF _ _ ?_; clear hF F)
    repeat' (first | ((first | refine Z.W0 ?_ | refine Z.X0 ?_); simp only [go_sem, seval]) | refine Z.q0 rfl rfl fun F hF => ?_)
    (refine box_go2 fun r5 H2 e2 n2 o2 => ?_; refine hF _ _ ?_; clear hF F)
    repeat' (first | ((first | refine Z.W0 ?_ | refine Z.X0 ?_); simp only [go_sem, seval]) | refine Z.q0 rfl rfl fun F hF => ?_)
    (refine box_go2 fun r6 H3 e3 n3 o3 => ?_; refine hF _ _ ?_; clear hF F)
    repeat' (first | (refine Z.p0 ?_; simp only [St.put]))
    refine ⟨by first | rfl | trivial, r4, r5, r6, ⟨e3 _ _ (e2 _ _ o1), e3 _ _ o2, o3⟩, (e1.trans e2).trans e3, fun e => ?_, fun e => ?_, fun e => ?_, n1, e1.none n2, (e1.trans e2).none n3, ?_⟩
    · rw [← e, o1] at n2; cases n2
    · rw [← e, e2 _ _ o1] at n3; cases n3
    · rw [← e, o2] at n3; cases n3
    · simp only [St.keep, St.get, reduceIte, Nat.reduceEqDiff]
  rintro s1 H1 act1 w1 O1 ⟨-, r4, r5, r6, hres, e1, n45, n46, n56, m4, m5, m6, hs⟩ hm
  have hm := hm.keep [0, 1, 4, 5, 6]
  rw [hs] at hm
  clear hs
  have d1 : decide ((at_ : Int) < 0) = false := by simp
  have d2 : decide ((at_ : Int) > (b.length : Int)) = false := by simp; omega
  refine W_then (K := fun e s' H' => e = .normal ∧ H' = H1 ∧ s'.keep [0, 1, 4, 5, 6] = [(0, x), (1, .v (.int .i64 at_)), (4, .ptr r4 5 0 0), (5, .ptr r5 1 0 0), (6, .ptr r6 2 0 0)]) hm ?_ ?_ (fun e s' H' a' w' O' hne h1 => absurd h1.1 hne)
  · have lb1 := lenB (hx.mono e1)
    repeat' (first | ((first | refine Z.W0 ?_ | refine Z.X0 ?_); simp only [go_sem, seval, lb1, d1, d2]) | (refine hF _ _ ?_; clear hF F) | (refine Z.p0 ?_; simp only [St.put]) | refine Z.a0 ?_ | refine Z.b0 ?_ | refine Z.c0 ?_ | refine Z.h0 ?_ | refine Z.m0 ?_ | refine Z.q0 rfl rfl fun F hF => ?_ | refine Z.r0 rfl rfl rfl rfl fun F hF => ?_ | refine Z.U0 rfl ?_)
    simp only [St.keep, St.get, reduceIte, Nat.reduceEqDiff]
    exact ⟨by first | rfl | trivial, by first | rfl | trivial, by first | rfl | trivial⟩
  rintro s2 H2 act2 w2 O2 ⟨-, rfl, hs⟩ hm
  have hm := hm.keep [0, 1, 4, 5, 6]
  rw [hs] at hm
  clear hs
  have v4 := inv_ptr (hm.tmps 4)
  have v5 := inv_ptr (hm.tmps 5)
  have v6 := inv_ptr (hm.tmps 6)
  simp only [Nat.zero_mul, Nat.add_zero] at v4 v5 v6
  have hsz := hm.size
  refine wp_seq (wp_mkdefer (d1 := 19) (fv := .func (.func 62) #[] #[.pointer (some ⟨r4, 0, none⟩), .pointer (some ⟨r5, 0, none⟩), .pointer (some ⟨r6, 0, none⟩)])
    (d := { target := .fn (.func 62) #[.pointer (some ⟨r4, 0, none⟩), .pointer (some ⟨r5, 0, none⟩), .pointer (some ⟨r6, 0, none⟩)], args := #[] }) rfl rfl rfl rfl ?_ ?_ ?_)
  · have hmf : ∀ (fn : Fn) (first cap : Array Value) (w : World), (Instr.makeFunc fn first cap).run Tryd.prog w = .ok (.func fn first cap) w := fun _ _ _ _ => rfl
    simp only [execOp, List.map_toArray, List.map_cons, List.map_nil, Act.eval, v4, v5, v6, Sem.run_bind, hmf, Result.andThen_ok, Sem.run_pure]
  · have hq : (act2.put (some 19) (.func (.func 62) #[] #[.pointer (some ⟨r4, 0, none⟩), .pointer (some ⟨r5, 0, none⟩), .pointer (some ⟨r6, 0, none⟩)])).eval (.tmp 19) = .func (.func 62) #[] #[.pointer (some ⟨r4, 0, none⟩), .pointer (some ⟨r5, 0, none⟩), .pointer (some ⟨r6, 0, none⟩)] := by
      show (act2.put (some 19) _).tmps.getD 19 undef = _
      rw [getD_put _ _ _ _ (by omega), if_pos rfl]
    simp only [execOp, resolve, List.map_toArray, List.map_nil, hq, Deferred.ofValue, Sem.run_bind, Result.andThen_ok, Sem.run_pure]
    rfl
  have hm3 : Go.Fw.Mod [{ target := .fn (.func 62) #[.pointer (some ⟨r4, 0, none⟩), .pointer (some ⟨r5, 0, none⟩), .pointer (some ⟨r6, 0, none⟩)], args := #[] }] w O (dom H) 37 [(0, x), (1, .v (.int .i64 at_)), (4, .ptr r4 5 0 0), (5, .ptr r5 1 0 0), (6, .ptr r6 2 0 0)] H2
      { act2.put (some 19) (.func (.func 62) #[] #[.pointer (some ⟨r4, 0, none⟩), .pointer (some ⟨r5, 0, none⟩), .pointer (some ⟨r6, 0, none⟩)]) with defers := { target := .fn (.func 62) #[.pointer (some ⟨r4, 0, none⟩), .pointer (some ⟨r5, 0, none⟩), .pointer (some ⟨r6, 0, none⟩)], args := #[] } :: act2.defers } w2 O2 := by
    have h1 := (hm.put (dst := some 19) (show inN 37 (some 19) from (by decide : 19 < 37)) hm.heap (Ext.refl w2 O2 O2) (.junk (.func (.func 62) #[] #[.pointer (some ⟨r4, 0, none⟩), .pointer (some ⟨r5, 0, none⟩), .pointer (some ⟨r6, 0, none⟩)]))).keep [0, 1, 4, 5, 6]
    refine ⟨h1.heap, by rw [hm.defers], h1.size, h1.tmps, h1.base, h1.sub⟩
  simp only [Exit.then]
  generalize hact3 : ({ act2.put (some 19) (.func (.func 62) #[] #[.pointer (some ⟨r4, 0, none⟩), .pointer (some ⟨r5, 0, none⟩), .pointer (some ⟨r6, 0, none⟩)]) with defers := { target := .fn (.func 62) #[.pointer (some ⟨r4, 0, none⟩), .pointer (some ⟨r5, 0, none⟩), .pointer (some ⟨r6, 0, none⟩)], args := #[] } :: act2.defers } : Act) = act3 at hm3 ⊢
  clear hact3 v4 v5 v6 hsz hm
  have hargs : ∀ (w' : World) (O' : Nat → Prop) {o4 o5 o6 : AObj} {H' : AH}, (∀ b, O' b → b < w'.heap.size) → (∀ b o, H' b = some o → O' b ∧ ObjRep w' O' b o) → H' r4 = some o4 → H' r5 = some o5 → H' r6 = some o6 →
      ∀ (i : Nat) x y, ([.ptr r4 5 0 0, .ptr r5 1 0 0, .ptr r6 2 0 0] : List AV)[i]? = some x → ([.pointer (some ⟨r4, 0, none⟩), .pointer (some ⟨r5, 0, none⟩), .pointer (some ⟨r6, 0, none⟩)] : List Value)[i]? = some y → Rep w' O' x y := by
    intro w' O' o4 o5 o6 H' hb hd h4 h5 h6
    have b4 := hb _ (hd _ _ h4).1
    have b5 := hb _ (hd _ _ h5).1
    have b6 := hb _ (hd _ _ h6).1
    intro i x y hx hy
    match i with
    | 0 =>
      simp at hx hy; subst hx hy
      simpa using Rep.ptr (w := w') (O := O') r4 5 0 0 b4
    | 1 =>
      simp at hx hy; subst hx hy
      simpa using Rep.ptr (w := w') (O := O') r5 1 0 0 b5
    | 2 =>
      simp at hx hy; subst hx hy
      simpa using Rep.ptr (w := w') (O := O') r6 2 0 0 b6
    | n + 3 => simp at hx
  refine W_then (K := fun e s' H' => e = .normal ∧ ∃ p z, Cur H' p z b at_ ∧ Le H2 H' ∧ H2 p = none ∧ s'.keep [0, 1, 4, 5, 6, 7] = [(0, x), (1, .v (.int .i64 at_)), (4, .ptr r4 5 0 0), (5, .ptr r5 1 0 0), (6, .ptr r6 2 0 0), (7, .ptr p 2 0 0)]) hm3 ?_ ?_ (fun e s' H' a' w' O' hne h1 => absurd h1.1 hne)
  · repeat' (first | ((first | refine Z.W0 ?_ | refine Z.X0 ?_); simp only [go_sem, seval, hx.cells, hx.cell]) | (refine hF _ _ ?_; clear hF F) | refine Z.b0 ?_ | refine Z.h0 ?_ | refine Z.q0 rfl rfl fun F hF => ?_)
    (refine box_go2 fun p H3 e3 n3 o3 => ?_; refine hF _ _ ?_; clear hF F)
    repeat' (first | ((first | refine Z.W0 ?_ | refine Z.X0 ?_); simp only [go_sem, seval]) | (refine hF _ _ ?_; clear hF F) | (refine Z.p0 ?_; simp only [St.put]) | refine Z.h0 ?_ | refine Z.q0 rfl rfl fun F hF => ?_)
    simp only [St.keep, St.get, reduceIte, Nat.reduceEqDiff]
    refine ⟨by first | rfl | trivial, p, x, ⟨o3, (hx.mono e1).mono ?_, hb⟩, e3, n3, rfl⟩
    intro c o hc
    rw [AH.del_ne _ (fun e => by rw [e, n3] at hc; cases hc)]
    exact e3 _ _ hc
  rintro s4 H4 act4 w4 O4 ⟨-, p, z, cur, e4, n4, hs⟩ hm4
  have hm4 := hm4.keep [0, 1, 4, 5, 6, 7]
  rw [hs] at hm4
  clear hs hm3
  have v4 := inv_ptr (hm4.tmps 4)
  have v5 := inv_ptr (hm4.tmps 5)
  have v6 := inv_ptr (hm4.tmps 6)
  simp only [Nat.zero_mul, Nat.add_zero] at v4 v5 v6
  have hle4 : Le H H4 := e1.trans e4
  have lb4 := lenB (hx.mono hle4)
  have np : ∀ {c : Nat} {o : AObj}, H2 c = some o → c ≠ p := fun hc e => by rw [e, n4] at hc; cases hc
  refine wp_seq (wp_region2 [4, 5, 6] (K := fun s' H' => ∃ ds en Hv y rows, decF b 20 at_ b.length false = .ok (ds, en) ∧ en ≤ b.length ∧ ds.length ≤ en ∧ Lp p H4 H' ∧ Cur H' p z b en ∧ Apart H4 Hv ∧ Le Hv H' ∧ RdS Hv 6 rows y ∧ RdFs Hv ds rows ∧ s'.keep [4, 5, 6, 7, 8] = [(4, .ptr r4 5 0 0), (5, .ptr r5 1 0 0), (6, .ptr r6 2 0 0), (7, .ptr p 2 0 0), (8, y)])
    (J := fun v H' => ∃ y : Int × Int, decF b 20 at_ b.length false = .error y ∧ v = faultV y.1 y.2 ∧ Lp p H4 H') rfl hm4 ?_ ?_ ?_)
  · repeat' (first | ((first | refine Z.W0 ?_ | refine Z.X0 ?_); simp only [go_sem, seval, lb4]) | (refine hF _ _ ?_; clear hF F) | refine Z.h0 ?_ | refine Z.q0 rfl rfl fun F hF => ?_)
    refine fields_ok 20 p z b at_ b.length false 1 H4 _ _ cur ha (Nat.le_refl _) rfl (fun ds en H5 Hv y rows g1 g2 g3 g4 l5 c5 a5 le5 rs rf => ?_) (fun y H5 g1 g2 => ?_)
    · (refine hF _ _ ?_; clear hF F)
      repeat' (first | ((first | refine Z.W0 ?_ | refine Z.X0 ?_); simp only [go_sem, seval]) | (refine hF _ _ ?_; clear hF F) | (refine Z.p0 ?_; simp only [St.put]) | refine Z.h0 ?_ | refine Z.q0 rfl rfl fun F hF => ?_)
      simp only [St.keep, St.get, reduceIte, Nat.reduceEqDiff]
      exact ⟨ds, en, Hv, y, rows, g1, g3, g4, l5, c5, a5, le5, rs, rf, rfl⟩
    · exact ⟨y, g1, rfl, g2⟩
  · rintro s5 H5 act5 w5 O5 ⟨ds, en, Hv, y, rows, g1, g3, g4, l5, c5, a5, le5, rs, rf, hs⟩ hm5
    have hm5 := hm5.keep [4, 5, 6, 7, 8]
    rw [hs] at hm5
    clear hs
    simp only [Exit.then]
    have q4 := l5.get (e4 _ _ hres.h4) (np hres.h4)
    have q5 := l5.get (e4 _ _ hres.h5) (np hres.h5)
    have q6 := l5.get (e4 _ _ hres.h6) (np hres.h6)
    have qp := c5.blk
    have p4 := np hres.h4
    have p5 := np hres.h5
    have p6 := np hres.h6
    refine wp_mono (W.run (K := fun e s' H' => e = .ret ∧ H' = ((H5.set r4 ⟨5, [[.v (.int .i64 5), .v (.int .i64 0), .v (.string (bs [])), .v (.slice none 0 0), y]]⟩).set r5 ⟨1, [[.v (.int .i64 en)]]⟩).set r6 ⟨2, [[.v (.int .i64 0), .v (.int .i64 0)]]⟩ ∧ s'.keep [4, 5, 6] = [(4, .ptr r4 5 0 0), (5, .ptr r5 1 0 0), (6, .ptr r6 2 0 0)]) ?_ _ w O (dom H) act5 w5 O5 hm5) ?_
    · unfold zero5 at q4
      repeat' (first | ((first | refine Z.W0 ?_ | refine Z.X0 ?_); simp only [go_sem, seval, q4, q5, q6, qp, p4, p5, p6, n45, n46, n56, Ne.symm n45, Ne.symm n46, Ne.symm n56, Ne.symm p4, Ne.symm p5, Ne.symm p6, rs.cell, rs.cells]) | (refine hF _ _ ?_; clear hF F) | refine Z.a0 ?_ | refine Z.c0 ?_ | refine Z.h0 ?_ | refine Z.n0 ?_ | refine Z.A0 rfl rfl rfl fun F hF => ?_ | refine Z.B0 rfl rfl rfl fun F hF => ?_ | (refine Z.D0 ?_; simp only [St.put]) | refine W_drawn (id := 6) [0, 1, 0, 4, 12, 28, 60, 0, 3, 383, 1023] [.a 0, .a 1, .a 2, .a 3, .a 4, .a 5, .a 6, .a 7, .e 8 [2, 3, 4, 5, 6, 7], .e 9 [7], .e 10 []] mixed (by decide +kernel) ?_ | refine Z.C0 rfl rfl rfl fun F hF => ?_ | (refine hF _ _ ?_ ?_ <;> clear hF F) | fail)
      simp only [St.keep, St.get, reduceIte, Nat.reduceEqDiff]
      exact ⟨by first | rfl | trivial, by first | rfl | trivial, by first | rfl | trivial⟩
    · rintro e act6 w6 ⟨s6, H6, O6, ⟨rfl, hH6, hs⟩, hm6⟩
      have hm6 := hm6.keep [4, 5, 6]
      rw [hs] at hm6
      clear hs
      have u4 := inv_ptr (hm6.tmps 4)
      have u5 := inv_ptr (hm6.tmps 5)
      have u6 := inv_ptr (hm6.tmps 6)
      simp only [Nat.zero_mul, Nat.add_zero] at u4 u5 u6
      show Leaves Tryd.prog Tryd.f50 act6.tmps _ act6.defers .returning w6
      rw [hm6.defers]
      have z4 : H6 r4 = some ⟨5, [[.v (.int .i64 5), .v (.int .i64 0), .v (.string (bs [])), .v (.slice none 0 0), y]]⟩ := by rw [hH6, AH.set_ne _ _ n46, AH.set_ne _ _ n45, AH.set_same]
      have z5 : H6 r5 = some ⟨1, [[.v (.int .i64 en)]]⟩ := by rw [hH6, AH.set_ne _ _ n56, AH.set_same]
      have z6 : H6 r6 = some ⟨2, [[.v (.int .i64 0), .v (.int .i64 0)]]⟩ := by rw [hH6, AH.set_same]
      refine leaves_cons (f := 62) (args := #[.pointer (some ⟨r4, 0, none⟩), .pointer (some ⟨r5, 0, none⟩), .pointer (some ⟨r6, 0, none⟩)]) (by simp) (by simp [go_sem]) ?_
      refine (catch_idle (H := H6) (args := [.ptr r4 5 0 0, .ptr r5 1 0 0, .ptr r6 2 0 0]) (vs := [.pointer (some ⟨r4, 0, none⟩), .pointer (some ⟨r5, 0, none⟩), .pointer (some ⟨r6, 0, none⟩)]) rfl hm6.kn hm6.heap.bound (fun c o hc => ⟨(hm6.heap.dom c o hc).1, hm6.heap.rep c o hc⟩) rfl (hargs w6 O6 hm6.heap.bound (fun c o hc => ⟨(hm6.heap.dom c o hc).1, hm6.heap.rep c o hc⟩) z4 z5 z6)).mono ?_
      rintro e' u' w' ⟨rfl, rfl, H', O', rfl, hH'⟩
      have hother : ∀ c, c ≠ r4 → c ≠ r5 → c ≠ r6 → H' c = H5 c := fun c k4 k5 k6 => by rw [hH6, AH.set_ne _ _ k6, AH.set_ne _ _ k5, AH.set_ne _ _ k4]
      refine leaves_read hm6 hH' u4 u5 u6 rfl ⟨z4, z5, z6⟩ rfl rfl ?_
      refine hk0 ds en H' Hv _ g1 g3 (fun c o hc => ?_) (fun c o hc => a5 c o (hle4 c o hc)) (fun c o hc => ?_) (RdV.mk (rl := []) (rd := rows) (by decide) (by decide) (by simp) (by simp) (by omega) .nil rs rfl rf)
      · rw [hother c (fun e => by rw [e, m4] at hc; cases hc) (fun e => by rw [e, m5] at hc; cases hc) (fun e => by rw [e, m6] at hc; cases hc)]
        exact l5.get (hle4 c o hc) (np (e1 c o hc))
      · rw [hother c (fun e => by rw [e, a5 _ _ (e4 _ _ hres.h4)] at hc; cases hc) (fun e => by rw [e, a5 _ _ (e4 _ _ hres.h5)] at hc; cases hc) (fun e => by rw [e, a5 _ _ (e4 _ _ hres.h6)] at hc; cases hc)]
        exact le5 c o hc
  · rintro v H5 act5 w5 O5 ⟨y, g1, rfl, g2⟩ hk5 hm5
    show Leaves Tryd.prog Tryd.f50 act5.tmps _ act5.defers (.panicking [{ v := faultV y.1 y.2, recovered := false }]) w5
    rw [hm5.defers]
    have u4 := (hk5 4 (by simp)).trans v4
    have u5 := (hk5 5 (by simp)).trans v5
    have u6 := (hk5 6 (by simp)).trans v6
    have q4 := g2.get (e4 _ _ hres.h4) (np hres.h4)
    have q5 := g2.get (e4 _ _ hres.h5) (np hres.h5)
    have q6 := g2.get (e4 _ _ hres.h6) (np hres.h6)
    refine leaves_cons (f := 62) (args := #[.pointer (some ⟨r4, 0, none⟩), .pointer (some ⟨r5, 0, none⟩), .pointer (some ⟨r6, 0, none⟩)]) (by simp) (by simp [go_sem]) ?_
    refine (catch_fault (H := H5) (vs := [.pointer (some ⟨r4, 0, none⟩), .pointer (some ⟨r5, 0, none⟩), .pointer (some ⟨r6, 0, none⟩)]) ⟨q4, q5, q6⟩ n45 n46 n56 y.1 y.2 [] hm5.kn hm5.heap.bound (fun c o hc => ⟨(hm5.heap.dom c o hc).1, hm5.heap.rep c o hc⟩) rfl (hargs w5 O5 hm5.heap.bound (fun c o hc => ⟨(hm5.heap.dom c o hc).1, hm5.heap.rep c o hc⟩) q4 q5 q6)).mono ?_
    rintro e' u' w' ⟨rfl, rfl, H', O', ⟨z, zo⟩, hH'⟩
    refine leaves_read hm5 hH' u4 u5 u6 rfl z rfl rfl ?_
    refine hk1 y H' g1 (fun c o hc => ?_)
    exact zo c o (g2.get (hle4 c o hc) (np (e1 c o hc))) (fun e => by rw [e, m4] at hc; cases hc) (fun e => by rw [e, m5] at hc; cases hc) (fun e => by rw [e, m6] at hc; cases hc)
end Go.Proofs.YtboojmppmaepmaaDoor
/- How many bytes a value has: the walks. -/
namespace Go.Proofs.YtboojmppmaepmaaDoor
set_option maxHeartbeats 8000000
set_option linter.all false
open Go Go.Fw
attribute [local irreducible] Reg RegD seqK blockK loopK retK
set_option maxRecDepth 10000

variable {H : AH} {K : AV → AH → Prop} {J : Value → AH → Prop}

/-- One block may have been written. -/
abbrev Went1 (b : Nat) (H H' : AH) : Prop := ∀ c o, H c = some o → c ≠ b → H' c = some o
theorem Went1.trans {b : Nat} {H0 H1 H2 : AH} (h : Went1 b H0 H1) (k : Went1 b H1 H2) : Went1 b H0 H2 := fun c o hc hb => k c o (h c o hc hb) hb
theorem Went1.set {b : Nat} {H : AH} {o : AObj} : Went1 b H (H.set b o) := fun c p hc hb => by rw [AH.set_ne _ _ hb]; exact hc
theorem Went1.le {b : Nat} {H0 H H1 : AH} (h : Went1 b H H1) (hle : Le H0 H) (hb : H0 b = none) : Le H0 H1 := fun c o hc => h c o (hle c o hc) (by rintro rfl; rw [hb] at hc; cases hc)
theorem Le.went {b : Nat} {H H1 : AH} (h : Le H H1) : Went1 b H H1 := fun c o hc _ => h c o hc

def room (H : AH) (b : Nat) (r : Int) : Prop := H b = some ⟨1, [[.v (.int .i64 r)]]⟩

theorem take_yes {b : Nat} {r : Int} {n : Nat} (h : room H b r) (hr : r ≤ 65536) (hn : n ≤ r) (hk : ∀ H', Went1 b H H' → room H' b (r - n) → K (.v (.bool true)) H') : CallX Tryd.prog 83 [.ptr b 1 0 0, .v (.int .i64 n)] H K J := by
  unfold room at h
  refine CallX.of_body Tryd.func83 nm83 rfl ?_; simp only [Tryd.ntmps83, List.length_cons, List.length_nil, argSt, Nat.reduceAdd, Nat.reduceSub]
  have d : decide ((n : Int) > r) = false := decide_eq_false (by omega)
  repeat' (first | ((first | refine Z.W0 ?_ | refine Z.X0 ?_); simp only [go_sem, seval, h, d]; try (simp (disch := omega) only [Z.w0]; try simp only [go_sem, seval, h, d])) | (refine hF _ _ ?_; clear hF F) | (refine Z.p0 ?_; simp only [St.put]) | refine Z.a0 ?_ | refine Z.b0 ?_ | refine Z.c0 ?_ | refine Z.h0 ?_ | refine Z.m0 ?_ | refine Z.n0 ?_ | refine Z.q0 rfl rfl fun F hF => ?_ | refine Z.U0 rfl ?_)
  simp only [retK, ares, pack, Tryd.results83, St.get, reduceIte, Nat.reduceEqDiff, aload, arow, List.toArray, Array.toList]
  exact hk _ .set (AH.set_same _ _ _)
theorem take_no {b : Nat} {r : Int} {n : Nat} (h : room H b r) (hn : r < n) (hk : ∀ H', Went1 b H H' → room H' b (-1) → K (.v (.bool false)) H') : CallX Tryd.prog 83 [.ptr b 1 0 0, .v (.int .i64 n)] H K J := by
  unfold room at h
  refine CallX.of_body Tryd.func83 nm83 rfl ?_; simp only [Tryd.ntmps83, List.length_cons, List.length_nil, argSt, Nat.reduceAdd, Nat.reduceSub]
  have d : decide ((n : Int) > r) = true := decide_eq_true (by omega)
  repeat' (first | ((first | refine Z.W0 ?_ | refine Z.X0 ?_); simp only [go_sem, seval, h, d]) | (refine hF _ _ ?_; clear hF F) | (refine Z.p0 ?_; simp only [St.put]) | refine Z.a0 ?_ | refine Z.b0 ?_ | refine Z.c0 ?_ | refine Z.d0 ?_ | refine Z.h0 ?_ | refine Z.n0 ?_ | refine Z.q0 rfl rfl fun F hF => ?_ | refine Z.T0 rfl ?_)
  simp only [retK, ares, pack, Tryd.results83, St.get, reduceIte, Nat.reduceEqDiff, aload, arow, List.toArray, Array.toList]
  exact hk _ .set (AH.set_same _ _ _)

/-- What a weighing comes to. -/
def weighed (b : Nat) (H : AH) (r : Int) (n : Nat) (K : AV → AH → Prop) : Prop :=
  ((n : Int) ≤ r → ∀ H', Went1 b H H' → room H' b (r - n) → K (.v (.bool true)) H') ∧ (r < n → ∀ H', Went1 b H H' → room H' b (-1) → K (.v (.bool false)) H')

theorem weigh_ok : ∀ (m : Nat) (v : Val) (cs : List AV) (H0 H : AH) (b : Nat) (r : Int) (K : AV → AH → Prop) (J : Value → AH → Prop), SizeOf.sizeOf v < m → RdV H0 v cs → Le H0 H → H0 b = none → room H b r → 0 ≤ r → r ≤ 65536 → weighed b H r (sizeV v) K →
    CallX Tryd.prog 65 [.ptr b 1 0 0, .agg cs] H K J := by
  intro m
  induction m with
  | zero => intro v cs H0 H b r K J h; omega
  | succ m ih =>
    intro v cs H0 H b r K J hm hv hle hb hr hr0 hr1 hk
    obtain ⟨k1, i1, t1, l1, d1, x, y, la, da, rfl, h1, h2, h3, h4⟩ := hv.out
    have hsz := sizeV_eq v
    have hbH : H b ≠ none := fun e => by rw [show H b = _ from hr] at e; cases e
    refine CallX.of_body Tryd.func65 nm65 rfl ?_; simp only [Tryd.ntmps65, List.length_cons, List.length_nil, argSt, Nat.reduceAdd, Nat.reduceSub]
    repeat' (first | ((first | refine Z.W0 ?_ | refine Z.X0 ?_); simp only [go_sem, seval, h1.cell, h2.cell]) | refine Z.a0 ?_ | refine Z.b0 ?_ | refine Z.q0 rfl rfl fun F hF => ?_)
    (refine box_go2 fun q H1 e1 n1 o1 => ?_; refine hF _ _ ?_; clear hF F)
    have hq : q ≠ b := fun e => hbH (e ▸ n1)
    have r1 : room H1 b r := e1 _ _ hr
    have hle1 := hle.trans e1
    have fin : ∀ H', Went1 b H1 H' → Went1 b H H' := fun H' w => (Le.went e1).trans w
    by_cases k3 : v.kind = 3 ∨ v.kind = 10
    · rw [if_pos k3] at hsz
      rw [hsz] at hk
      rcases k3 with k3 | k3
      all_goals
        repeat' (first | ((first | refine Z.W0 ?_ | refine Z.X0 ?_); simp only [go_sem, seval, o1, k3]) | (refine hF _ _ ?_; clear hF F) | (refine Z.p0 ?_; simp only [St.put]) | refine Z.a0 ?_ | refine Z.b0 ?_ | refine Z.c0 ?_ | refine Z.h0 ?_ | refine Z.l0 ?_ | refine Z.m0 ?_ | refine Z.q0 rfl rfl fun F hF => ?_ | refine Z.T0 rfl ?_ | refine Z.U0 rfl ?_)
        by_cases hn : (8 : Nat) ≤ r
        · refine take_yes (n := 8) r1 hr1 hn fun H2 w2 r2 => ?_
          (refine hF _ _ ?_; clear hF F)
          repeat' (first | ((first | refine Z.W0 ?_ | refine Z.X0 ?_); simp only [go_sem, seval]) | (refine hF _ _ ?_; clear hF F) | (refine Z.p0 ?_; simp only [St.put]) | refine Z.c0 ?_ | refine Z.d0 ?_ | refine Z.g0 ?_ | refine Z.h0 ?_ | refine Z.n0 ?_ | refine Z.q0 rfl rfl fun F hF => ?_)
          simp only [retK, ares, pack, Tryd.results65, St.get, reduceIte, Nat.reduceEqDiff, aload, arow, List.toArray, Array.toList]
          exact hk.1 (by omega) _ (fin _ w2) r2
        · refine take_no (n := 8) r1 (by omega) fun H2 w2 r2 => ?_
          (refine hF _ _ ?_; clear hF F)
          repeat' (first | ((first | refine Z.W0 ?_ | refine Z.X0 ?_); simp only [go_sem, seval]) | (refine hF _ _ ?_; clear hF F) | (refine Z.p0 ?_; simp only [St.put]) | refine Z.c0 ?_ | refine Z.d0 ?_ | refine Z.g0 ?_ | refine Z.h0 ?_ | refine Z.n0 ?_ | refine Z.q0 rfl rfl fun F hF => ?_)
          simp only [retK, ares, pack, Tryd.results65, St.get, reduceIte, Nat.reduceEqDiff, aload, arow, List.toArray, Array.toList]
          exact hk.2 (by omega) _ (fin _ w2) r2
    rw [if_neg k3] at hsz
    have b3 : (v.kind == 3) = false := beq_eq_false_iff_ne.2 fun e => k3 (.inl e)
    have b10 : (v.kind == 10) = false := beq_eq_false_iff_ne.2 fun e => k3 (.inr e)
    by_cases k4 : v.kind = 4 ∨ v.kind = 7
    · rw [if_pos k4] at hsz
      rw [hsz] at hk
      rcases k4 with k4 | k4
      all_goals
        repeat' (first | ((first | refine Z.W0 ?_ | refine Z.X0 ?_); simp only [go_sem, seval, o1, b3, b10, k4]) | (refine hF _ _ ?_; clear hF F) | (refine Z.p0 ?_; simp only [St.put]) | refine Z.a0 ?_ | refine Z.b0 ?_ | refine Z.c0 ?_ | refine Z.h0 ?_ | refine Z.l0 ?_ | refine Z.m0 ?_ | refine Z.q0 rfl rfl fun F hF => ?_ | refine Z.T0 rfl ?_ | refine Z.U0 rfl ?_)
        by_cases hn : (5 : Nat) ≤ r
        · refine take_yes (n := 5) r1 hr1 hn fun H2 w2 r2 => ?_
          have o2 := w2 _ _ o1 hq
          (refine hF _ _ ?_; clear hF F)
          repeat' (first | ((first | refine Z.W0 ?_ | refine Z.X0 ?_); simp only [go_sem, seval, o2]) | (refine hF _ _ ?_; clear hF F) | refine Z.h0 ?_ | refine Z.q0 rfl rfl fun F hF => ?_ | refine Z.r0 rfl rfl rfl rfl fun F hF => ?_)
          by_cases hn2 : ((5 + v.text.length : Nat) : Int) ≤ r
          · refine take_yes (n := v.text.length) r2 (by omega) (by omega) fun H3 w3 r3 => ?_
            (refine hF _ _ ?_; clear hF F)
            repeat' (first | ((first | refine Z.W0 ?_ | refine Z.X0 ?_); simp only [go_sem, seval]) | (refine hF _ _ ?_; clear hF F) | (refine Z.p0 ?_; simp only [St.put]) | refine Z.c0 ?_ | refine Z.d0 ?_ | refine Z.g0 ?_ | refine Z.h0 ?_ | refine Z.n0 ?_ | refine Z.q0 rfl rfl fun F hF => ?_)
            simp only [retK, ares, pack, Tryd.results65, St.get, reduceIte, Nat.reduceEqDiff, aload, arow, List.toArray, Array.toList]
            refine hk.1 hn2 _ (fin _ (w2.trans w3)) ?_
            have e : r - ((5 + v.text.length : Nat) : Int) = r - (5 : Nat) - v.text.length := by omega
            rw [e]
            exact r3
          · refine take_no (n := v.text.length) r2 (by omega) fun H3 w3 r3 => ?_
            (refine hF _ _ ?_; clear hF F)
            repeat' (first | ((first | refine Z.W0 ?_ | refine Z.X0 ?_); simp only [go_sem, seval]) | (refine hF _ _ ?_; clear hF F) | (refine Z.p0 ?_; simp only [St.put]) | refine Z.c0 ?_ | refine Z.d0 ?_ | refine Z.g0 ?_ | refine Z.h0 ?_ | refine Z.n0 ?_ | refine Z.q0 rfl rfl fun F hF => ?_)
            simp only [retK, ares, pack, Tryd.results65, St.get, reduceIte, Nat.reduceEqDiff, aload, arow, List.toArray, Array.toList]
            exact hk.2 (by omega) _ (fin _ (w2.trans w3)) r3
        · refine take_no (n := 5) r1 (by omega) fun H2 w2 r2 => ?_
          (refine hF _ _ ?_; clear hF F)
          repeat' (first | ((first | refine Z.W0 ?_ | refine Z.X0 ?_); simp only [go_sem, seval]) | (refine hF _ _ ?_; clear hF F) | (refine Z.p0 ?_; simp only [St.put]) | refine Z.c0 ?_ | refine Z.d0 ?_ | refine Z.g0 ?_ | refine Z.h0 ?_ | refine Z.n0 ?_ | refine Z.q0 rfl rfl fun F hF => ?_ | refine Z.s0 rfl rfl rfl rfl ?_)
          simp only [retK, ares, pack, Tryd.results65, St.get, reduceIte, Nat.reduceEqDiff, aload, arow, List.toArray, Array.toList]
          exact hk.2 (by omega) _ (fin _ w2) r2
    rw [if_neg k4] at hsz
    have b4 : (v.kind == 4) = false := beq_eq_false_iff_ne.2 fun e => k4 (.inl e)
    have b7 : (v.kind == 7) = false := beq_eq_false_iff_ne.2 fun e => k4 (.inr e)
    by_cases k8 : v.kind = 8
    · rw [if_pos k8] at hsz
      rw [hsz] at hk
      repeat' (first | ((first | refine Z.W0 ?_ | refine Z.X0 ?_); simp only [go_sem, seval, o1, b3, b10, b4, b7, k8]) | (refine hF _ _ ?_; clear hF F) | (refine Z.p0 ?_; simp only [St.put]) | refine Z.a0 ?_ | refine Z.b0 ?_ | refine Z.c0 ?_ | refine Z.h0 ?_ | refine Z.l0 ?_ | refine Z.q0 rfl rfl fun F hF => ?_ | refine Z.T0 rfl ?_ | refine Z.U0 rfl ?_)
      by_cases hn : (12 : Nat) ≤ r
      · refine take_yes (n := 12) r1 hr1 hn fun H2 w2 r2 => ?_
        (refine hF _ _ ?_; clear hF F)
        repeat' (first | ((first | refine Z.W0 ?_ | refine Z.X0 ?_); simp only [go_sem, seval]) | (refine hF _ _ ?_; clear hF F) | (refine Z.p0 ?_; simp only [St.put]) | refine Z.c0 ?_ | refine Z.d0 ?_ | refine Z.g0 ?_ | refine Z.h0 ?_ | refine Z.n0 ?_ | refine Z.q0 rfl rfl fun F hF => ?_)
        simp only [retK, ares, pack, Tryd.results65, St.get, reduceIte, Nat.reduceEqDiff, aload, arow, List.toArray, Array.toList]
        exact hk.1 (by omega) _ (fin _ w2) r2
      · refine take_no (n := 12) r1 (by omega) fun H2 w2 r2 => ?_
        (refine hF _ _ ?_; clear hF F)
        repeat' (first | ((first | refine Z.W0 ?_ | refine Z.X0 ?_); simp only [go_sem, seval]) | (refine hF _ _ ?_; clear hF F) | (refine Z.p0 ?_; simp only [St.put]) | refine Z.c0 ?_ | refine Z.d0 ?_ | refine Z.g0 ?_ | refine Z.h0 ?_ | refine Z.n0 ?_ | refine Z.q0 rfl rfl fun F hF => ?_)
        simp only [retK, ares, pack, Tryd.results65, St.get, reduceIte, Nat.reduceEqDiff, aload, arow, List.toArray, Array.toList]
        exact hk.2 (by omega) _ (fin _ w2) r2
    rw [if_neg k8] at hsz
    have b8 : (v.kind == 8) = false := beq_eq_false_iff_ne.2 k8
    by_cases k9 : v.kind = 9
    · rw [if_pos k9] at hsz
      rw [hsz] at hk
      repeat' (first | ((first | refine Z.W0 ?_ | refine Z.X0 ?_); simp only [go_sem, seval, o1, b3, b10, b4, b7, b8, k9]) | (refine hF _ _ ?_; clear hF F) | (refine Z.p0 ?_; simp only [St.put]) | refine Z.a0 ?_ | refine Z.b0 ?_ | refine Z.c0 ?_ | refine Z.h0 ?_ | refine Z.l0 ?_ | refine Z.q0 rfl rfl fun F hF => ?_ | refine Z.T0 rfl ?_ | refine Z.U0 rfl ?_)
      by_cases hn : (1 : Nat) ≤ r
      · refine take_yes (n := 1) r1 hr1 hn fun H2 w2 r2 => ?_
        (refine hF _ _ ?_; clear hF F)
        repeat' (first | ((first | refine Z.W0 ?_ | refine Z.X0 ?_); simp only [go_sem, seval]) | (refine hF _ _ ?_; clear hF F) | (refine Z.p0 ?_; simp only [St.put]) | refine Z.c0 ?_ | refine Z.d0 ?_ | refine Z.g0 ?_ | refine Z.h0 ?_ | refine Z.n0 ?_ | refine Z.q0 rfl rfl fun F hF => ?_)
        simp only [retK, ares, pack, Tryd.results65, St.get, reduceIte, Nat.reduceEqDiff, aload, arow, List.toArray, Array.toList]
        exact hk.1 (by omega) _ (fin _ w2) r2
      · refine take_no (n := 1) r1 (by omega) fun H2 w2 r2 => ?_
        (refine hF _ _ ?_; clear hF F)
        repeat' (first | ((first | refine Z.W0 ?_ | refine Z.X0 ?_); simp only [go_sem, seval]) | (refine hF _ _ ?_; clear hF F) | (refine Z.p0 ?_; simp only [St.put]) | refine Z.c0 ?_ | refine Z.d0 ?_ | refine Z.g0 ?_ | refine Z.h0 ?_ | refine Z.n0 ?_ | refine Z.q0 rfl rfl fun F hF => ?_)
        simp only [retK, ares, pack, Tryd.results65, St.get, reduceIte, Nat.reduceEqDiff, aload, arow, List.toArray, Array.toList]
        exact hk.2 (by omega) _ (fin _ w2) r2
    rw [if_neg k9] at hsz
    have b9 : (v.kind == 9) = false := beq_eq_false_iff_ne.2 k9
    by_cases k5 : v.kind = 5
    · rw [if_pos k5] at hsz
      rw [hsz] at hk
      have hkind := k5
      repeat' (first | ((first | refine Z.W0 ?_ | refine Z.X0 ?_); simp only [go_sem, seval, o1, b3, b10, b4, b7, b8, b9, k5]) | (refine hF _ _ ?_; clear hF F) | (refine Z.p0 ?_; simp only [St.put]) | refine Z.a0 ?_ | refine Z.b0 ?_ | refine Z.c0 ?_ | refine Z.h0 ?_ | refine Z.l0 ?_ | refine Z.q0 rfl rfl fun F hF => ?_ | refine Z.T0 rfl ?_ | refine Z.U0 rfl ?_)
      by_cases hn : (5 : Nat) ≤ r
      · refine take_yes (n := 5) r1 hr1 hn fun H2 w2 r2 => ?_
        have o2 := w2 _ _ o1 hq
        have hle2 := w2.le hle1 hb
        (refine hF _ _ ?_; clear hF F)
        have hlen := (h2.mono hle2).len vt23
        rw [h4.len] at hlen
        repeat' (first | ((first | refine Z.W0 ?_ | refine Z.X0 ?_); simp only [go_sem, seval, o2, hlen]) | (refine hF _ _ ?_; clear hF F) | (refine Z.p0 ?_; simp only [St.put]) | refine Z.a0 ?_ | refine Z.b0 ?_ | refine Z.c0 ?_ | refine Z.h0 ?_ | refine Z.l0 ?_ | refine Z.m0 ?_ | refine Z.q0 rfl rfl fun F hF => ?_ | refine Z.U0 rfl ?_)
        refine W_loop [0, 3, 42, 43, 44] (fun n s H' => Went1 b H2 H' ∧ ∃ k : Nat, n + k = v.doc.length ∧ ((5 + sizeD (v.doc.take k) : Nat) : Int) ≤ r ∧ room H' b (r - (5 + sizeD (v.doc.take k) : Nat)) ∧
          s = [(0, .ptr b 1 0 0), (3, .ptr q 5 0 0), (42, y), (43, .v (.int .i64 v.doc.length)), (44, .v (.int .i64 k))]) v.doc.length ?_ ?_
        · simp only [St.keep, St.get, reduceIte, Nat.reduceEqDiff]
          exact ⟨fun _ _ h _ => h, 0, by omega, by simpa [sizeD] using hn, by simpa [sizeD] using r2, rfl⟩
        rintro n s H3 ⟨w3, k, hnk, hfit, r3, rfl⟩
        cases n with
        | zero =>
          have d : decide ((k : Int) < (v.doc.length : Int)) = false := by simp; omega
          rw [List.take_of_length_le (by omega)] at hfit r3
          repeat' (first | ((first | refine Z.W0 ?_ | refine Z.X0 ?_); simp only [go_sem, seval, d]) | (refine hF _ _ ?_; clear hF F) | (refine Z.p0 ?_; simp only [St.put]) | refine Z.a0 ?_ | refine Z.b0 ?_ | refine Z.c0 ?_ | refine Z.e0 ?_ | refine Z.f0 ?_ | refine Z.h0 ?_ | refine Z.k0 ?_ | refine Z.n0 ?_ | refine Z.o0 ?_ | refine Z.q0 rfl rfl fun F hF => ?_ | refine Z.U0 rfl ?_)
          simp only [retK, ares, pack, Tryd.results65, St.get, reduceIte, Nat.reduceEqDiff, aload, arow, List.toArray, Array.toList]
          exact hk.1 hfit _ (fin _ (w2.trans w3)) r3
        | succ n =>
          have hlt : k < v.doc.length := by omega
          have d : decide ((k : Int) < (v.doc.length : Int)) = true := by simp; omega
          have hle3 := (w2.trans w3).le hle1 hb
          obtain ⟨c, p, p0, p1, hnm, hc, E⟩ := elF (h2.mono hle3) h4 hlt
          obtain ⟨_, _, _, _, _, xx, yy, _, _, rfl, g1, g2, _⟩ := hc.out
          have htk := sizeD_take hlt
          have hfull := sizeD_le v.doc (k + 1)
          repeat' (first | ((first | refine Z.W0 ?_ | refine Z.X0 ?_); simp only [go_sem, seval, d, E.idx, E.all]) | (refine hF _ _ ?_; clear hF F) | (refine Z.p0 ?_; simp only [St.put]) | refine Z.a0 ?_ | refine Z.b0 ?_ | refine Z.c0 ?_ | refine Z.h0 ?_ | refine Z.l0 ?_ | refine Z.m0 ?_ | refine Z.q0 rfl rfl fun F hF => ?_ | refine Z.T0 rfl ?_)
          (refine box_go2 fun q4 H4 e4 n4 o4 => ?_; refine hF _ _ ?_; clear hF F)
          repeat' (first | ((first | refine Z.W0 ?_ | refine Z.X0 ?_); simp only [go_sem, seval, o4, g1.cell, g2.cell]) | (refine hF _ _ ?_; clear hF F) | (refine Z.p0 ?_; simp only [St.put]) | refine Z.a0 ?_ | refine Z.b0 ?_ | refine Z.c0 ?_ | refine Z.h0 ?_ | refine Z.q0 rfl rfl fun F hF => ?_)
          have hq4 : q4 ≠ b := fun e => by rw [e, show H3 b = _ from r3] at n4; cases n4
          generalize hq : AH.set H4 q4 _ = H5; have e5 : Le H3 H5 := (by rw [← hq]; exact e4.set' n4); have o5 := (congrFun hq q4).symm; rw [AH.set_same] at o5; clear hq
          obtain ⟨S, hS⟩ : ∃ S, S = 5 + sizeD (v.doc.take k) := ⟨_, rfl⟩
          rw [← hS] at hfit r3
          have r5 : room H5 b (r - S) := e5 _ _ r3
          have w5 : Went1 b H1 H5 := (w2.trans w3).trans (Le.went e5)
          by_cases f1 : ((2 : Nat) : Int) ≤ r - S
          case neg =>
            refine take_no (n := 2) r5 (by omega) fun H6 w6 r6 => ?_
            have o6 := w6 _ _ o5 hq4
            (refine hF _ _ ?_; clear hF F)
            repeat' (first | ((first | refine Z.W0 ?_ | refine Z.X0 ?_); simp only [go_sem, seval, o6]) | (refine hF _ _ ?_; clear hF F) | (refine Z.p0 ?_; simp only [St.put]) | refine Z.a0 ?_ | refine Z.b0 ?_ | refine Z.c0 ?_ | refine Z.d0 ?_ | refine Z.g0 ?_ | refine Z.h0 ?_ | refine Z.j0 ?_ | refine Z.n0 ?_ | refine Z.q0 rfl rfl fun F hF => ?_ | refine Z.s0 rfl rfl rfl rfl ?_ | refine Z.T0 rfl ?_)
            simp only [retK, ares, pack, Tryd.results65, St.get, reduceIte, Nat.reduceEqDiff, aload, arow, List.toArray, Array.toList]
            exact hk.2 (by omega) _ (fin _ (w5.trans w6)) r6
          refine take_yes (n := 2) r5 (by omega) f1 fun H6 w6 r6 => ?_
          have o6 := w6 _ _ o5 hq4
          (refine hF _ _ ?_; clear hF F)
          repeat' (first | ((first | refine Z.W0 ?_ | refine Z.X0 ?_); simp only [go_sem, seval, o6]) | (refine hF _ _ ?_; clear hF F) | refine Z.h0 ?_ | refine Z.q0 rfl rfl fun F hF => ?_ | refine Z.r0 rfl rfl rfl rfl fun F hF => ?_)
          by_cases f2 : (v.doc[k].1.length : Int) ≤ r - S - (2 : Nat)
          case neg =>
            refine take_no (n := v.doc[k].1.length) r6 (by omega) fun H7 w7 r7 => ?_
            have o7 := w7 _ _ o6 hq4
            (refine hF _ _ ?_; clear hF F)
            repeat' (first | ((first | refine Z.W0 ?_ | refine Z.X0 ?_); simp only [go_sem, seval, o7]) | (refine hF _ _ ?_; clear hF F) | (refine Z.p0 ?_; simp only [St.put]) | refine Z.a0 ?_ | refine Z.b0 ?_ | refine Z.c0 ?_ | refine Z.d0 ?_ | refine Z.g0 ?_ | refine Z.h0 ?_ | refine Z.j0 ?_ | refine Z.n0 ?_ | refine Z.q0 rfl rfl fun F hF => ?_ | refine Z.r0 rfl rfl rfl rfl fun F hF => ?_ | refine Z.s0 rfl rfl rfl rfl ?_ | refine Z.T0 rfl ?_)
            simp only [retK, ares, pack, Tryd.results65, St.get, reduceIte, Nat.reduceEqDiff, aload, arow, List.toArray, Array.toList]
            exact hk.2 (by omega) _ (fin _ ((w5.trans w6).trans w7)) r7
          refine take_yes (n := v.doc[k].1.length) r6 (by omega) f2 fun H7 w7 r7 => ?_
          have o7 := w7 _ _ o6 hq4
          (refine hF _ _ ?_; clear hF F)
          repeat' (first | ((first | refine Z.W0 ?_ | refine Z.X0 ?_); simp only [go_sem, seval, o7]) | (refine hF _ _ ?_; clear hF F) | refine Z.h0 ?_ | refine Z.q0 rfl rfl fun F hF => ?_ | refine Z.r0 rfl rfl rfl rfl fun F hF => ?_)
          have w57 := (w5.trans w6).trans w7
          refine ih _ _ H0 H7 b _ _ _ (Nat.lt_of_lt_of_le (Val.doc_lt (List.getElem_mem hlt)) (by omega)) hc (w57.le hle1 hb) hb r7 (by omega) (by omega) ⟨fun f3 H8 w8 r8 => ?_, fun f3 H8 w8 r8 => ?_⟩
          · (refine hF _ _ ?_; clear hF F)
            have wk : IntKind.i64.wrap ((k : Int) + 1) = ((k + 1 : Nat) : Int) := by rw [wrap_of] <;> omega
            repeat' (first | ((first | refine Z.W0 ?_ | refine Z.X0 ?_); simp only [go_sem, seval, wk]) | (refine hF _ _ ?_; clear hF F) | (refine Z.p0 ?_; simp only [St.put]) | refine Z.b0 ?_ | refine Z.c0 ?_ | refine Z.f0 ?_ | refine Z.h0 ?_ | refine Z.m0 ?_ | refine Z.q0 rfl rfl fun F hF => ?_ | refine Z.r0 rfl rfl rfl rfl fun F hF => ?_ | refine Z.U0 rfl ?_)
            simp only [loopK]
            simp only [St.keep, St.get, reduceIte, Nat.reduceEqDiff]
            refine ⟨n, by omega, ((((w3.trans (Le.went e5)).trans w6).trans w7).trans w8), k + 1, by omega, by omega, ?_, rfl⟩
            have e : r - ((5 + sizeD (v.doc.take (k + 1)) : Nat) : Int) = r - S - (2 : Nat) - v.doc[k].1.length - sizeV v.doc[k].2 := by omega
            rw [e]
            exact r8
          · (refine hF _ _ ?_; clear hF F)
            repeat' (first | ((first | refine Z.W0 ?_ | refine Z.X0 ?_); simp only [go_sem, seval]) | (refine hF _ _ ?_; clear hF F) | (refine Z.p0 ?_; simp only [St.put]) | refine Z.a0 ?_ | refine Z.b0 ?_ | refine Z.c0 ?_ | refine Z.d0 ?_ | refine Z.g0 ?_ | refine Z.h0 ?_ | refine Z.j0 ?_ | refine Z.n0 ?_ | refine Z.q0 rfl rfl fun F hF => ?_ | refine Z.r0 rfl rfl rfl rfl fun F hF => ?_ | refine Z.T0 rfl ?_)
            simp only [retK, ares, pack, Tryd.results65, St.get, reduceIte, Nat.reduceEqDiff, aload, arow, List.toArray, Array.toList]
            exact hk.2 (by omega) _ (fin _ (w57.trans w8)) r8
      · refine take_no (n := 5) r1 (by omega) fun H2 w2 r2 => ?_
        (refine hF _ _ ?_; clear hF F)
        repeat' (first | ((first | refine Z.W0 ?_ | refine Z.X0 ?_); simp only [go_sem, seval]) | (refine hF _ _ ?_; clear hF F) | (refine Z.p0 ?_; simp only [St.put]) | refine Z.a0 ?_ | refine Z.b0 ?_ | refine Z.c0 ?_ | refine Z.d0 ?_ | refine Z.g0 ?_ | refine Z.h0 ?_ | refine Z.n0 ?_ | refine Z.q0 rfl rfl fun F hF => ?_ | refine Z.T0 rfl ?_)
        simp only [retK, ares, pack, Tryd.results65, St.get, reduceIte, Nat.reduceEqDiff, aload, arow, List.toArray, Array.toList]
        exact hk.2 (by omega) _ (fin _ w2) r2
    rw [if_neg k5] at hsz
    have b5 : (v.kind == 5) = false := beq_eq_false_iff_ne.2 k5
    by_cases k6 : v.kind = 6
    · rw [if_pos k6] at hsz
      rw [hsz] at hk
      repeat' (first | ((first | refine Z.W0 ?_ | refine Z.X0 ?_); simp only [go_sem, seval, o1, b3, b10, b4, b7, b8, b9, b5, k6]) | (refine hF _ _ ?_; clear hF F) | (refine Z.p0 ?_; simp only [St.put]) | refine Z.a0 ?_ | refine Z.b0 ?_ | refine Z.c0 ?_ | refine Z.h0 ?_ | refine Z.l0 ?_ | refine Z.q0 rfl rfl fun F hF => ?_ | refine Z.T0 rfl ?_ | refine Z.U0 rfl ?_)
      by_cases hn : (5 : Nat) ≤ r
      · refine take_yes (n := 5) r1 hr1 hn fun H2 w2 r2 => ?_
        have o2 := w2 _ _ o1 hq
        have hle2 := w2.le hle1 hb
        (refine hF _ _ ?_; clear hF F)
        have hlen := (h1.mono hle2).len vt22
        rw [h3.len] at hlen
        repeat' (first | ((first | refine Z.W0 ?_ | refine Z.X0 ?_); simp only [go_sem, seval, o2, hlen]) | (refine hF _ _ ?_; clear hF F) | (refine Z.p0 ?_; simp only [St.put]) | refine Z.a0 ?_ | refine Z.b0 ?_ | refine Z.c0 ?_ | refine Z.h0 ?_ | refine Z.l0 ?_ | refine Z.m0 ?_ | refine Z.q0 rfl rfl fun F hF => ?_ | refine Z.U0 rfl ?_)
        refine W_loop [0, 3, 73, 74, 75] (fun n s H' => Went1 b H2 H' ∧ ∃ k : Nat, n + k = v.list.length ∧ ((5 + sizeL 0 (v.list.take k) : Nat) : Int) ≤ r ∧ room H' b (r - (5 + sizeL 0 (v.list.take k) : Nat)) ∧
          s = [(0, .ptr b 1 0 0), (3, .ptr q 5 0 0), (73, x), (74, .v (.int .i64 v.list.length)), (75, .v (.int .i64 k))]) v.list.length ?_ ?_
        · simp only [St.keep, St.get, reduceIte, Nat.reduceEqDiff]
          exact ⟨fun _ _ h _ => h, 0, by omega, by simpa [sizeL] using hn, by simpa [sizeL] using r2, rfl⟩
        rintro n s H3 ⟨w3, k, hnk, hfit, r3, rfl⟩
        cases n with
        | zero =>
          have d : decide ((k : Int) < (v.list.length : Int)) = false := by simp; omega
          rw [List.take_of_length_le (by omega)] at hfit r3
          repeat' (first | ((first | refine Z.W0 ?_ | refine Z.X0 ?_); simp only [go_sem, seval, d]) | (refine hF _ _ ?_; clear hF F) | (refine Z.p0 ?_; simp only [St.put]) | refine Z.a0 ?_ | refine Z.b0 ?_ | refine Z.c0 ?_ | refine Z.e0 ?_ | refine Z.f0 ?_ | refine Z.h0 ?_ | refine Z.k0 ?_ | refine Z.n0 ?_ | refine Z.o0 ?_ | refine Z.q0 rfl rfl fun F hF => ?_ | refine Z.U0 rfl ?_)
          simp only [retK, ares, pack, Tryd.results65, St.get, reduceIte, Nat.reduceEqDiff, aload, arow, List.toArray, Array.toList]
          exact hk.1 hfit _ (fin _ (w2.trans w3)) r3
        | succ n =>
          have hlt : k < v.list.length := by omega
          have d : decide ((k : Int) < (v.list.length : Int)) = true := by simp; omega
          have hle3 := (w2.trans w3).le hle1 hb
          obtain ⟨c, p, hc, E⟩ := elV (h1.mono hle3) h3 hlt
          obtain ⟨_, _, _, _, _, xx, yy, _, _, rfl, g1, g2, _⟩ := hc.out
          have htk := sizeL_take hlt
          have hfull := sizeL_le v.list (k + 1)
          have hit := itoa_short (k := k) (by omega)
          repeat' (first | ((first | refine Z.W0 ?_ | refine Z.X0 ?_); simp only [go_sem, seval, d, E.idx, E.load]) | (refine hF _ _ ?_; clear hF F) | (refine Z.p0 ?_; simp only [St.put]) | refine Z.a0 ?_ | refine Z.b0 ?_ | refine Z.c0 ?_ | refine Z.h0 ?_ | refine Z.l0 ?_ | refine Z.m0 ?_ | refine Z.q0 rfl rfl fun F hF => ?_ | refine Z.T0 rfl ?_)
          (refine box_go2 fun q4 H4 e4 n4 o4 => ?_; refine hF _ _ ?_; clear hF F)
          repeat' (first | ((first | refine Z.W0 ?_ | refine Z.X0 ?_); simp only [go_sem, seval, o4, g1.cell, g2.cell]) | (refine hF _ _ ?_; clear hF F) | (refine Z.p0 ?_; simp only [St.put]) | refine Z.a0 ?_ | refine Z.b0 ?_ | refine Z.c0 ?_ | refine Z.h0 ?_ | refine Z.q0 rfl rfl fun F hF => ?_)
          have hq4 : q4 ≠ b := fun e => by rw [e, show H3 b = _ from r3] at n4; cases n4
          generalize hq : AH.set H4 q4 _ = H5; have e5 : Le H3 H5 := (by rw [← hq]; exact e4.set' n4); have o5 := (congrFun hq q4).symm; rw [AH.set_same] at o5; clear hq
          refine itoa_ok (by omega) (by omega) ?_
          (refine hF _ _ ?_; clear hF F)
          obtain ⟨S, hS⟩ : ∃ S, S = 5 + sizeL 0 (v.list.take k) := ⟨_, rfl⟩
          rw [← hS] at hfit r3
          have r5 : room H5 b (r - S) := e5 _ _ r3
          have w5 : Went1 b H1 H5 := (w2.trans w3).trans (Le.went e5)
          have wl : IntKind.i64.wrap (2 + ((Lib.itoa (k : Int)).length : Int)) = ((2 + (Lib.itoa (k : Int)).length : Nat) : Int) := by rw [wrap_of] <;> omega
          repeat' (first | ((first | refine Z.W0 ?_ | refine Z.X0 ?_); simp only [go_sem, seval, wl]) | (refine hF _ _ ?_; clear hF F) | refine Z.h0 ?_ | refine Z.q0 rfl rfl fun F hF => ?_)
          by_cases f1 : ((2 + (Lib.itoa (k : Int)).length : Nat) : Int) ≤ r - S
          case neg =>
            refine take_no (n := 2 + (Lib.itoa (k : Int)).length) r5 (by omega) fun H6 w6 r6 => ?_
            have o6 := w6 _ _ o5 hq4
            (refine hF _ _ ?_; clear hF F)
            repeat' (first | ((first | refine Z.W0 ?_ | refine Z.X0 ?_); simp only [go_sem, seval, o6]) | (refine hF _ _ ?_; clear hF F) | (refine Z.p0 ?_; simp only [St.put]) | refine Z.a0 ?_ | refine Z.b0 ?_ | refine Z.c0 ?_ | refine Z.d0 ?_ | refine Z.g0 ?_ | refine Z.h0 ?_ | refine Z.j0 ?_ | refine Z.n0 ?_ | refine Z.q0 rfl rfl fun F hF => ?_ | refine Z.s0 rfl rfl rfl rfl ?_ | refine Z.T0 rfl ?_)
            simp only [retK, ares, pack, Tryd.results65, St.get, reduceIte, Nat.reduceEqDiff, aload, arow, List.toArray, Array.toList]
            exact hk.2 (by omega) _ (fin _ (w5.trans w6)) r6
          refine take_yes (n := 2 + (Lib.itoa (k : Int)).length) r5 (by omega) f1 fun H6 w6 r6 => ?_
          have o6 := w6 _ _ o5 hq4
          (refine hF _ _ ?_; clear hF F)
          repeat' (first | ((first | refine Z.W0 ?_ | refine Z.X0 ?_); simp only [go_sem, seval, o6]) | (refine hF _ _ ?_; clear hF F) | refine Z.h0 ?_ | refine Z.q0 rfl rfl fun F hF => ?_ | refine Z.r0 rfl rfl rfl rfl fun F hF => ?_)
          have w56 := w5.trans w6
          refine ih _ _ H0 H6 b _ _ _ (Nat.lt_of_lt_of_le (Val.list_lt (List.getElem_mem hlt)) (by omega)) hc (w56.le hle1 hb) hb r6 (by omega) (by omega) ⟨fun f3 H8 w8 r8 => ?_, fun f3 H8 w8 r8 => ?_⟩
          · (refine hF _ _ ?_; clear hF F)
            have wk : IntKind.i64.wrap ((k : Int) + 1) = ((k + 1 : Nat) : Int) := by rw [wrap_of] <;> omega
            repeat' (first | ((first | refine Z.W0 ?_ | refine Z.X0 ?_); simp only [go_sem, seval, wk]) | (refine hF _ _ ?_; clear hF F) | (refine Z.p0 ?_; simp only [St.put]) | refine Z.b0 ?_ | refine Z.c0 ?_ | refine Z.f0 ?_ | refine Z.h0 ?_ | refine Z.m0 ?_ | refine Z.q0 rfl rfl fun F hF => ?_ | refine Z.r0 rfl rfl rfl rfl fun F hF => ?_ | refine Z.U0 rfl ?_)
            simp only [loopK]
            simp only [St.keep, St.get, reduceIte, Nat.reduceEqDiff]
            refine ⟨n, by omega, (((w3.trans (Le.went e5)).trans w6).trans w8), k + 1, by omega, by omega, ?_, rfl⟩
            have e : r - ((5 + sizeL 0 (v.list.take (k + 1)) : Nat) : Int) = r - S - ((2 + (Lib.itoa (k : Int)).length : Nat) : Int) - sizeV v.list[k] := by omega
            rw [e]
            exact r8
          · (refine hF _ _ ?_; clear hF F)
            repeat' (first | ((first | refine Z.W0 ?_ | refine Z.X0 ?_); simp only [go_sem, seval]) | (refine hF _ _ ?_; clear hF F) | (refine Z.p0 ?_; simp only [St.put]) | refine Z.a0 ?_ | refine Z.b0 ?_ | refine Z.c0 ?_ | refine Z.d0 ?_ | refine Z.g0 ?_ | refine Z.h0 ?_ | refine Z.j0 ?_ | refine Z.n0 ?_ | refine Z.q0 rfl rfl fun F hF => ?_ | refine Z.r0 rfl rfl rfl rfl fun F hF => ?_ | refine Z.T0 rfl ?_)
            simp only [retK, ares, pack, Tryd.results65, St.get, reduceIte, Nat.reduceEqDiff, aload, arow, List.toArray, Array.toList]
            exact hk.2 (by omega) _ (fin _ (w56.trans w8)) r8
      · refine take_no (n := 5) r1 (by omega) fun H2 w2 r2 => ?_
        (refine hF _ _ ?_; clear hF F)
        repeat' (first | ((first | refine Z.W0 ?_ | refine Z.X0 ?_); simp only [go_sem, seval]) | (refine hF _ _ ?_; clear hF F) | (refine Z.p0 ?_; simp only [St.put]) | refine Z.a0 ?_ | refine Z.b0 ?_ | refine Z.c0 ?_ | refine Z.d0 ?_ | refine Z.g0 ?_ | refine Z.h0 ?_ | refine Z.n0 ?_ | refine Z.q0 rfl rfl fun F hF => ?_ | refine Z.T0 rfl ?_)
        simp only [retK, ares, pack, Tryd.results65, St.get, reduceIte, Nat.reduceEqDiff, aload, arow, List.toArray, Array.toList]
        exact hk.2 (by omega) _ (fin _ w2) r2
    rw [if_neg k6] at hsz
    have b6 : (v.kind == 6) = false := beq_eq_false_iff_ne.2 k6
    rw [hsz] at hk
    repeat' (first | ((first | refine Z.W0 ?_ | refine Z.X0 ?_); simp only [go_sem, seval, o1, b3, b10, b4, b7, b8, b9, b5, b6]) | (refine hF _ _ ?_; clear hF F) | (refine Z.p0 ?_; simp only [St.put]) | refine Z.a0 ?_ | refine Z.b0 ?_ | refine Z.c0 ?_ | refine Z.f0 ?_ | refine Z.h0 ?_ | refine Z.l0 ?_ | refine Z.m0 ?_ | refine Z.n0 ?_ | refine Z.q0 rfl rfl fun F hF => ?_ | refine Z.U0 rfl ?_)
    simp only [retK, ares, pack, Tryd.results65, St.get, reduceIte, Nat.reduceEqDiff, aload, arow, List.toArray, Array.toList]
    exact hk.1 (by omega) _ (fin _ fun _ _ h _ => h) (by simpa using r1)

theorem size_ok {v : Val} {cs : List AV} (hv : RdV H v cs) (hk : ∀ H', Le H H' → K (.v (.int .i64 (if sizeV v ≤ 65536 then (sizeV v : Int) else 65537))) H') : CallX Tryd.prog 52 [.agg cs] H K J := by
  obtain ⟨k1, i1, t1, l1, d1, x, y, la, da, rfl, h1, h2, h3, h4⟩ := hv.out
  refine CallX.of_body Tryd.func52 nm52 rfl ?_; simp only [Tryd.ntmps52, List.length_cons, List.length_nil, argSt, Nat.reduceAdd, Nat.reduceSub]
  repeat' (first | ((first | refine Z.W0 ?_ | refine Z.X0 ?_); simp only [go_sem, seval, h1.cell, h2.cell]) | refine Z.a0 ?_ | refine Z.b0 ?_ | refine Z.q0 rfl rfl fun F hF => ?_)
  (refine box_go2 fun q H1 e1 n1 o1 => ?_; refine hF _ _ ?_; clear hF F)
  repeat' (first | ((first | refine Z.W0 ?_ | refine Z.X0 ?_); simp only [go_sem, seval]) | (refine hF _ _ ?_; clear hF F) | (refine Z.p0 ?_; simp only [St.put]) | refine Z.a0 ?_ | refine Z.b0 ?_ | refine Z.c0 ?_ | refine Z.h0 ?_ | refine Z.q0 rfl rfl fun F hF => ?_)
  (refine box_go2 fun b H2 e2 n2 o2 => ?_; refine hF _ _ ?_; clear hF F)
  have o1' := e2 _ _ o1
  repeat' (first | ((first | refine Z.W0 ?_ | refine Z.X0 ?_); simp only [go_sem, seval, o1']) | (refine hF _ _ ?_; clear hF F) | (refine Z.p0 ?_; simp only [St.put]) | refine Z.a0 ?_ | refine Z.b0 ?_ | refine Z.c0 ?_ | refine Z.h0 ?_ | refine Z.q0 rfl rfl fun F hF => ?_)
  refine weigh_ok _ v _ H1 H2 b 65536 _ _ (Nat.lt_succ_self _) (hv.mono e1) e2 n2 o2 (by decide) (by decide) ⟨fun f H3 w3 r3 => ?_, fun f H3 w3 r3 => ?_⟩
  · (refine hF _ _ ?_; clear hF F)
    rw [if_pos (by omega)] at hk
    repeat' (first | ((first | refine Z.W0 ?_ | refine Z.X0 ?_); simp only [go_sem, seval, show H3 b = _ from r3]; try (simp (disch := omega) only [Z.w0]; try simp only [go_sem, seval, show H3 b = _ from r3])) | (refine hF _ _ ?_; clear hF F) | (refine Z.p0 ?_; simp only [St.put]) | refine Z.a0 ?_ | refine Z.b0 ?_ | refine Z.c0 ?_ | refine Z.h0 ?_ | refine Z.m0 ?_ | refine Z.n0 ?_ | refine Z.q0 rfl rfl fun F hF => ?_ | refine Z.U0 rfl ?_)
    simp only [retK, ares, pack, Tryd.results52, St.get, reduceIte, Nat.reduceEqDiff, aload, arow, List.toArray, Array.toList]
    have e : (65536 : Int) - (65536 - sizeV v) = sizeV v := by omega
    rw [e]
    exact hk _ (e1.trans (w3.le e2 n2))
  · (refine hF _ _ ?_; clear hF F)
    rw [if_neg (by omega)] at hk
    repeat' (first | ((first | refine Z.W0 ?_ | refine Z.X0 ?_); simp only [go_sem, seval]) | (refine hF _ _ ?_; clear hF F) | (refine Z.p0 ?_; simp only [St.put]) | refine Z.a0 ?_ | refine Z.b0 ?_ | refine Z.c0 ?_ | refine Z.d0 ?_ | refine Z.h0 ?_ | refine Z.n0 ?_ | refine Z.q0 rfl rfl fun F hF => ?_ | refine Z.T0 rfl ?_)
    simp only [retK, ares, pack, Tryd.results52, St.get, reduceIte, Nat.reduceEqDiff, aload, arow, List.toArray, Array.toList]
    exact hk _ (e1.trans (w3.le e2 n2))
end Go.Proofs.YtboojmppmaepmaaDoor
/- May a value be? The walks. -/
namespace Go.Proofs.YtboojmppmaepmaaDoor
set_option maxHeartbeats 8000000
set_option linter.all false
open Go Go.Fw
attribute [local irreducible] Reg RegD seqK blockK loopK retK
set_option maxRecDepth 10000

variable {H : AH} {K : AV → AH → Prop} {J : Value → AH → Prop}

theorem bs_nil_iff (t : Bs) : (t = []) = (t.length = 0) := by rw [List.length_eq_zero_iff]
theorem wrong_ok {v : Val} {cs : List AV} (hv : RdV H v cs) (hk : ∀ H', Le H H' → K (.v (.bool (wrongV v))) H') : CallX Tryd.prog 66 [.agg cs] H K J := by
  obtain ⟨k1, i1, t1, l1, d1, x, y, la, da, rfl, h1, h2, h3, h4⟩ := hv.out
  have hk' : ∀ H' B, Le H H' → B = wrongV v → K (.v (.bool B)) H' := fun H' B hle e => by rw [e]; exact hk H' hle
  refine CallX.of_body Tryd.func66 nm66 rfl ?_; simp only [Tryd.ntmps66, List.length_cons, List.length_nil, argSt, Nat.reduceAdd, Nat.reduceSub]
  repeat' (first | ((first | refine Z.W0 ?_ | refine Z.X0 ?_); simp only [go_sem, seval, h1.cell, h2.cell]) | refine Z.a0 ?_ | refine Z.b0 ?_ | refine Z.q0 rfl rfl fun F hF => ?_)
  (refine box_go2 fun q H1 e1 n1 o1 => ?_; refine hF _ _ ?_; clear hF F)
  repeat' (first | ((first | refine Z.W0 ?_ | refine Z.X0 ?_); simp only [go_sem, seval, o1]) | (refine hF _ _ ?_; clear hF F) | (refine Z.p0 ?_; simp only [St.put]) | refine Z.a0 ?_ | refine Z.b0 ?_ | refine Z.c0 ?_ | refine Z.h0 ?_ | refine Z.q0 rfl rfl fun F hF => ?_)
  (refine box_go2 fun b H2 e2 n2 o2 => ?_; refine hF _ _ ?_; clear hF F)
  have o1' := e2 _ _ o1
  have hqb : b ≠ q := fun e => by rw [← e, n2] at o1; cases o1
  have e12 := e1.trans e2
  have nb : H b = none := e1.none n2
  have lx := (h1.mono e12).len vt22
  have ly := (h2.mono e12).len vt23
  rw [h3.len] at lx
  rw [h4.len] at ly
  have hD : (v.doc = []) = (v.doc.length = 0) := by rw [List.length_eq_zero_iff]
  have hL : (v.list = []) = (v.list.length = 0) := by rw [List.length_eq_zero_iff]
  have key : ∀ (p : Prop) [Decidable p], (decide p = true) = p := fun p _ => by simp
  by_cases g1 : v.kind = 1
  · repeat' (first | ((first | refine Z.W0 ?_ | refine Z.X0 ?_); simp only [go_sem, seval, o1', o2, lx, ly, h1.cell, h2.cell, g1]; try (simp (disch := omega) only [Z.w0]; try simp only [go_sem, seval, o1', o2, lx, ly, h1.cell, h2.cell, g1])) | (refine hF _ _ ?_; clear hF F) | (refine Z.p0 ?_; simp only [St.put]) | refine Z.a0 ?_ | refine Z.b0 ?_ | refine Z.c0 ?_ | refine Z.f0 ?_ | refine Z.h0 ?_ | refine Z.l0 ?_ | refine Z.m0 ?_ | refine Z.n0 ?_ | refine Z.q0 rfl rfl fun F hF => ?_ | refine Z.r0 rfl rfl rfl rfl fun F hF => ?_ | refine Z.s0 rfl rfl rfl rfl ?_ | refine Z.T0 rfl ?_ | (refine Z.t0 rfl rfl rfl rfl ?_ ?_ <;> (intro hg; simp only [hg, Bool.not_true, Bool.not_false]; simp only [Z.x0] at hg)))
    all_goals
      simp only [retK, ares, pack, Tryd.results66, St.get, reduceIte, Nat.reduceEqDiff, aload, arow, List.toArray, Array.toList]
      refine hk' _ _ (e12.set' nb) ?_
      clear hk' hk
      rw [Bool.eq_iff_iff]
      try simp only [bs_nil_iff] at *
      simp only [wrongV, hD, hL, bs_nil_iff, g1, Bool.or_eq_true, Bool.and_eq_true, decide_eq_true_eq, Bool.not_eq_true', Bool.or_eq_false_iff, decide_eq_false_iff_not, ne_eq, Bool.false_eq_true, true_iff, false_iff, iff_true, iff_false, not_true_eq_false, true_and, and_true, false_and, and_false, false_or, or_false, true_or, or_true, reduceCtorEq] <;> omega
  have b1 : (v.kind == 1) = false := beq_eq_false_iff_ne.2 g1
  by_cases g2 : v.kind = 2
  · repeat' (first | ((first | refine Z.W0 ?_ | refine Z.X0 ?_); simp only [go_sem, seval, o1', o2, lx, ly, h1.cell, h2.cell, b1, g2]; try (simp (disch := omega) only [Z.w0]; try simp only [go_sem, seval, o1', o2, lx, ly, h1.cell, h2.cell, b1, g2])) | (refine hF _ _ ?_; clear hF F) | (refine Z.p0 ?_; simp only [St.put]) | refine Z.a0 ?_ | refine Z.b0 ?_ | refine Z.c0 ?_ | refine Z.f0 ?_ | refine Z.h0 ?_ | refine Z.l0 ?_ | refine Z.m0 ?_ | refine Z.n0 ?_ | refine Z.q0 rfl rfl fun F hF => ?_ | refine Z.r0 rfl rfl rfl rfl fun F hF => ?_ | refine Z.s0 rfl rfl rfl rfl ?_ | refine Z.T0 rfl ?_ | refine Z.U0 rfl ?_ | (refine Z.t0 rfl rfl rfl rfl ?_ ?_ <;> (intro hg; simp only [hg, Bool.not_true, Bool.not_false]; simp only [Z.x0] at hg)))
    all_goals
      simp only [retK, ares, pack, Tryd.results66, St.get, reduceIte, Nat.reduceEqDiff, aload, arow, List.toArray, Array.toList]
      refine hk' _ _ (e12.set' nb) ?_
      clear hk' hk
      rw [Bool.eq_iff_iff]
      try simp only [bs_nil_iff] at *
      simp only [wrongV, hD, hL, bs_nil_iff, g2, Bool.or_eq_true, Bool.and_eq_true, decide_eq_true_eq, Bool.not_eq_true', Bool.or_eq_false_iff, decide_eq_false_iff_not, ne_eq, Bool.false_eq_true, true_iff, false_iff, iff_true, iff_false, not_true_eq_false, true_and, and_true, false_and, and_false, false_or, or_false, true_or, or_true, reduceCtorEq] <;> omega
  have b2 : (v.kind == 2) = false := beq_eq_false_iff_ne.2 g2
  by_cases g11 : v.kind = 11
  · repeat' (first | ((first | refine Z.W0 ?_ | refine Z.X0 ?_); simp only [go_sem, seval, o1', o2, lx, ly, h1.cell, h2.cell, b1, b2, g11]; try (simp (disch := omega) only [Z.w0]; try simp only [go_sem, seval, o1', o2, lx, ly, h1.cell, h2.cell, b1, b2, g11])) | (refine hF _ _ ?_; clear hF F) | (refine Z.p0 ?_; simp only [St.put]) | refine Z.a0 ?_ | refine Z.b0 ?_ | refine Z.c0 ?_ | refine Z.f0 ?_ | refine Z.h0 ?_ | refine Z.l0 ?_ | refine Z.m0 ?_ | refine Z.n0 ?_ | refine Z.q0 rfl rfl fun F hF => ?_ | refine Z.r0 rfl rfl rfl rfl fun F hF => ?_ | refine Z.s0 rfl rfl rfl rfl ?_ | refine Z.T0 rfl ?_ | refine Z.U0 rfl ?_ | (refine Z.t0 rfl rfl rfl rfl ?_ ?_ <;> (intro hg; simp only [hg, Bool.not_true, Bool.not_false]; simp only [Z.x0] at hg)))
    all_goals
      simp only [retK, ares, pack, Tryd.results66, St.get, reduceIte, Nat.reduceEqDiff, aload, arow, List.toArray, Array.toList]
      refine hk' _ _ (e12.set' nb) ?_
      clear hk' hk
      rw [Bool.eq_iff_iff]
      try simp only [bs_nil_iff] at *
      simp only [wrongV, hD, hL, bs_nil_iff, g11, Bool.or_eq_true, Bool.and_eq_true, decide_eq_true_eq, Bool.not_eq_true', Bool.or_eq_false_iff, decide_eq_false_iff_not, ne_eq, Bool.false_eq_true, true_iff, false_iff, iff_true, iff_false, not_true_eq_false, true_and, and_true, false_and, and_false, false_or, or_false, true_or, or_true, reduceCtorEq] <;> omega
  have b11 : (v.kind == 11) = false := beq_eq_false_iff_ne.2 g11
  by_cases g3 : v.kind = 3
  · repeat' (first | ((first | refine Z.W0 ?_ | refine Z.X0 ?_); simp only [go_sem, seval, o1', o2, lx, ly, h1.cell, h2.cell, b1, b2, b11, g3]; try (simp (disch := omega) only [Z.w0]; try simp only [go_sem, seval, o1', o2, lx, ly, h1.cell, h2.cell, b1, b2, b11, g3])) | (refine hF _ _ ?_; clear hF F) | (refine Z.p0 ?_; simp only [St.put]) | refine Z.a0 ?_ | refine Z.b0 ?_ | refine Z.c0 ?_ | refine Z.f0 ?_ | refine Z.h0 ?_ | refine Z.l0 ?_ | refine Z.m0 ?_ | refine Z.n0 ?_ | refine Z.q0 rfl rfl fun F hF => ?_ | refine Z.r0 rfl rfl rfl rfl fun F hF => ?_ | refine Z.s0 rfl rfl rfl rfl ?_ | refine Z.T0 rfl ?_ | refine Z.U0 rfl ?_ | (refine Z.t0 rfl rfl rfl rfl ?_ ?_ <;> (intro hg; simp only [hg, Bool.not_true, Bool.not_false]; simp only [Z.x0] at hg)))
    all_goals
      simp only [retK, ares, pack, Tryd.results66, St.get, reduceIte, Nat.reduceEqDiff, aload, arow, List.toArray, Array.toList]
      refine hk' _ _ (e12.set' nb) ?_
      clear hk' hk
      rw [Bool.eq_iff_iff]
      try simp only [bs_nil_iff] at *
      simp only [wrongV, hD, hL, bs_nil_iff, g3, Bool.or_eq_true, Bool.and_eq_true, decide_eq_true_eq, Bool.not_eq_true', Bool.or_eq_false_iff, decide_eq_false_iff_not, ne_eq, Bool.false_eq_true, true_iff, false_iff, iff_true, iff_false, not_true_eq_false, true_and, and_true, false_and, and_false, false_or, or_false, true_or, or_true, reduceCtorEq] <;> omega
  have b3 : (v.kind == 3) = false := beq_eq_false_iff_ne.2 g3
  by_cases g10 : v.kind = 10
  · repeat' (first | ((first | refine Z.W0 ?_ | refine Z.X0 ?_); simp only [go_sem, seval, o1', o2, lx, ly, h1.cell, h2.cell, b1, b2, b11, b3, g10]; try (simp (disch := omega) only [Z.w0]; try simp only [go_sem, seval, o1', o2, lx, ly, h1.cell, h2.cell, b1, b2, b11, b3, g10])) | (refine hF _ _ ?_; clear hF F) | (refine Z.p0 ?_; simp only [St.put]) | refine Z.a0 ?_ | refine Z.b0 ?_ | refine Z.c0 ?_ | refine Z.f0 ?_ | refine Z.h0 ?_ | refine Z.l0 ?_ | refine Z.n0 ?_ | refine Z.q0 rfl rfl fun F hF => ?_ | refine Z.r0 rfl rfl rfl rfl fun F hF => ?_ | refine Z.s0 rfl rfl rfl rfl ?_ | refine Z.T0 rfl ?_ | refine Z.U0 rfl ?_ | (refine Z.t0 rfl rfl rfl rfl ?_ ?_ <;> (intro hg; simp only [hg, Bool.not_true, Bool.not_false]; simp only [Z.x0] at hg)))
    all_goals
      simp only [retK, ares, pack, Tryd.results66, St.get, reduceIte, Nat.reduceEqDiff, aload, arow, List.toArray, Array.toList]
      refine hk' _ _ (e12.set' nb) ?_
      clear hk' hk
      rw [Bool.eq_iff_iff]
      try simp only [bs_nil_iff] at *
      simp only [wrongV, hD, hL, bs_nil_iff, g10, Bool.or_eq_true, Bool.and_eq_true, decide_eq_true_eq, Bool.not_eq_true', Bool.or_eq_false_iff, decide_eq_false_iff_not, ne_eq, Bool.false_eq_true, true_iff, false_iff, iff_true, iff_false, not_true_eq_false, true_and, and_true, false_and, and_false, false_or, or_false, true_or, or_true, reduceCtorEq] <;> omega
  have b10 : (v.kind == 10) = false := beq_eq_false_iff_ne.2 g10
  by_cases g9 : v.kind = 9
  · repeat' (first | ((first | refine Z.W0 ?_ | refine Z.X0 ?_); simp only [go_sem, seval, o1', o2, lx, ly, h1.cell, h2.cell, b1, b2, b11, b3, b10, g9]; try (simp (disch := omega) only [Z.w0]; try simp only [go_sem, seval, o1', o2, lx, ly, h1.cell, h2.cell, b1, b2, b11, b3, b10, g9])) | (refine hF _ _ ?_; clear hF F) | (refine Z.p0 ?_; simp only [St.put]) | refine Z.a0 ?_ | refine Z.b0 ?_ | refine Z.c0 ?_ | refine Z.f0 ?_ | refine Z.h0 ?_ | refine Z.l0 ?_ | refine Z.n0 ?_ | refine Z.q0 rfl rfl fun F hF => ?_ | refine Z.r0 rfl rfl rfl rfl fun F hF => ?_ | refine Z.s0 rfl rfl rfl rfl ?_ | refine Z.T0 rfl ?_ | refine Z.U0 rfl ?_ | (refine Z.t0 rfl rfl rfl rfl ?_ ?_ <;> (intro hg; simp only [hg, Bool.not_true, Bool.not_false]; simp only [Z.x0] at hg)))
    all_goals
      simp only [retK, ares, pack, Tryd.results66, St.get, reduceIte, Nat.reduceEqDiff, aload, arow, List.toArray, Array.toList]
      refine hk' _ _ (e12.set' nb) ?_
      clear hk' hk
      rw [Bool.eq_iff_iff]
      try simp only [bs_nil_iff] at *
      simp only [wrongV, hD, hL, bs_nil_iff, g9, Bool.or_eq_true, Bool.and_eq_true, decide_eq_true_eq, Bool.not_eq_true', Bool.or_eq_false_iff, decide_eq_false_iff_not, ne_eq, Bool.false_eq_true, true_iff, false_iff, iff_true, iff_false, not_true_eq_false, true_and, and_true, false_and, and_false, false_or, or_false, true_or, or_true, reduceCtorEq] <;> omega
  have b9 : (v.kind == 9) = false := beq_eq_false_iff_ne.2 g9
  by_cases g4 : v.kind = 4
  · repeat' (first | ((first | refine Z.W0 ?_ | refine Z.X0 ?_); simp only [go_sem, seval, o1', o2, lx, ly, h1.cell, h2.cell, b1, b2, b11, b3, b10, b9, g4]; try (simp (disch := omega) only [Z.w0]; try simp only [go_sem, seval, o1', o2, lx, ly, h1.cell, h2.cell, b1, b2, b11, b3, b10, b9, g4])) | (refine hF _ _ ?_; clear hF F) | (refine Z.p0 ?_; simp only [St.put]) | refine Z.a0 ?_ | refine Z.b0 ?_ | refine Z.c0 ?_ | refine Z.h0 ?_ | refine Z.l0 ?_ | refine Z.q0 rfl rfl fun F hF => ?_ | refine Z.T0 rfl ?_ | refine Z.U0 rfl ?_)
    refine valid_ok t1 ?_
    (refine hF _ _ ?_; clear hF F)
    cases hval : Lib.validD v.text
    all_goals
      repeat' (first | ((first | refine Z.W0 ?_ | refine Z.X0 ?_); simp only [go_sem, seval, o1', o2, lx, ly, h1.cell, h2.cell]) | (refine hF _ _ ?_; clear hF F) | (refine Z.p0 ?_; simp only [St.put]) | refine Z.a0 ?_ | refine Z.b0 ?_ | refine Z.c0 ?_ | refine Z.f0 ?_ | refine Z.h0 ?_ | refine Z.n0 ?_ | refine Z.q0 rfl rfl fun F hF => ?_ | refine Z.r0 rfl rfl rfl rfl fun F hF => ?_ | refine Z.s0 rfl rfl rfl rfl ?_ | (refine Z.t0 rfl rfl rfl rfl ?_ ?_ <;> (intro hg; simp only [hg, Bool.not_true, Bool.not_false]; simp only [Z.x0] at hg)))
    all_goals
      simp only [retK, ares, pack, Tryd.results66, St.get, reduceIte, Nat.reduceEqDiff, aload, arow, List.toArray, Array.toList]
      refine hk' _ _ (e12.set' nb) ?_
      clear hk' hk
      rw [Bool.eq_iff_iff]
      try simp only [bs_nil_iff] at *
      simp only [wrongV, hD, hL, bs_nil_iff, g4, hval, Bool.or_eq_true, Bool.and_eq_true, decide_eq_true_eq, Bool.not_eq_true', Bool.or_eq_false_iff, decide_eq_false_iff_not, ne_eq, Bool.false_eq_true, true_iff, false_iff, iff_true, iff_false, not_true_eq_false, true_and, and_true, false_and, and_false, false_or, or_false, true_or, or_true, reduceCtorEq] <;> omega
  have b4 : (v.kind == 4) = false := beq_eq_false_iff_ne.2 g4
  by_cases g7 : v.kind = 7
  · repeat' (first | ((first | refine Z.W0 ?_ | refine Z.X0 ?_); simp only [go_sem, seval, o1', o2, lx, ly, h1.cell, h2.cell, b1, b2, b11, b3, b10, b9, b4, g7]; try (simp (disch := omega) only [Z.w0]; try simp only [go_sem, seval, o1', o2, lx, ly, h1.cell, h2.cell, b1, b2, b11, b3, b10, b9, b4, g7])) | (refine hF _ _ ?_; clear hF F) | (refine Z.p0 ?_; simp only [St.put]) | refine Z.a0 ?_ | refine Z.b0 ?_ | refine Z.c0 ?_ | refine Z.f0 ?_ | refine Z.h0 ?_ | refine Z.l0 ?_ | refine Z.n0 ?_ | refine Z.q0 rfl rfl fun F hF => ?_ | refine Z.r0 rfl rfl rfl rfl fun F hF => ?_ | refine Z.s0 rfl rfl rfl rfl ?_ | refine Z.T0 rfl ?_ | refine Z.U0 rfl ?_ | (refine Z.t0 rfl rfl rfl rfl ?_ ?_ <;> (intro hg; simp only [hg, Bool.not_true, Bool.not_false]; simp only [Z.x0] at hg)))
    all_goals
      simp only [retK, ares, pack, Tryd.results66, St.get, reduceIte, Nat.reduceEqDiff, aload, arow, List.toArray, Array.toList]
      refine hk' _ _ (e12.set' nb) ?_
      clear hk' hk
      rw [Bool.eq_iff_iff]
      try simp only [bs_nil_iff] at *
      simp only [wrongV, hD, hL, bs_nil_iff, g7, Bool.or_eq_true, Bool.and_eq_true, decide_eq_true_eq, Bool.not_eq_true', Bool.or_eq_false_iff, decide_eq_false_iff_not, ne_eq, Bool.false_eq_true, true_iff, false_iff, iff_true, iff_false, not_true_eq_false, true_and, and_true, false_and, and_false, false_or, or_false, true_or, or_true, reduceCtorEq] <;> omega
  have b7 : (v.kind == 7) = false := beq_eq_false_iff_ne.2 g7
  by_cases g8 : v.kind = 8
  · repeat' (first | ((first | refine Z.W0 ?_ | refine Z.X0 ?_); simp only [go_sem, seval, o1', o2, lx, ly, h1.cell, h2.cell, b1, b2, b11, b3, b10, b9, b4, b7, g8]; try (simp (disch := omega) only [Z.w0]; try simp only [go_sem, seval, o1', o2, lx, ly, h1.cell, h2.cell, b1, b2, b11, b3, b10, b9, b4, b7, g8])) | (refine hF _ _ ?_; clear hF F) | (refine Z.p0 ?_; simp only [St.put]) | refine Z.a0 ?_ | refine Z.b0 ?_ | refine Z.c0 ?_ | refine Z.f0 ?_ | refine Z.h0 ?_ | refine Z.l0 ?_ | refine Z.n0 ?_ | refine Z.q0 rfl rfl fun F hF => ?_ | refine Z.r0 rfl rfl rfl rfl fun F hF => ?_ | refine Z.s0 rfl rfl rfl rfl ?_ | refine Z.T0 rfl ?_ | refine Z.U0 rfl ?_ | (refine Z.t0 rfl rfl rfl rfl ?_ ?_ <;> (intro hg; simp only [hg, Bool.not_true, Bool.not_false]; simp only [Z.x0] at hg)))
    all_goals
      simp only [retK, ares, pack, Tryd.results66, St.get, reduceIte, Nat.reduceEqDiff, aload, arow, List.toArray, Array.toList]
      refine hk' _ _ (e12.set' nb) ?_
      clear hk' hk
      rw [Bool.eq_iff_iff]
      try simp only [bs_nil_iff] at *
      simp only [wrongV, hD, hL, bs_nil_iff, g8, Bool.or_eq_true, Bool.and_eq_true, decide_eq_true_eq, Bool.not_eq_true', Bool.or_eq_false_iff, decide_eq_false_iff_not, ne_eq, Bool.false_eq_true, true_iff, false_iff, iff_true, iff_false, not_true_eq_false, true_and, and_true, false_and, and_false, false_or, or_false, true_or, or_true, reduceCtorEq] <;> omega
  have b8 : (v.kind == 8) = false := beq_eq_false_iff_ne.2 g8
  by_cases g5 : v.kind = 5
  · repeat' (first | ((first | refine Z.W0 ?_ | refine Z.X0 ?_); simp only [go_sem, seval, o1', o2, lx, ly, h1.cell, h2.cell, b1, b2, b11, b3, b10, b9, b4, b7, b8, g5]; try (simp (disch := omega) only [Z.w0]; try simp only [go_sem, seval, o1', o2, lx, ly, h1.cell, h2.cell, b1, b2, b11, b3, b10, b9, b4, b7, b8, g5])) | (refine hF _ _ ?_; clear hF F) | (refine Z.p0 ?_; simp only [St.put]) | refine Z.a0 ?_ | refine Z.b0 ?_ | refine Z.c0 ?_ | refine Z.f0 ?_ | refine Z.h0 ?_ | refine Z.l0 ?_ | refine Z.n0 ?_ | refine Z.q0 rfl rfl fun F hF => ?_ | refine Z.r0 rfl rfl rfl rfl fun F hF => ?_ | refine Z.s0 rfl rfl rfl rfl ?_ | refine Z.T0 rfl ?_ | refine Z.U0 rfl ?_ | (refine Z.t0 rfl rfl rfl rfl ?_ ?_ <;> (intro hg; simp only [hg, Bool.not_true, Bool.not_false]; simp only [Z.x0] at hg)))
    all_goals
      simp only [retK, ares, pack, Tryd.results66, St.get, reduceIte, Nat.reduceEqDiff, aload, arow, List.toArray, Array.toList]
      refine hk' _ _ (e12.set' nb) ?_
      clear hk' hk
      rw [Bool.eq_iff_iff]
      try simp only [bs_nil_iff] at *
      simp only [wrongV, hD, hL, bs_nil_iff, g5, Bool.or_eq_true, Bool.and_eq_true, decide_eq_true_eq, Bool.not_eq_true', Bool.or_eq_false_iff, decide_eq_false_iff_not, ne_eq, Bool.false_eq_true, true_iff, false_iff, iff_true, iff_false, not_true_eq_false, true_and, and_true, false_and, and_false, false_or, or_false, true_or, or_true, reduceCtorEq] <;> omega
  have b5 : (v.kind == 5) = false := beq_eq_false_iff_ne.2 g5
  by_cases g6 : v.kind = 6
  · repeat' (first | ((first | refine Z.W0 ?_ | refine Z.X0 ?_); simp only [go_sem, seval, o1', o2, lx, ly, h1.cell, h2.cell, b1, b2, b11, b3, b10, b9, b4, b7, b8, b5, g6]; try (simp (disch := omega) only [Z.w0]; try simp only [go_sem, seval, o1', o2, lx, ly, h1.cell, h2.cell, b1, b2, b11, b3, b10, b9, b4, b7, b8, b5, g6])) | (refine hF _ _ ?_; clear hF F) | (refine Z.p0 ?_; simp only [St.put]) | refine Z.a0 ?_ | refine Z.b0 ?_ | refine Z.c0 ?_ | refine Z.f0 ?_ | refine Z.h0 ?_ | refine Z.l0 ?_ | refine Z.n0 ?_ | refine Z.q0 rfl rfl fun F hF => ?_ | refine Z.r0 rfl rfl rfl rfl fun F hF => ?_ | refine Z.s0 rfl rfl rfl rfl ?_ | refine Z.T0 rfl ?_ | refine Z.U0 rfl ?_ | (refine Z.t0 rfl rfl rfl rfl ?_ ?_ <;> (intro hg; simp only [hg, Bool.not_true, Bool.not_false]; simp only [Z.x0] at hg)))
    all_goals
      simp only [retK, ares, pack, Tryd.results66, St.get, reduceIte, Nat.reduceEqDiff, aload, arow, List.toArray, Array.toList]
      refine hk' _ _ (e12.set' nb) ?_
      clear hk' hk
      rw [Bool.eq_iff_iff]
      try simp only [bs_nil_iff] at *
      simp only [wrongV, hD, hL, bs_nil_iff, g6, Bool.or_eq_true, Bool.and_eq_true, decide_eq_true_eq, Bool.not_eq_true', Bool.or_eq_false_iff, decide_eq_false_iff_not, ne_eq, Bool.false_eq_true, true_iff, false_iff, iff_true, iff_false, not_true_eq_false, true_and, and_true, false_and, and_false, false_or, or_false, true_or, or_true, reduceCtorEq] <;> omega
  have b6 : (v.kind == 6) = false := beq_eq_false_iff_ne.2 g6
  repeat' (first | ((first | refine Z.W0 ?_ | refine Z.X0 ?_); simp only [go_sem, seval, o1', o2, lx, ly, h1.cell, h2.cell, b1, b2, b11, b3, b10, b9, b4, b7, b8, b5, b6]; try (simp (disch := omega) only [Z.w0]; try simp only [go_sem, seval, o1', o2, lx, ly, h1.cell, h2.cell, b1, b2, b11, b3, b10, b9, b4, b7, b8, b5, b6])) | (refine hF _ _ ?_; clear hF F) | (refine Z.p0 ?_; simp only [St.put]) | refine Z.a0 ?_ | refine Z.b0 ?_ | refine Z.c0 ?_ | refine Z.d0 ?_ | refine Z.g0 ?_ | refine Z.h0 ?_ | refine Z.l0 ?_ | refine Z.n0 ?_ | refine Z.q0 rfl rfl fun F hF => ?_ | refine Z.U0 rfl ?_)
  simp only [retK, ares, pack, Tryd.results66, St.get, reduceIte, Nat.reduceEqDiff, aload, arow, List.toArray, Array.toList]
  refine hk' _ _ (e12.set' nb) ?_
  clear hk' hk
  symm
  rw [wrongV]
  have : decide (v.kind < 1) = true ∨ decide (11 < v.kind) = true := by simp only [decide_eq_true_eq]; omega
  rcases this with h | h <;> simp [h]

theorem name_ok {s : Bs} (hs : s.length ≤ 1000000000) (hk : K (.v (.bool (nameOk s))) H) : CallX Tryd.prog 67 [.v (.string (bs s))] H K J := by
  have hz := indexByte_neg s 0
  unfold nameOk at hk
  refine CallX.of_body Tryd.func67 nm67 rfl ?_; simp only [Tryd.ntmps67, List.length_cons, List.length_nil, argSt, Nat.reduceAdd, Nat.reduceSub]
  by_cases c1 : s = []
  · subst c1
    repeat' (first | ((first | refine Z.W0 ?_ | refine Z.X0 ?_); simp only [go_sem, seval]) | (refine hF _ _ ?_; clear hF F) | (refine Z.p0 ?_; simp only [St.put]) | refine Z.a0 ?_ | refine Z.b0 ?_ | refine Z.c0 ?_ | refine Z.h0 ?_ | refine Z.n0 ?_ | refine Z.q0 rfl rfl fun F hF => ?_ | refine Z.s0 rfl rfl rfl rfl ?_)
    simp only [retK, ares, pack, Tryd.results67, St.get, reduceIte, Nat.reduceEqDiff, aload, arow, List.toArray, Array.toList]
    simpa using hk
  · have d1 : (s == []) = false := beq_eq_false_iff_ne.2 c1
    by_cases c2 : s.length ≤ 100
    · have d2 : decide ((s.length : Int) ≤ 100) = true := by simp; omega
      repeat' (first | ((first | refine Z.W0 ?_ | refine Z.X0 ?_); simp only [go_sem, seval, d1, d2]) | (refine hF _ _ ?_; clear hF F) | (refine Z.p0 ?_; simp only [St.put]) | refine Z.a0 ?_ | refine Z.b0 ?_ | refine Z.c0 ?_ | refine Z.h0 ?_ | refine Z.q0 rfl rfl fun F hF => ?_ | refine Z.r0 rfl rfl rfl rfl fun F hF => ?_)
      refine valid_ok hs ?_
      (refine hF _ _ ?_; clear hF F)
      cases c3 : Lib.validD s
      · repeat' (first | ((first | refine Z.W0 ?_ | refine Z.X0 ?_); simp only [go_sem, seval]) | (refine hF _ _ ?_; clear hF F) | (refine Z.p0 ?_; simp only [St.put]) | refine Z.c0 ?_ | refine Z.h0 ?_ | refine Z.n0 ?_ | refine Z.q0 rfl rfl fun F hF => ?_ | refine Z.s0 rfl rfl rfl rfl ?_)
        simp only [retK, ares, pack, Tryd.results67, St.get, reduceIte, Nat.reduceEqDiff, aload, arow, List.toArray, Array.toList]
        simpa [c1, c2, c3] using hk
      · repeat' (first | ((first | refine Z.W0 ?_ | refine Z.X0 ?_); simp only [go_sem, seval]) | (refine hF _ _ ?_; clear hF F) | refine Z.h0 ?_ | refine Z.q0 rfl rfl fun F hF => ?_ | refine Z.r0 rfl rfl rfl rfl fun F hF => ?_)
        refine strIndex_ok (c := 0) ?_
        (refine hF _ _ ?_; clear hF F)
        have d3 : decide (Lib.indexByte s 0 < 0) = !s.contains 0 := by
          cases h : s.contains 0
          · exact decide_eq_true (by rw [hz, h])
          · exact decide_eq_false (by rw [hz, h]; simp)
        repeat' (first | ((first | refine Z.W0 ?_ | refine Z.X0 ?_); simp only [go_sem, seval, d3]) | (refine hF _ _ ?_; clear hF F) | (refine Z.p0 ?_; simp only [St.put]) | refine Z.c0 ?_ | refine Z.h0 ?_ | refine Z.n0 ?_ | refine Z.q0 rfl rfl fun F hF => ?_ | refine Z.r0 rfl rfl rfl rfl fun F hF => ?_)
        simp only [retK, ares, pack, Tryd.results67, St.get, reduceIte, Nat.reduceEqDiff, aload, arow, List.toArray, Array.toList]
        simpa [c1, c2, c3] using hk
    · have d2 : decide ((s.length : Int) ≤ 100) = false := by simp; omega
      repeat' (first | ((first | refine Z.W0 ?_ | refine Z.X0 ?_); simp only [go_sem, seval, d1, d2]) | (refine hF _ _ ?_; clear hF F) | (refine Z.p0 ?_; simp only [St.put]) | refine Z.a0 ?_ | refine Z.b0 ?_ | refine Z.c0 ?_ | refine Z.h0 ?_ | refine Z.n0 ?_ | refine Z.q0 rfl rfl fun F hF => ?_ | refine Z.r0 rfl rfl rfl rfl fun F hF => ?_ | refine Z.s0 rfl rfl rfl rfl ?_)
      simp only [retK, ares, pack, Tryd.results67, St.get, reduceIte, Nat.reduceEqDiff, aload, arow, List.toArray, Array.toList]
      simpa [c1, c2] using hk
end Go.Proofs.YtboojmppmaepmaaDoor
/- What is wrong first: the walk. -/
namespace Go.Proofs.YtboojmppmaepmaaDoor
set_option maxHeartbeats 8000000
set_option linter.all false
open Go Go.Fw
attribute [local irreducible] Reg RegD seqK blockK loopK retK
set_option maxRecDepth 10000

variable {H : AH} {K : AV → AH → Prop} {J : Value → AH → Prop}

theorem chkV_eq (deep : Nat) (v : Val) : chkV deep v = if (v.kind = 5 ∨ v.kind = 6) ∧ 20 < deep then 12 else if wrongV v = true then 10 else if chkL (deep + 1) v.list ≠ 0 then chkL (deep + 1) v.list else chkD (deep + 1) [] v.doc := by
  cases v; rw [chkV]; rfl
theorem chkL_take {deep : Nat} : ∀ {l : List Val} {k : Nat} (h : k < l.length), chkL deep (l.take k) = 0 → chkV deep l[k] ≠ 0 → chkL deep l = chkV deep l[k]
  | v :: r, 0, h, _, hv => by simp only [chkL]; rw [if_pos (by simpa using hv)]; rfl
  | v :: r, k + 1, h, h0, hv => by
    simp only [List.take_succ_cons, chkL] at h0
    split at h0
    · rename_i e; exact absurd h0 e
    · rename_i e
      simp only [chkL]
      rw [if_neg e]
      exact chkL_take (by simpa using h) h0 hv
theorem chkL_snoc {deep : Nat} : ∀ {l : List Val} {k : Nat} (h : k < l.length), chkL deep (l.take k) = 0 → chkV deep l[k] = 0 → chkL deep (l.take (k + 1)) = 0
  | v :: r, 0, h, _, hv => by simp only [List.take_succ_cons, List.take_zero, chkL]; rw [if_neg (by simpa using hv)]
  | v :: r, k + 1, h, h0, hv => by
    simp only [List.take_succ_cons, chkL] at h0 ⊢
    split at h0
    · rename_i e; exact absurd h0 e
    · rename_i e
      rw [if_neg e]
      exact chkL_snoc (by simpa using h) h0 hv
/-- The fields from one on, when those ahead were right. -/
theorem chkD_drop {deep : Nat} {l : List (Bs × Val)} {k : Nat} (h : k < l.length) (met : List Bs) : chkD deep met (l.drop k) = if l[k].1 ∈ met ∨ nameOk l[k].1 = false then 11 else if chkV deep l[k].2 ≠ 0 then chkV deep l[k].2 else chkD deep (met ++ [l[k].1]) (l.drop (k + 1)) := by
  rw [List.drop_eq_getElem_cons h]
  obtain ⟨n, v⟩ := l[k]
  simp only [chkD]

theorem wrong_not {v : Val} (h : wrongV v = false) : (v.list ≠ [] → v.kind = 6) ∧ (v.doc ≠ [] → v.kind = 5) := by
  simp only [wrongV, Bool.or_eq_false_iff, Bool.and_eq_false_iff, decide_eq_false_iff_not] at h
  obtain ⟨⟨⟨⟨⟨_, h5⟩, h6⟩, _⟩, _⟩, _⟩ := h
  constructor
  · intro hl
    rcases h6 with h6 | h6
    · simpa using h6
    · exact absurd hl h6
  · intro hd
    rcases h5 with h5 | h5
    · simpa using h5
    · exact absurd hd h5

theorem check_ok : ∀ (m : Nat) (v : Val) (cs : List AV) (deep : Nat) (H : AH) (K : AV → AH → Prop) (J : Value → AH → Prop), SizeOf.sizeOf v < m → RdV H v cs → deep ≤ 21 → (∀ H', Le H H' → K (.v (.int .i64 (chkV deep v))) H') →
    CallX Tryd.prog 53 [.agg cs, .v (.int .i64 deep)] H K J := by
  intro m
  induction m with
  | zero => intro v cs deep H K J h; omega
  | succ m ih =>
    intro v cs deep H K J hm hv hdeep hk
    obtain ⟨k1, i1, t1, l1, d1, x, y, la, da, rfl, h1, h2, h3, h4⟩ := hv.out
    have hchk := chkV_eq deep v
    have wd : IntKind.i64.wrap ((deep : Int) + 1) = ((deep + 1 : Nat) : Int) := by rw [wrap_of] <;> omega
    have hwv := wrong_not (v := v)
    refine CallX.of_body Tryd.func53 nm53 rfl ?_; simp only [Tryd.ntmps53, List.length_cons, List.length_nil, argSt, Nat.reduceAdd, Nat.reduceSub]
    repeat' (first | ((first | refine Z.W0 ?_ | refine Z.X0 ?_); simp only [go_sem, seval, h1.cell, h2.cell]) | refine Z.a0 ?_ | refine Z.b0 ?_ | refine Z.q0 rfl rfl fun F hF => ?_)
    (refine box_go2 fun q H1 e1 n1 o1 => ?_; refine hF _ _ ?_; clear hF F)
    by_cases c1 : (v.kind = 5 ∨ v.kind = 6) ∧ 20 < deep
    · rw [if_pos c1] at hchk
      rw [hchk] at hk
      have d2 : decide ((deep : Int) > 20) = true := by simp; omega
      obtain ⟨c5 | c6, _⟩ := c1
      · repeat' (first | ((first | refine Z.W0 ?_ | refine Z.X0 ?_); simp only [go_sem, seval, o1, c5, d2]) | (refine hF _ _ ?_; clear hF F) | (refine Z.p0 ?_; simp only [St.put]) | refine Z.a0 ?_ | refine Z.b0 ?_ | refine Z.c0 ?_ | refine Z.d0 ?_ | refine Z.h0 ?_ | refine Z.n0 ?_ | refine Z.q0 rfl rfl fun F hF => ?_ | refine Z.r0 rfl rfl rfl rfl fun F hF => ?_ | refine Z.s0 rfl rfl rfl rfl ?_ | refine Z.T0 rfl ?_)
        simp only [retK, ares, pack, Tryd.results53, St.get, reduceIte, Nat.reduceEqDiff, aload, arow, List.toArray, Array.toList]
        exact hk _ e1
      · repeat' (first | ((first | refine Z.W0 ?_ | refine Z.X0 ?_); simp only [go_sem, seval, o1, c6, d2]) | (refine hF _ _ ?_; clear hF F) | (refine Z.p0 ?_; simp only [St.put]) | refine Z.a0 ?_ | refine Z.b0 ?_ | refine Z.c0 ?_ | refine Z.d0 ?_ | refine Z.h0 ?_ | refine Z.n0 ?_ | refine Z.q0 rfl rfl fun F hF => ?_ | refine Z.r0 rfl rfl rfl rfl fun F hF => ?_ | refine Z.T0 rfl ?_)
        simp only [retK, ares, pack, Tryd.results53, St.get, reduceIte, Nat.reduceEqDiff, aload, arow, List.toArray, Array.toList]
        exact hk _ e1
    rw [if_neg c1] at hchk
    have rest : ∀ (F : AV → AH → Prop) (J : Value → AH → Prop), (∀ H2, Le H1 H2 → F (.v (.bool (wrongV v))) H2) → CallX Tryd.prog 66 [.agg [.v (.int .i64 v.kind), .v (.int .i64 v.int), .v (.string (bs v.text)), x, y]] H1 F J := fun F J h => wrong_ok (hv.mono e1) h
    have three : ((v.kind == 5) = true ∧ (v.kind == 6) = false ∧ decide ((deep : Int) > 20) = false) ∨ ((v.kind == 5) = false ∧ (v.kind == 6) = true ∧ decide ((deep : Int) > 20) = false) ∨ ((v.kind == 5) = false ∧ (v.kind == 6) = false ∧ decide ((deep : Int) > 20) = decide ((deep : Int) > 20)) := by
      by_cases g5 : v.kind = 5
      · refine .inl ⟨beq_iff_eq.2 g5, beq_eq_false_iff_ne.2 (by omega), decide_eq_false fun h => c1 ⟨.inl g5, by omega⟩⟩
      · by_cases g6 : v.kind = 6
        · exact .inr (.inl ⟨beq_eq_false_iff_ne.2 g5, beq_iff_eq.2 g6, decide_eq_false fun h => c1 ⟨.inr g6, by omega⟩⟩)
        · exact .inr (.inr ⟨beq_eq_false_iff_ne.2 g5, beq_eq_false_iff_ne.2 g6, rfl⟩)
    have hshal : ∀ {w : Bool}, wrongV v = w → w = false → (v.list ≠ [] ∨ v.doc ≠ []) → deep ≤ 20 := by
      intro w hw he hne
      subst he
      obtain ⟨g1, g2⟩ := hwv hw
      by_cases hd : deep ≤ 20
      · exact hd
      · exfalso
        exact c1 ⟨hne.elim (fun h => .inr (g1 h)) fun h => .inl (g2 h), by omega⟩
    rcases three with ⟨b5, b6, d2⟩ | ⟨b5, b6, d2⟩ | ⟨b5, b6, d2⟩
    all_goals
      repeat' (first | ((first | refine Z.W0 ?_ | refine Z.X0 ?_); simp only [go_sem, seval, o1, b5, b6, d2]) | (refine hF _ _ ?_; clear hF F) | (refine Z.p0 ?_; simp only [St.put]) | refine Z.a0 ?_ | refine Z.b0 ?_ | refine Z.c0 ?_ | refine Z.h0 ?_ | refine Z.m0 ?_ | refine Z.q0 rfl rfl fun F hF => ?_ | refine Z.r0 rfl rfl rfl rfl fun F hF => ?_ | refine Z.s0 rfl rfl rfl rfl ?_ | refine Z.U0 rfl ?_)
      refine rest _ _ fun H2 e2 => ?_
      have e12 := e1.trans e2
      have o2 := e2 _ _ o1
      (refine hF _ _ ?_; clear hF F)
      cases hw : wrongV v
      case true =>
        rw [if_pos hw] at hchk
        rw [hchk] at hk
        repeat' (first | ((first | refine Z.W0 ?_ | refine Z.X0 ?_); simp only [go_sem, seval]) | (refine hF _ _ ?_; clear hF F) | (refine Z.p0 ?_; simp only [St.put]) | refine Z.a0 ?_ | refine Z.b0 ?_ | refine Z.c0 ?_ | refine Z.d0 ?_ | refine Z.h0 ?_ | refine Z.n0 ?_ | refine Z.q0 rfl rfl fun F hF => ?_ | refine Z.T0 rfl ?_)
        simp only [retK, ares, pack, Tryd.results53, St.get, reduceIte, Nat.reduceEqDiff, aload, arow, List.toArray, Array.toList]
        exact hk _ e12
      rw [if_neg (by rw [hw]; simp)] at hchk
      have hlen := (h1.mono e12).len vt22
      rw [h3.len] at hlen
      repeat' (first | ((first | refine Z.W0 ?_ | refine Z.X0 ?_); simp only [go_sem, seval, o2, hlen]) | (refine hF _ _ ?_; clear hF F) | (refine Z.p0 ?_; simp only [St.put]) | refine Z.a0 ?_ | refine Z.b0 ?_ | refine Z.c0 ?_ | refine Z.h0 ?_ | refine Z.l0 ?_ | refine Z.m0 ?_ | refine Z.q0 rfl rfl fun F hF => ?_ | refine Z.U0 rfl ?_)
      refine W_loop [1, 2, 29, 30, 31] (fun n s H' => Le H2 H' ∧ ∃ k : Nat, n + k = v.list.length ∧ chkL (deep + 1) (v.list.take k) = 0 ∧
        s = [(1, .v (.int .i64 deep)), (2, .ptr q 5 0 0), (29, x), (30, .v (.int .i64 v.list.length)), (31, .v (.int .i64 k))]) v.list.length ?_ ?_
      · simp only [St.keep, St.get, reduceIte, Nat.reduceEqDiff]
        exact ⟨Le.refl _, 0, by omega, by simp [chkL], rfl⟩
      rintro n s H3 ⟨e3, k, hnk, hL, rfl⟩
      have o3 := e3 _ _ o2
      have e13 := e12.trans e3
      cases n with
      | succ n =>
        have hlt : k < v.list.length := by omega
        have d : decide ((k : Int) < (v.list.length : Int)) = true := by simp; omega
        obtain ⟨c, p, hc, E⟩ := elV (h1.mono e13) h3 hlt
        obtain ⟨_, _, _, _, _, xx, yy, _, _, rfl, g1, g2, _⟩ := hc.out
        repeat' (first | ((first | refine Z.W0 ?_ | refine Z.X0 ?_); simp only [go_sem, seval, d, E.idx, E.load]) | (refine hF _ _ ?_; clear hF F) | (refine Z.p0 ?_; simp only [St.put]) | refine Z.a0 ?_ | refine Z.b0 ?_ | refine Z.c0 ?_ | refine Z.h0 ?_ | refine Z.l0 ?_ | refine Z.m0 ?_ | refine Z.q0 rfl rfl fun F hF => ?_ | refine Z.T0 rfl ?_)
        (refine box_go2 fun q4 H4 e4 n4 o4 => ?_; refine hF _ _ ?_; clear hF F)
        repeat' (first | ((first | refine Z.W0 ?_ | refine Z.X0 ?_); simp only [go_sem, seval, o4, g1.cell, g2.cell]; try (simp (disch := omega) only [Z.w0]; try simp only [go_sem, seval, o4, g1.cell, g2.cell])) | (refine hF _ _ ?_; clear hF F) | (refine Z.p0 ?_; simp only [St.put]) | refine Z.a0 ?_ | refine Z.b0 ?_ | refine Z.c0 ?_ | refine Z.h0 ?_ | refine Z.q0 rfl rfl fun F hF => ?_)
        generalize hq : AH.set H4 q4 _ = H5; have e5 : Le H3 H5 := (by rw [← hq]; exact e4.set' n4); have o5 := (congrFun hq q4).symm; rw [AH.set_same] at o5; clear hq
        skip
        have hd20 : deep ≤ 20 := hshal hw rfl (.inl fun e => by rw [e] at hlt; simp at hlt)
        refine ih _ _ (deep + 1) _ _ _ (Nat.lt_of_lt_of_le (Val.list_lt (List.getElem_mem hlt)) (by omega)) ((hc.mono e13).mono e5) (by omega) fun H6 e6 => ?_
        (refine hF _ _ ?_; clear hF F)
        by_cases z : chkV (deep + 1) v.list[k] = 0
        · have z1 : (chkV (deep + 1) v.list[k] != 0) = false := by simp [z]
          have wk : IntKind.i64.wrap ((k : Int) + 1) = ((k + 1 : Nat) : Int) := by rw [wrap_of] <;> omega
          repeat' (first | ((first | refine Z.W0 ?_ | refine Z.X0 ?_); simp only [go_sem, seval, z1, wk]) | (refine hF _ _ ?_; clear hF F) | (refine Z.p0 ?_; simp only [St.put]) | refine Z.a0 ?_ | refine Z.b0 ?_ | refine Z.c0 ?_ | refine Z.f0 ?_ | refine Z.h0 ?_ | refine Z.m0 ?_ | refine Z.q0 rfl rfl fun F hF => ?_ | refine Z.U0 rfl ?_)
          simp only [loopK]
          simp only [St.keep, St.get, reduceIte, Nat.reduceEqDiff]
          exact ⟨n, by omega, (e3.trans e5).trans e6, k + 1, by omega, chkL_snoc hlt hL z, rfl⟩
        · have z1 : (chkV (deep + 1) v.list[k] != 0) = true := by simp [z]
          repeat' (first | ((first | refine Z.W0 ?_ | refine Z.X0 ?_); simp only [go_sem, seval, z1]) | (refine hF _ _ ?_; clear hF F) | (refine Z.p0 ?_; simp only [St.put]) | refine Z.a0 ?_ | refine Z.b0 ?_ | refine Z.c0 ?_ | refine Z.d0 ?_ | refine Z.g0 ?_ | refine Z.h0 ?_ | refine Z.j0 ?_ | refine Z.n0 ?_ | refine Z.q0 rfl rfl fun F hF => ?_ | refine Z.T0 rfl ?_)
          simp only [retK, ares, pack, Tryd.results53, St.get, reduceIte, Nat.reduceEqDiff, aload, arow, List.toArray, Array.toList]
          have hL2 := chkL_take hlt hL z
          rw [if_pos (by rw [hL2]; exact z), hL2] at hchk
          rw [hchk] at hk
          exact hk _ ((e13.trans e5).trans e6)
      | zero =>
        have d : decide ((k : Int) < (v.list.length : Int)) = false := by simp; omega
        rw [List.take_of_length_le (by omega)] at hL
        rw [if_neg (by rw [hL]; simp)] at hchk
        repeat' (first | ((first | refine Z.W0 ?_ | refine Z.X0 ?_); simp only [go_sem, seval, d]) | (refine hF _ _ ?_; clear hF F) | (refine Z.p0 ?_; simp only [St.put]) | refine Z.a0 ?_ | refine Z.b0 ?_ | refine Z.c0 ?_ | refine Z.e0 ?_ | refine Z.h0 ?_ | refine Z.k0 ?_ | refine Z.o0 ?_ | refine Z.q0 rfl rfl fun F hF => ?_ | refine Z.U0 rfl ?_)
        (refine box_go2 fun b9 H4 e4 n4 o4 => ?_; refine hF _ _ ?_; clear hF F)
        have o4q := e4 _ _ o3
        have hlen := (h2.mono (e13.trans e4)).len vt23
        rw [h4.len] at hlen
        repeat' (first | ((first | refine Z.W0 ?_ | refine Z.X0 ?_); simp only [go_sem, seval, o4q, hlen]) | (refine hF _ _ ?_; clear hF F) | (refine Z.p0 ?_; simp only [St.put]) | refine Z.a0 ?_ | refine Z.b0 ?_ | refine Z.c0 ?_ | refine Z.h0 ?_ | refine Z.l0 ?_ | refine Z.q0 rfl rfl fun F hF => ?_)
        refine W_loop [1, 2, 8, 45, 46, 47] (fun n s H' => Le H3 H' ∧ ∃ k : Nat, n + k = v.doc.length ∧ H' b9 = some ⟨0, setRows ((v.doc.take k).map (·.1))⟩ ∧ chkD (deep + 1) [] v.doc = chkD (deep + 1) ((v.doc.take k).map (·.1)) (v.doc.drop k) ∧
          s = [(1, .v (.int .i64 deep)), (2, .ptr q 5 0 0), (8, .mp b9), (45, y), (46, .v (.int .i64 v.doc.length)), (47, .v (.int .i64 k))]) v.doc.length ?_ ?_
        · simp only [St.keep, St.get, reduceIte, Nat.reduceEqDiff]
          exact ⟨e4, 0, by omega, o4, by simp, rfl⟩
        rintro n s H5 ⟨e5, k, hnk, o5, hD, rfl⟩
        cases n with
        | zero =>
          have d : decide ((k : Int) < (v.doc.length : Int)) = false := by simp; omega
          rw [List.drop_of_length_le (by omega)] at hD
          simp only [chkD] at hD
          rw [hD] at hchk
          rw [hchk] at hk
          repeat' (first | ((first | refine Z.W0 ?_ | refine Z.X0 ?_); simp only [go_sem, seval, d]) | (refine hF _ _ ?_; clear hF F) | (refine Z.p0 ?_; simp only [St.put]) | refine Z.a0 ?_ | refine Z.b0 ?_ | refine Z.c0 ?_ | refine Z.e0 ?_ | refine Z.h0 ?_ | refine Z.k0 ?_ | refine Z.n0 ?_ | refine Z.o0 ?_ | refine Z.q0 rfl rfl fun F hF => ?_ | refine Z.U0 rfl ?_)
          simp only [retK, ares, pack, Tryd.results53, St.get, reduceIte, Nat.reduceEqDiff, aload, arow, List.toArray, Array.toList]
          exact hk _ (e13.trans e5)
        | succ n =>
          have hlt : k < v.doc.length := by omega
          have d : decide ((k : Int) < (v.doc.length : Int)) = true := by simp; omega
          obtain ⟨c, p, p0, p1, hnm, hc, E⟩ := elF (h2.mono (e13.trans e5)) h4 hlt
          obtain ⟨_, _, _, _, _, xx, yy, _, _, rfl, g1, g2, _⟩ := hc.out
          rw [chkD_drop hlt] at hD
          have hmet : (v.doc.take (k + 1)).map (·.1) = (v.doc.take k).map (·.1) ++ [v.doc[k].1] := by rw [List.take_succ_eq_append_getElem hlt, List.map_append]; rfl
          obtain ⟨met, hm0⟩ : ∃ met, met = (v.doc.take k).map (·.1) := ⟨_, rfl⟩
          rw [← hm0] at hD o5 hmet
          repeat' (first | ((first | refine Z.W0 ?_ | refine Z.X0 ?_); simp only [go_sem, seval, d, E.idx, E.all]) | (refine hF _ _ ?_; clear hF F) | (refine Z.p0 ?_; simp only [St.put]) | refine Z.a0 ?_ | refine Z.b0 ?_ | refine Z.c0 ?_ | refine Z.h0 ?_ | refine Z.l0 ?_ | refine Z.m0 ?_ | refine Z.q0 rfl rfl fun F hF => ?_ | refine Z.T0 rfl ?_)
          (refine box_go2 fun q6 H6 e6 n6 o6 => ?_; refine hF _ _ ?_; clear hF F)
          repeat' (first | ((first | refine Z.W0 ?_ | refine Z.X0 ?_); simp only [go_sem, seval, o6, g1.cell, g2.cell]) | (refine hF _ _ ?_; clear hF F) | (refine Z.p0 ?_; simp only [St.put]) | refine Z.a0 ?_ | refine Z.b0 ?_ | refine Z.c0 ?_ | refine Z.h0 ?_ | refine Z.q0 rfl rfl fun F hF => ?_)
          have hq6 : q6 ≠ b9 := fun e => by rw [e, o5] at n6; cases n6
          generalize hq : AH.set H6 q6 _ = H7; have e7 : Le H5 H7 := (by rw [← hq]; exact e6.set' n6); have o7 := (congrFun hq q6).symm; rw [AH.set_same] at o7; clear hq
          have o7b := e7 _ _ o5
          skip
          simp only [o7b, keysOf_set, true_and]
          (refine hF _ _ ?_; clear hF F)
          repeat' (first | ((first | refine Z.W0 ?_ | refine Z.X0 ?_); simp only [go_sem, seval, o7, o7b]) | (refine hF _ _ ?_; clear hF F) | refine Z.h0 ?_ | refine Z.q0 rfl rfl fun F hF => ?_)
          intro b11
          (refine hF _ _ ?_; clear hF F)
          by_cases z1 : v.doc[k].1 ∈ met
          · have z1' : decide (v.doc[k].1 ∈ met) = true := decide_eq_true z1
            rw [if_pos (.inl z1)] at hD
            rw [hD] at hchk
            rw [hchk] at hk
            repeat' (first | ((first | refine Z.W0 ?_ | refine Z.X0 ?_); simp only [go_sem, seval, o7, o7b, z1']) | (refine hF _ _ ?_; clear hF F) | (refine Z.p0 ?_; simp only [St.put]) | refine Z.a0 ?_ | refine Z.b0 ?_ | refine Z.c0 ?_ | refine Z.d0 ?_ | refine Z.g0 ?_ | refine Z.h0 ?_ | refine Z.j0 ?_ | refine Z.n0 ?_ | refine Z.q0 rfl rfl fun F hF => ?_ | refine Z.s0 rfl rfl rfl rfl ?_ | refine Z.T0 rfl ?_)
            simp only [retK, ares, pack, Tryd.results53, St.get, reduceIte, Nat.reduceEqDiff, aload, arow, List.toArray, Array.toList]
            exact hk _ ((e13.trans e5).trans e7)
          have z1' : decide (v.doc[k].1 ∈ met) = false := decide_eq_false z1
          repeat' (first | ((first | refine Z.W0 ?_ | refine Z.X0 ?_); simp only [go_sem, seval, o7, o7b, z1']) | (refine hF _ _ ?_; clear hF F) | (refine Z.p0 ?_; simp only [St.put]) | refine Z.a0 ?_ | refine Z.b0 ?_ | refine Z.c0 ?_ | refine Z.h0 ?_ | refine Z.q0 rfl rfl fun F hF => ?_ | refine Z.r0 rfl rfl rfl rfl fun F hF => ?_)
          refine name_ok hnm ?_
          (refine hF _ _ ?_; clear hF F)
          cases z2 : nameOk v.doc[k].1
          · rw [if_pos (.inr z2)] at hD
            rw [hD] at hchk
            rw [hchk] at hk
            repeat' (first | ((first | refine Z.W0 ?_ | refine Z.X0 ?_); simp only [go_sem, seval, o7, o7b]) | (refine hF _ _ ?_; clear hF F) | (refine Z.p0 ?_; simp only [St.put]) | refine Z.a0 ?_ | refine Z.b0 ?_ | refine Z.c0 ?_ | refine Z.d0 ?_ | refine Z.g0 ?_ | refine Z.h0 ?_ | refine Z.j0 ?_ | refine Z.n0 ?_ | refine Z.q0 rfl rfl fun F hF => ?_ | refine Z.r0 rfl rfl rfl rfl fun F hF => ?_ | refine Z.T0 rfl ?_)
            simp only [retK, ares, pack, Tryd.results53, St.get, reduceIte, Nat.reduceEqDiff, aload, arow, List.toArray, Array.toList]
            exact hk _ ((e13.trans e5).trans e7)
          rw [if_neg (by rw [z2]; simp [z1])] at hD
          have e57 := e5.trans e7
          repeat' (first | ((first | refine Z.W0 ?_ | refine Z.X0 ?_); simp only [go_sem, seval, o7, o7b, z1, wd]; try (simp (disch := omega) only [Z.w0]; try simp only [go_sem, seval, o7, o7b, z1, wd])) | (refine hF _ _ ?_; clear hF F) | (refine Z.p0 ?_; simp only [St.put]) | refine Z.a0 ?_ | refine Z.b0 ?_ | refine Z.c0 ?_ | refine Z.h0 ?_ | refine Z.m0 ?_ | refine Z.q0 rfl rfl fun F hF => ?_ | refine Z.r0 rfl rfl rfl rfl fun F hF => ?_ | refine Z.U0 rfl ?_)
          generalize hq : AH.set H7 b9 _ = H8; have e8 : Le H3 H8 := (by rw [← hq]; exact e57.set' n4); have o8 := (congrFun hq b9).symm; rw [AH.set_same] at o8; clear hq
          have hd20 : deep ≤ 20 := hshal hw rfl (.inr fun e => by rw [e] at hlt; simp at hlt)
          refine ih _ _ (deep + 1) _ _ _ (Nat.lt_of_lt_of_le (Val.doc_lt (List.getElem_mem hlt)) (by omega)) (hc.mono (e13.trans e8)) (by omega) fun H9 e9 => ?_
          (refine hF _ _ ?_; clear hF F)
          have e89 := e8.trans e9
          by_cases z : chkV (deep + 1) v.doc[k].2 = 0
          · have z3 : (chkV (deep + 1) v.doc[k].2 != 0) = false := by simp [z]
            have wk : IntKind.i64.wrap ((k : Int) + 1) = ((k + 1 : Nat) : Int) := by rw [wrap_of] <;> omega
            rw [if_neg (by rw [z]; simp), ← hmet] at hD
            repeat' (first | ((first | refine Z.W0 ?_ | refine Z.X0 ?_); simp only [go_sem, seval, z3, wk]) | (refine hF _ _ ?_; clear hF F) | (refine Z.p0 ?_; simp only [St.put]) | refine Z.a0 ?_ | refine Z.b0 ?_ | refine Z.c0 ?_ | refine Z.f0 ?_ | refine Z.h0 ?_ | refine Z.m0 ?_ | refine Z.q0 rfl rfl fun F hF => ?_ | refine Z.U0 rfl ?_)
            simp only [loopK]
            simp only [St.keep, St.get, reduceIte, Nat.reduceEqDiff]
            refine ⟨n, by omega, e89, k + 1, by omega, ?_, hD, rfl⟩
            rw [e9 _ _ o8, hmet]
            simp [setRows, bs]
          · have z3 : (chkV (deep + 1) v.doc[k].2 != 0) = true := by simp [z]
            rw [if_pos z] at hD
            rw [hD] at hchk
            rw [hchk] at hk
            repeat' (first | ((first | refine Z.W0 ?_ | refine Z.X0 ?_); simp only [go_sem, seval, z3]) | (refine hF _ _ ?_; clear hF F) | (refine Z.p0 ?_; simp only [St.put]) | refine Z.a0 ?_ | refine Z.b0 ?_ | refine Z.c0 ?_ | refine Z.d0 ?_ | refine Z.g0 ?_ | refine Z.h0 ?_ | refine Z.j0 ?_ | refine Z.n0 ?_ | refine Z.q0 rfl rfl fun F hF => ?_ | refine Z.T0 rfl ?_)
            simp only [retK, ares, pack, Tryd.results53, St.get, reduceIte, Nat.reduceEqDiff, aload, arow, List.toArray, Array.toList]
            exact hk _ (e13.trans e89)

theorem right_ok {v : Val} {cs : List AV} (hv : RdV H v cs) (hk : ∀ H', Le H H' → K (.v (.int .i64 (right v))) H') : CallX Tryd.prog 44 [.agg cs] H K J := by
  obtain ⟨k1, i1, t1, l1, d1, x, y, la, da, rfl, h1, h2, h3, h4⟩ := hv.out
  refine CallX.of_body Tryd.func44 nm44 rfl ?_; simp only [Tryd.ntmps44, List.length_cons, List.length_nil, argSt, Nat.reduceAdd, Nat.reduceSub]
  repeat' (first | ((first | refine Z.W0 ?_ | refine Z.X0 ?_); simp only [go_sem, seval, h1.cell, h2.cell]) | refine Z.a0 ?_ | refine Z.b0 ?_ | refine Z.q0 rfl rfl fun F hF => ?_)
  (refine box_go2 fun q H1 e1 n1 o1 => ?_; refine hF _ _ ?_; clear hF F)
  repeat' (first | ((first | refine Z.W0 ?_ | refine Z.X0 ?_); simp only [go_sem, seval, o1]) | (refine hF _ _ ?_; clear hF F) | (refine Z.p0 ?_; simp only [St.put]) | refine Z.a0 ?_ | refine Z.b0 ?_ | refine Z.c0 ?_ | refine Z.h0 ?_ | refine Z.q0 rfl rfl fun F hF => ?_)
  refine size_ok (hv.mono e1) fun H2 e2 => ?_
  (refine hF _ _ ?_; clear hF F)
  have o2 := e2 _ _ o1
  by_cases c : sizeV v ≤ 65536
  · rw [if_pos c]
    have d : decide ((sizeV v : Int) > 65536) = false := by simp; omega
    have er : right v = chkV 1 v := by unfold right; rw [if_neg (by omega)]
    repeat' (first | ((first | refine Z.W0 ?_ | refine Z.X0 ?_); simp only [go_sem, seval, o2, d]) | (refine hF _ _ ?_; clear hF F) | (refine Z.p0 ?_; simp only [St.put]) | refine Z.a0 ?_ | refine Z.b0 ?_ | refine Z.c0 ?_ | refine Z.h0 ?_ | refine Z.m0 ?_ | refine Z.q0 rfl rfl fun F hF => ?_ | refine Z.U0 rfl ?_)
    refine check_ok _ v _ 1 _ _ _ (Nat.lt_succ_self _) ((hv.mono e1).mono e2) (by decide) fun H3 e3 => ?_
    (refine hF _ _ ?_; clear hF F)
    repeat' (first | ((first | refine Z.W0 ?_ | refine Z.X0 ?_); simp only [go_sem, seval]) | (refine hF _ _ ?_; clear hF F) | (refine Z.p0 ?_; simp only [St.put]) | refine Z.c0 ?_ | refine Z.h0 ?_ | refine Z.n0 ?_ | refine Z.q0 rfl rfl fun F hF => ?_)
    simp only [retK, ares, pack, Tryd.results44, St.get, reduceIte, Nat.reduceEqDiff, aload, arow, List.toArray, Array.toList]
    rw [← er]
    exact hk _ ((e1.trans e2).trans e3)
  · rw [if_neg c]
    have er : right v = 3 := by unfold right; rw [if_pos (by omega)]
    repeat' (first | ((first | refine Z.W0 ?_ | refine Z.X0 ?_); simp only [go_sem, seval, o2]) | (refine hF _ _ ?_; clear hF F) | (refine Z.p0 ?_; simp only [St.put]) | refine Z.a0 ?_ | refine Z.b0 ?_ | refine Z.c0 ?_ | refine Z.d0 ?_ | refine Z.h0 ?_ | refine Z.n0 ?_ | refine Z.q0 rfl rfl fun F hF => ?_ | refine Z.T0 rfl ?_)
    simp only [retK, ares, pack, Tryd.results44, St.get, reduceIte, Nat.reduceEqDiff, aload, arow, List.toArray, Array.toList]
    rw [← er]
    exact hk _ (e1.trans e2)
end Go.Proofs.YtboojmppmaepmaaDoor
/- A document as bytes: the walks. -/
namespace Go.Proofs.YtboojmppmaepmaaDoor
set_option maxHeartbeats 8000000
set_option linter.all false
open Go Go.Fw
attribute [local irreducible] Reg RegD seqK blockK loopK retK
set_option maxRecDepth 10000

variable {H : AH} {K : AV → AH → Prop} {J : Value → AH → Prop}

theorem sar8 (n : Int) : n.fdiv (2 ^ 8) = n / 256 := by
  rw [Int.fdiv_eq_ediv_of_nonneg _ (by decide)]; rfl
theorem leI (k : Nat) (n : Int) : le (k + 1) (n % 18446744073709551616).toNat = UInt8.ofNat (n % 256).toNat :: le k (((n % 18446744073709551616).toNat) / 256) := by
  have h : (n % 18446744073709551616).toNat % 256 = (n % 256).toNat := by omega
  simp only [le, h]

/-- The bytes of a number, the lowest first: by shifts. -/
def leS : Nat → Int → Bs
  | 0, _ => []
  | k + 1, n => UInt8.ofNat (n % 256).toNat :: leS k (n / 256)
theorem leS_length (k : Nat) : ∀ n, (leS k n).length = k := by
  induction k with
  | zero => intro n; rfl
  | succ k ih => intro n; simp [leS, ih]
theorem leS_nat (k : Nat) : ∀ (n : Nat), leS k n = le k n := by
  induction k with
  | zero => intro n; rfl
  | succ k ih =>
    intro n
    have h1 : ((n : Int) % 256).toNat = n % 256 := by omega
    have h2 : (n : Int) / 256 = ((n / 256 : Nat) : Int) := by omega
    simp only [leS, le, h1, h2, ih]
theorem leS_snoc (k : Nat) : ∀ n, leS (k + 1) n = leS k n ++ [UInt8.ofNat ((n / 256 ^ k) % 256).toNat] := by
  induction k with
  | zero => intro n; simp [leS]
  | succ k ih =>
    intro n
    rw [leS, ih]
    simp only [leS, List.cons_append]
    congr 3
    rw [Int.ediv_ediv_of_nonneg (by decide), Int.pow_succ, Int.mul_comm]
theorem ediv_range {n lo hi c : Int} (h1 : lo ≤ n) (h2 : n ≤ hi) (hlo : lo ≤ 0) (hhi : 0 ≤ hi) (hc : 0 < c) : lo ≤ n / c ∧ n / c ≤ hi := by
  constructor
  · rw [Int.le_ediv_iff_mul_le hc]
    have : lo * c ≤ lo * 1 := Int.mul_le_mul_of_nonpos_left hlo (by omega)
    omega
  · have : hi * 1 ≤ hi * c := Int.mul_le_mul_of_nonneg_left (by omega) hhi
    exact Int.ediv_le_of_le_mul hc (by omega)
theorem leS_le : ∀ (k : Nat) (n : Int) (m : Nat) (t : Int), n = m + 256 ^ k * t → leS k n = le k m
  | 0, _, _, _, _ => rfl
  | k + 1, n, m, t, h => by
    obtain ⟨u, hu⟩ : ∃ u, u = (256 : Int) ^ k * t := ⟨_, rfl⟩
    have h' : n = m + 256 * u := by rw [h, hu, Int.pow_succ, Int.mul_comm (256 ^ k) 256, Int.mul_assoc]
    have h1 : (n % 256).toNat = m % 256 := by omega
    have h2 : n / 256 = ((m / 256 : Nat) : Int) + u := by omega
    simp only [leS, le, h1]
    rw [leS_le k (n / 256) (m / 256) t (by rw [h2, hu])]
theorem leS_8 (n : Int) : leS 8 n = le 8 (n % 18446744073709551616).toNat := by
  refine leS_le 8 n _ (n / 18446744073709551616) ?_
  have : (256 : Int) ^ 8 = 18446744073709551616 := by decide
  rw [this]
  omega

/-- Bytes of a number, put behind others. -/
theorem bput_ok {H0 : AH} {l : Bs} {x : AV} {n : Int} {many : Nat} (hx : On H0 1 (rowsB l) H x) (hl : l.length ≤ 1000000000) (hm : many ≤ 8) (hn : -9223372036854775808 ≤ n ∧ n ≤ 9223372036854775807)
    (hk : ∀ x' H', On H0 1 (rowsB (l ++ leS many n)) H' x' → K x' H') : CallX Tryd.prog 56 [x, .v (.int .i64 n), .v (.int .i64 many)] H K J := by
  refine CallX.of_body Tryd.func56 nm56 rfl ?_; simp only [Tryd.ntmps56, List.length_cons, List.length_nil, argSt, Nat.reduceAdd, Nat.reduceSub]
  repeat' (first | ((first | refine Z.W0 ?_ | refine Z.X0 ?_); simp only [go_sem, seval]) | (refine hF _ _ ?_; clear hF F) | (refine Z.p0 ?_; simp only [St.put]) | refine Z.a0 ?_ | refine Z.b0 ?_ | refine Z.c0 ?_ | refine Z.h0 ?_ | refine Z.l0 ?_ | refine Z.q0 rfl rfl fun F hF => ?_)
  refine W_loop [0, 1, 7, 8] (fun m s H' => ∃ (k : Nat) (z : AV), m + k = many ∧ On H0 1 (rowsB (l ++ leS k n)) H' z ∧ s = [(0, z), (1, .v (.int .i64 (n / 256 ^ k))), (7, .v (.int .i64 many)), (8, .v (.int .i64 k))]) many ?_ ?_
  · simp only [St.keep, St.get, reduceIte, Nat.reduceEqDiff]
    exact ⟨0, x, by omega, by simpa [leS] using hx, by simp⟩
  rintro m s H1 ⟨k, z, hmk, hz, rfl⟩
  cases m with
  | zero =>
    obtain rfl : k = many := by omega
    have d : decide ((k : Int) < (k : Int)) = false := by simp
    repeat' (first | ((first | refine Z.W0 ?_ | refine Z.X0 ?_); simp only [go_sem, seval, d]) | (refine hF _ _ ?_; clear hF F) | (refine Z.p0 ?_; simp only [St.put]) | refine Z.a0 ?_ | refine Z.b0 ?_ | refine Z.c0 ?_ | refine Z.e0 ?_ | refine Z.h0 ?_ | refine Z.k0 ?_ | refine Z.n0 ?_ | refine Z.o0 ?_ | refine Z.q0 rfl rfl fun F hF => ?_ | refine Z.U0 rfl ?_)
    simp only [retK, ares, pack, Tryd.results56, St.get, reduceIte, Nat.reduceEqDiff, aload, arow, List.toArray, Array.toList]
    exact hk _ _ hz
  | succ m =>
    have d : decide ((k : Int) < (many : Int)) = true := by simp; omega
    have hb := IntKind.wrap_u8 (n / 256 ^ k)
    have hlen : (rowsB (l ++ leS k n)).length ≤ 1000000008 := by simp [leS_length]; omega
    repeat' (first | ((first | refine Z.W0 ?_ | refine Z.X0 ?_); simp only [go_sem, seval, d]) | (refine hF _ _ ?_; clear hF F) | (refine Z.p0 ?_; simp only [St.put]) | refine Z.a0 ?_ | refine Z.b0 ?_ | refine Z.c0 ?_ | refine Z.h0 ?_ | refine Z.l0 ?_ | refine Z.m0 ?_ | refine Z.q0 rfl rfl fun F hF => ?_ | refine Z.T0 rfl ?_)
    refine hz.app (new := [[.v (.int .u8 (IntKind.u8.wrap (n / 256 ^ k)))]]) vt30 rfl rfl Tryd.underlying30 nint30 (fun G => by simp [asrc]) (by simp only [List.length_singleton]; omega) fun x' H' hx' => ?_
    (refine hF _ _ ?_; clear hF F)
    have hs : (n / 256 ^ k).fdiv (2 ^ min 8 64) = n / 256 ^ (k + 1) := by
      have h0 : min 8 64 = 8 := rfl
      rw [h0, sar8, Int.ediv_ediv_of_nonneg (by exact Int.pow_nonneg (by decide)), Int.pow_succ]
    have wk : IntKind.i64.wrap ((k : Int) + 1) = ((k + 1 : Nat) : Int) := by rw [wrap_of] <;> omega
    repeat' (first | ((first | refine Z.W0 ?_ | refine Z.X0 ?_); simp only [go_sem, seval, wk]) | (refine hF _ _ ?_; clear hF F) | (refine Z.p0 ?_; simp only [St.put]) | refine Z.b0 ?_ | refine Z.c0 ?_ | refine Z.f0 ?_ | refine Z.h0 ?_ | refine Z.q0 rfl rfl fun F hF => ?_)
    simp only [loopK]
    simp only [St.keep, St.get, reduceIte, Nat.reduceEqDiff]
    refine ⟨m, by omega, k + 1, x', by omega, ?_, ?_⟩
    · have e : rowsB [UInt8.ofNat ((n / 256 ^ k) % 256).toNat] = [[.v (.int .u8 (IntKind.u8.wrap (n / 256 ^ k)))]] := by
        rw [hb]
        show [[AV.v (.int .u8 ((UInt8.ofNat ((n / 256 ^ k) % 256).toNat).toNat : Int))]] = _
        rw [u8_ofNat]
        have h1 := Int.emod_nonneg (n / 256 ^ k) (show (256 : Int) ≠ 0 by decide)
        have h2 := Int.emod_lt_of_pos (n / 256 ^ k) (show (0 : Int) < 256 by decide)
        have h3 : (((n / 256 ^ k % 256).toNat % 256 : Nat) : Int) = n / 256 ^ k % 256 := by omega
        rw [h3]
      rw [leS_snoc, ← List.append_assoc, rowsB_append (l ++ leS k n), e]
      exact hx'
    · rw [hs]
end Go.Proofs.YtboojmppmaepmaaDoor
/- A document as bytes: a number over others. -/
namespace Go.Proofs.YtboojmppmaepmaaDoor
set_option maxHeartbeats 8000000
set_option linter.all false
open Go Go.Fw
attribute [local irreducible] Reg RegD seqK blockK loopK retK
set_option maxRecDepth 10000

variable {H : AH} {K : AV → AH → Prop} {J : Value → AH → Prop}

/-- Bytes of a number, put over others. -/
theorem bput_in {pre mid suf : Bs} {b c : Nat} {n : Int} {many : Nat} (hb : H b = some ⟨1, rowsB (pre ++ mid ++ suf)⟩) (hmid : mid.length = many) (hc : many ≤ c) (hm : many ≤ 8) (hn : -9223372036854775808 ≤ n ∧ n ≤ 9223372036854775807)
    (hk : ∀ x' H', (∀ q, q ≠ b → H' q = H q) → H' b = some ⟨1, rowsB (pre ++ leS many n ++ suf)⟩ → K x' H') : CallX Tryd.prog 56 [.ov (some b) pre.length 1 0 (some c), .v (.int .i64 n), .v (.int .i64 many)] H K J := by
  refine CallX.of_body Tryd.func56 nm56 rfl ?_; simp only [Tryd.ntmps56, List.length_cons, List.length_nil, argSt, Nat.reduceAdd, Nat.reduceSub]
  repeat' (first | ((first | refine Z.W0 ?_ | refine Z.X0 ?_); simp only [go_sem, seval]) | (refine hF _ _ ?_; clear hF F) | (refine Z.p0 ?_; simp only [St.put]) | refine Z.a0 ?_ | refine Z.b0 ?_ | refine Z.c0 ?_ | refine Z.h0 ?_ | refine Z.l0 ?_ | refine Z.q0 rfl rfl fun F hF => ?_)
  refine W_loop [0, 1, 7, 8] (fun m s H' => ∃ (k : Nat), m + k = many ∧ (∀ q, q ≠ b → H' q = H q) ∧ H' b = some ⟨1, rowsB (pre ++ (leS k n ++ mid.drop k) ++ suf)⟩ ∧ s = [(0, .ov (some b) pre.length 1 k (some c)), (1, .v (.int .i64 (n / 256 ^ k))), (7, .v (.int .i64 many)), (8, .v (.int .i64 k))]) many ?_ ?_
  · simp only [St.keep, St.get, reduceIte, Nat.reduceEqDiff]
    exact ⟨0, by omega, by simp, by simpa [leS] using hb, by simp⟩
  rintro m s H1 ⟨k, hmk, hq, h1, rfl⟩
  cases m with
  | zero =>
    obtain rfl : k = many := by omega
    have d : decide ((k : Int) < (k : Int)) = false := by simp
    repeat' (first | ((first | refine Z.W0 ?_ | refine Z.X0 ?_); simp only [go_sem, seval, d]) | (refine hF _ _ ?_; clear hF F) | (refine Z.p0 ?_; simp only [St.put]) | refine Z.a0 ?_ | refine Z.b0 ?_ | refine Z.c0 ?_ | refine Z.e0 ?_ | refine Z.h0 ?_ | refine Z.k0 ?_ | refine Z.n0 ?_ | refine Z.o0 ?_ | refine Z.q0 rfl rfl fun F hF => ?_ | refine Z.U0 rfl ?_)
    simp only [retK, ares, pack, Tryd.results56, St.get, reduceIte, Nat.reduceEqDiff, aload, arow, List.toArray, Array.toList]
    rw [List.drop_of_length_le (by omega), List.append_nil] at h1
    exact hk _ _ hq h1
  | succ m =>
    have d : decide ((k : Int) < (many : Int)) = true := by simp; omega
    have hb8 := IntKind.wrap_u8 (n / 256 ^ k)
    repeat' (first | ((first | refine Z.W0 ?_ | refine Z.X0 ?_); simp only [go_sem, seval, d]) | (refine hF _ _ ?_; clear hF F) | (refine Z.p0 ?_; simp only [St.put]) | refine Z.a0 ?_ | refine Z.b0 ?_ | refine Z.c0 ?_ | refine Z.h0 ?_ | refine Z.l0 ?_ | refine Z.m0 ?_ | refine Z.q0 rfl rfl fun F hF => ?_ | refine Z.T0 rfl ?_)
    refine app_in (new := [[.v (.int .u8 (IntKind.u8.wrap (n / 256 ^ k)))]]) vt30 rfl rfl Tryd.underlying30 nint30 h1 rfl (by first | (simp [leS_length]; done) | (simp [leS_length]; omega)) (by simp only [List.length_singleton]; omega) (fun G => by simp [asrc]) ?_
    (refine hF _ _ ?_; clear hF F)
    have hs : (n / 256 ^ k).fdiv (2 ^ min 8 64) = n / 256 ^ (k + 1) := by
      have h0 : min 8 64 = 8 := rfl
      rw [h0, sar8, Int.ediv_ediv_of_nonneg (by exact Int.pow_nonneg (by decide)), Int.pow_succ]
    have wk : IntKind.i64.wrap ((k : Int) + 1) = ((k + 1 : Nat) : Int) := by rw [wrap_of] <;> omega
    repeat' (first | ((first | refine Z.W0 ?_ | refine Z.X0 ?_); simp only [go_sem, seval, wk]) | (refine hF _ _ ?_; clear hF F) | (refine Z.p0 ?_; simp only [St.put]) | refine Z.b0 ?_ | refine Z.c0 ?_ | refine Z.f0 ?_ | refine Z.h0 ?_ | refine Z.q0 rfl rfl fun F hF => ?_)
    simp only [loopK]
    simp only [St.keep, St.get, reduceIte, Nat.reduceEqDiff]
    refine ⟨m, by omega, k + 1, by omega, fun q hqb => by rw [AH.set_ne _ _ hqb]; exact hq q hqb, ?_, ?_⟩
    · have e : rowsB [UInt8.ofNat ((n / 256 ^ k) % 256).toNat] = [[.v (.int .u8 (IntKind.u8.wrap (n / 256 ^ k)))]] := by
        rw [hb8]
        show [[AV.v (.int .u8 ((UInt8.ofNat ((n / 256 ^ k) % 256).toNat).toNat : Int))]] = _
        rw [u8_ofNat]
        have h1 := Int.emod_nonneg (n / 256 ^ k) (show (256 : Int) ≠ 0 by decide)
        have h2 := Int.emod_lt_of_pos (n / 256 ^ k) (show (0 : Int) < 256 by decide)
        have h3 : (((n / 256 ^ k % 256).toNat % 256 : Nat) : Int) = n / 256 ^ k % 256 := by omega
        rw [h3]
      rw [AH.set_same, ← e]
      congr 2
      rw [rowsB_take, rowsB_drop, ← rowsB_append, ← rowsB_append, leS_snoc]
      congr 1
      have hkm : k < mid.length := by omega
      have l1 : (leS k n).length = k := leS_length k n
      have a1 : pre ++ (leS k n ++ mid.drop k) ++ suf = (pre ++ leS k n) ++ (mid.drop k ++ suf) := by simp only [List.append_assoc]
      have l2 : (pre ++ leS k n).length = pre.length + k := by rw [List.length_append, l1]
      have a2 : mid.drop k = mid[k] :: mid.drop (k + 1) := List.drop_eq_getElem_cons hkm
      have t1 : (pre ++ (leS k n ++ mid.drop k) ++ suf).take (pre.length + k) = pre ++ leS k n := by
        rw [a1, ← l2, List.take_left]
      have t2 : (pre ++ (leS k n ++ mid.drop k) ++ suf).drop (pre.length + k + 1) = mid.drop (k + 1) ++ suf := by
        rw [a1, ← l2, List.drop_append, List.drop_of_length_le (by omega), List.nil_append, Nat.add_sub_cancel_left, a2]
        rfl
      rw [t1, t2]
      simp only [List.append_assoc]
    · rw [hs]
end Go.Proofs.YtboojmppmaepmaaDoor
/- A document's bytes: piece by piece. -/
namespace Go.Fw
set_option maxHeartbeats 8000000
set_option linter.all false
open Go

theorem encV_eq (v : Val) : encV v = if v.kind = 3 ∨ v.kind = 10 then le 8 (v.int % 18446744073709551616).toNat else if v.kind = 4 then le 4 (v.text.length + 1) ++ v.text ++ [0] else if v.kind = 7 then le 4 v.text.length ++ [0] ++ v.text else if v.kind = 8 then v.text else if v.kind = 9 then [UInt8.ofNat (v.int % 256).toNat] else if v.kind = 5 ∨ v.kind = 6 then le 4 ((encD v.doc).length + (encL 0 v.list).length + 5) ++ encD v.doc ++ encL 0 v.list ++ [0] else [] := by
  cases v; rw [encV]; rfl
theorem encD_append (a b : List (Bs × Val)) : encD (a ++ b) = encD a ++ encD b := by
  induction a with
  | nil => simp [encD]
  | cons x r ih =>
    obtain ⟨n, v⟩ := x
    simp only [List.cons_append, encD, ih, List.append_assoc]
theorem encL_append (a b : List Val) : ∀ i, encL i (a ++ b) = encL i a ++ encL (i + a.length) b := by
  induction a with
  | nil => intro i; simp [encL]
  | cons x r ih =>
    intro i
    have : i + 1 + r.length = i + (r.length + 1) := by omega
    simp only [List.cons_append, encL, ih, List.length_cons, List.append_assoc, this]
theorem encD_take {l : List (Bs × Val)} {k : Nat} (h : k < l.length) : encD (l.take (k + 1)) = encD (l.take k) ++ encF l[k].1 l[k].2 := by
  rw [List.take_succ_eq_append_getElem h, encD_append]
  obtain ⟨n, v⟩ := l[k]
  simp [encD, encF]
theorem encL_take {l : List Val} {k : Nat} (h : k < l.length) : encL 0 (l.take (k + 1)) = encL 0 (l.take k) ++ encF (Lib.itoa k) l[k] := by
  rw [List.take_succ_eq_append_getElem h, encL_append, List.length_take, Nat.min_eq_left (by omega), Nat.zero_add]
  simp [encL, encF]
theorem encD_le (l : List (Bs × Val)) (k : Nat) : (encD (l.take k)).length ≤ (encD l).length := by
  have := congrArg List.length (encD_append (l.take k) (l.drop k))
  rw [List.take_append_drop, List.length_append] at this
  omega
theorem encL_le (l : List Val) (k : Nat) : (encL 0 (l.take k)).length ≤ (encL 0 l).length := by
  have := congrArg List.length (encL_append (l.take k) (l.drop k) 0)
  rw [List.take_append_drop, List.length_append] at this
  omega
theorem chkL_all {deep : Nat} : ∀ {l : List Val}, chkL deep l = 0 → ∀ k (h : k < l.length), chkV deep l[k] = 0
  | v :: r, h, 0, _ => by
    simp only [chkL] at h
    split at h
    · rename_i e; exact absurd h e
    · rename_i e; simpa using e
  | v :: r, h, k + 1, hk => by
    simp only [chkL] at h
    split at h
    · rename_i e; exact absurd h e
    · exact chkL_all h k (by simpa using hk)
theorem chkD_all {deep : Nat} : ∀ {l : List (Bs × Val)} {met : List Bs}, chkD deep met l = 0 → ∀ k (h : k < l.length), chkV deep l[k].2 = 0 ∧ nameOk l[k].1 = true
  | (n, v) :: r, met, h, 0, _ => by
    simp only [chkD] at h
    split at h
    · cases h
    · rename_i g
      split at h
      · rename_i e; exact absurd h e
      · rename_i e
        refine ⟨by simpa using e, ?_⟩
        cases hn : nameOk n
        · exact absurd (.inr hn) g
        · exact hn
  | (n, v) :: r, met, h, k + 1, hk => by
    simp only [chkD] at h
    split at h
    · cases h
    · split at h
      · rename_i e; exact absurd h e
      · exact chkD_all h k (by simpa using hk)
theorem chk_in {deep : Nat} {v : Val} (h : chkV deep v = 0) : wrongV v = false ∧ chkL (deep + 1) v.list = 0 ∧ chkD (deep + 1) [] v.doc = 0 := by
  cases v with
  | mk k i t l d =>
    rw [chkV] at h
    split at h
    · cases h
    · split at h
      · cases h
      · rename_i hw
        split at h
        · rename_i e; exact absurd h e
        · rename_i e
          exact ⟨by simpa using hw, Decidable.not_not.1 e, h⟩
theorem wrong_kind {v : Val} (h : wrongV v = false) : 1 ≤ v.kind ∧ v.kind ≤ 11 := by
  simp only [wrongV, Bool.or_eq_false_iff, decide_eq_false_iff_not] at h
  omega
end Go.Fw
