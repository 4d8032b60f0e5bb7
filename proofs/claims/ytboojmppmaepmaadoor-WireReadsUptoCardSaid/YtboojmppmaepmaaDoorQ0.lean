/- The walks and the plain laws that the row rests on, part 0: Sh F0 Fa Fb Fc Fd Fe Ff Fg Fh Fz Fi Fj Fk Fl Fm Fn Fo. -/
import Derived.Shelf.LaysM
import Derived.Shelf.Strconv.Itoa2
import Derived.Shelf.Strconv.Itoa3
import Derived.Shelf.Small.Strs
import Derived.Shelf.Strings.Search1
import Derived.Shelf.Bytes.IndexByte
import Derived.Shelf.Unicode.ValidAny
import Derived.Test.YtboojmppmaepmaaDoorProg
import Derived.WalkKit
import Derived.Lib.LaidTab
import Derived.Lib.ItoaNum
import Derived.Shelf.Unicode.DecodeSlow
import Derived.Laws.BytesString
import Derived.MapKept
import Derived.Deep.LoopGhost
import Derived.Orders
/-
  DERIVED: THE SHELF's CONTRACTS AT THIS DUMP, IN PLAIN WORDS (tools/lay-plain.mjs out of 'YtboojmppmaepmaaDoorShx.lean', which tools/lay-shelf.mjs wrote): THE SAME DECLARATIONS UNDER THE SAME NAMES: 'import', 'namespace', 'open', 'def', 'theorem' AND NOTHING ELSE: no command of the shelf's: FOR A HAND-IN. Each laying: the table of numbers ('.._ren') and one theorem, a field a fact of the dump's own or the kernel's comparison; each contract: ONE APPLICATION.
-/
namespace Go.Proofs
set_option maxHeartbeats 8000000
set_option linter.all false
open Go.Shelf
def Tryd.lays137_ren : Go.Shelf.Ren := ⟨fun | 137 => 85 | 217 => 93 | 266 => 102 | n => n, fun | 9 => 9 | 5 => 5 | 3 => 3 | n => n, fun | n => n⟩
theorem Tryd.lays137 : Go.Proofs.Lays.n137 Tryd.prog Tryd.lays137_ren := {
  mixed := by kernel_rfl
  f137 := Tryd.func85.trans (congrArg some (by kernel_rfl))
  f217 := Tryd.func93.trans (congrArg some (by kernel_rfl))
  f266 := Tryd.func102.trans (congrArg some (by kernel_rfl))
  t3 := Tryd.underlying3
  a3 := Tryd.isAgg3
  z3 := Tryd.sizeOf3
  v3 := Tryd.zeroValue3
  t5 := Tryd.underlying5
  a5 := Tryd.isAgg5
  z5 := Tryd.sizeOf5
  v5 := Tryd.zeroValue5
  t9 := Tryd.underlying9
  a9 := Tryd.isAgg9
  z9 := Tryd.sizeOf9
  v9 := Tryd.zeroValue9 }
open Go.RowKit in
theorem Tryd.strings_IndexByte (s : ByteArray) (c : Int) (w : World) :
    Calls Tryd.prog 85 #[.string s, .int .u8 c] w fun e w' => e = .returned (.int .i64 (Lib.indexByte s.data.toList c.toNat.toUInt8)) ∧ w' = w := Any.strings_IndexByte Tryd.lays137 s c w
def Tryd.laysM171_ren : Go.Shelf.Ren := ⟨fun | 171 => 55 | 243 => 68 | 246 => 86 | 283 => 94 | 284 => 95 | 285 => 96 | 286 => 97 | 129 => 104 | 317 => 103 | 318 => 105 | 319 => 106 | 320 => 107 | 337 => 108 | 338 => 109 | n => n, fun | 3 => 3 | 9 => 9 | 2 => 2 | 4 => 4 | 171 => 130 | 0 => 0 | 53 => 92 | 37 => 30 | 5 => 5 | 173 => 133 | 212 => 137 | 51 => 138 | 20 => 20 | 213 => 139 | 46 => 112 | 232 => 142 | 233 => 143 | n => n, fun | 17 => 2 | 18 => 4 | 19 => 5 | n => n⟩
theorem Tryd.laysM171 : Go.Proofs.LaysM.n171 Tryd.prog Tryd.laysM171_ren := {
  mixed := by kernel_rfl
  f129 := Tryd.func104.trans (congrArg some (by kernel_rfl))
  f171 := Tryd.func55.trans (congrArg some (by kernel_rfl))
  f243 := Tryd.func68.trans (congrArg some (by kernel_rfl))
  f246 := Tryd.func86.trans (congrArg some (by kernel_rfl))
  f283 := Tryd.func94.trans (congrArg some (by kernel_rfl))
  f284 := Tryd.func95.trans (congrArg some (by kernel_rfl))
  f285 := Tryd.func96.trans (congrArg some (by kernel_rfl))
  f286 := Tryd.func97.trans (congrArg some (by kernel_rfl))
  f317 := Tryd.func103.trans (congrArg some (by kernel_rfl))
  f318 := Tryd.func105.trans (congrArg some (by kernel_rfl))
  f319 := Tryd.func106.trans (congrArg some (by kernel_rfl))
  f320 := Tryd.func107.trans (congrArg some (by kernel_rfl))
  f337 := Tryd.func108.trans (congrArg some (by kernel_rfl))
  f338 := Tryd.func109.trans (congrArg some (by kernel_rfl))
  t0 := Tryd.underlying0
  a0 := Tryd.isAgg0
  z0 := Tryd.sizeOf0
  v0 := Tryd.zeroValue0
  t2 := Tryd.underlying2
  a2 := Tryd.isAgg2
  z2 := Tryd.sizeOf2
  v2 := Tryd.zeroValue2
  t3 := Tryd.underlying3
  a3 := Tryd.isAgg3
  z3 := Tryd.sizeOf3
  v3 := Tryd.zeroValue3
  t4 := Tryd.underlying4
  a4 := Tryd.isAgg4
  z4 := Tryd.sizeOf4
  v4 := Tryd.zeroValue4
  t5 := Tryd.underlying5
  a5 := Tryd.isAgg5
  z5 := Tryd.sizeOf5
  v5 := Tryd.zeroValue5
  t9 := Tryd.underlying9
  a9 := Tryd.isAgg9
  z9 := Tryd.sizeOf9
  v9 := Tryd.zeroValue9
  t20 := Tryd.underlying20
  a20 := Tryd.isAgg20
  z20 := Tryd.sizeOf20
  v20 := Tryd.zeroValue20
  t37 := Tryd.underlying30
  a37 := Tryd.isAgg30
  z37 := Tryd.sizeOf30
  v37 := Tryd.zeroValue30
  t46 := Tryd.underlying112
  a46 := Tryd.isAgg112
  z46 := Tryd.sizeOf112
  v46 := Tryd.zeroValue112
  t51 := Tryd.underlying138
  a51 := Tryd.isAgg138
  z51 := Tryd.sizeOf138
  v51 := Tryd.zeroValue138
  t53 := Tryd.underlying92
  a53 := Tryd.isAgg92
  z53 := Tryd.sizeOf92
  v53 := Tryd.zeroValue92
  t171 := Tryd.underlying130
  a171 := Tryd.isAgg130
  z171 := Tryd.sizeOf130
  v171 := Tryd.zeroValue130
  t173 := Tryd.underlying133
  a173 := Tryd.isAgg133
  z173 := Tryd.sizeOf133
  v173 := Tryd.zeroValue133
  t212 := Tryd.underlying137
  a212 := Tryd.isAgg137
  z212 := Tryd.sizeOf137
  v212 := Tryd.zeroValue137
  t213 := Tryd.underlying139
  a213 := Tryd.isAgg139
  z213 := Tryd.sizeOf139
  t232 := Tryd.underlying142
  a232 := Tryd.isAgg142
  z232 := Tryd.sizeOf142
  v232 := Tryd.zeroValue142
  t233 := Tryd.underlying143
  a233 := Tryd.isAgg143
  z233 := Tryd.sizeOf143
  v233 := Tryd.zeroValue143
  g17 := by kernel_rfl
  g18 := by kernel_rfl
  g19 := by kernel_rfl
  i0 := by kernel_rfl
  i2 := by kernel_rfl
  i3 := by kernel_rfl
  i4 := by kernel_rfl
  i5 := by kernel_rfl
  i9 := by kernel_rfl
  i20 := by kernel_rfl
  i37 := by kernel_rfl
  i46 := by kernel_rfl
  i51 := by kernel_rfl
  i53 := by kernel_rfl
  i171 := by kernel_rfl
  i173 := by kernel_rfl
  i212 := by kernel_rfl
  i232 := by kernel_rfl
  i233 := by kernel_rfl
  m17 := by kernel_rfl
  m18 := by kernel_rfl
  m19 := by kernel_rfl }
open Go.RowKit Go.Sort Go.Lib in
theorem Tryd.strconv_Itoa (n : Int) (h0 : -9223372036854775808 ≤ n) (h1 : n ≤ 9223372036854775807) (w : World) (htab : Lib.TabIs Tryd.prog w "internal/strconv.uint64pow10" .u64 Lib.pow10Tab) :
    Calls Tryd.prog 55 #[.int .i64 n] w fun e w' => e = .returned (.string ⟨(Lib.itoa n).toArray⟩) ∧ ∃ k os, w' = grow (w.drewN k) os := Any.strconv_Itoa Tryd.laysM171 n h0 h1 w htab
def Tryd.lays187_ren : Go.Shelf.Ren := ⟨fun | 187 => 88 | 255 => 98 | n => n, fun | 37 => 30 | 5 => 5 | 3 => 3 | n => n, fun | n => n⟩
theorem Tryd.lays187 : Go.Proofs.Lays.n187 Tryd.prog Tryd.lays187_ren := {
  mixed := by kernel_rfl
  f187 := Tryd.func88.trans (congrArg some (by kernel_rfl))
  f255 := Tryd.func98.trans (congrArg some (by kernel_rfl))
  t3 := Tryd.underlying3
  a3 := Tryd.isAgg3
  z3 := Tryd.sizeOf3
  v3 := Tryd.zeroValue3
  t5 := Tryd.underlying5
  a5 := Tryd.isAgg5
  z5 := Tryd.sizeOf5
  v5 := Tryd.zeroValue5
  t37 := Tryd.underlying30
  a37 := Tryd.isAgg30
  z37 := Tryd.sizeOf30
  v37 := Tryd.zeroValue30 }
open Go.RowKit in
theorem Tryd.bytes_IndexByte (b o n c : Nat) (xs : List Int) (cv : Int) (w : World) (hx : xs.length = n) (hc : ∀ i, i < n → w.cell? ⟨b, o + i, none⟩ = some (.int .u8 (xs.getD i 0))) :
    Calls Tryd.prog 88 #[.slice (some ⟨b, o, none⟩) n c, .int .u8 cv] w fun e w' => e = .returned (.int .i64 (Lib.indexByte (Lib.bytesOf xs) cv.toNat.toUInt8)) ∧ w' = w := Any.bytes_IndexByte Tryd.lays187 b o n c xs cv w hx hc
open Go.RowKit in
theorem Tryd.bytes_IndexByte_nil (cv : Int) (w : World) :
    Calls Tryd.prog 88 #[.slice none 0 0, .int .u8 cv] w fun e w' => e = .returned (.int .i64 (-1)) ∧ w' = w := Any.bytes_IndexByte_nil Tryd.lays187 cv w
def Tryd.lays196_ren : Go.Shelf.Ren := ⟨fun | 196 => 84 | 259 => 92 | n => n, fun | 9 => 9 | 4 => 4 | 3 => 3 | 5 => 5 | 12 => 12 | 119 => 126 | 0 => 0 | 46 => 112 | 139 => 129 | 138 => 128 | 53 => 92 | n => n, fun | 3 => 0 | 4 => 1 | n => n⟩
theorem Tryd.lays196 : Go.Proofs.Lays.n196 Tryd.prog Tryd.lays196_ren := {
  mixed := by kernel_rfl
  f196 := Tryd.func84.trans (congrArg some (by kernel_rfl))
  f259 := Tryd.func92.trans (congrArg some (by kernel_rfl))
  t0 := Tryd.underlying0
  a0 := Tryd.isAgg0
  z0 := Tryd.sizeOf0
  v0 := Tryd.zeroValue0
  t3 := Tryd.underlying3
  a3 := Tryd.isAgg3
  z3 := Tryd.sizeOf3
  v3 := Tryd.zeroValue3
  t4 := Tryd.underlying4
  a4 := Tryd.isAgg4
  z4 := Tryd.sizeOf4
  v4 := Tryd.zeroValue4
  t5 := Tryd.underlying5
  a5 := Tryd.isAgg5
  z5 := Tryd.sizeOf5
  v5 := Tryd.zeroValue5
  t9 := Tryd.underlying9
  a9 := Tryd.isAgg9
  z9 := Tryd.sizeOf9
  v9 := Tryd.zeroValue9
  t12 := Tryd.underlying12
  a12 := Tryd.isAgg12
  z12 := Tryd.sizeOf12
  v12 := Tryd.zeroValue12
  t46 := Tryd.underlying112
  a46 := Tryd.isAgg112
  z46 := Tryd.sizeOf112
  v46 := Tryd.zeroValue112
  t53 := Tryd.underlying92
  a53 := Tryd.isAgg92
  z53 := Tryd.sizeOf92
  v53 := Tryd.zeroValue92
  t119 := Tryd.underlying126
  a119 := Tryd.isAgg126
  z119 := Tryd.sizeOf126
  t138 := Tryd.underlying128
  a138 := Tryd.isAgg128
  z138 := Tryd.sizeOf128
  v138 := Tryd.zeroValue128
  t139 := Tryd.underlying129
  a139 := Tryd.isAgg129
  z139 := Tryd.sizeOf129
  v139 := Tryd.zeroValue129
  g3 := by kernel_rfl
  g4 := by kernel_rfl }
open Go.RowKit in
theorem Tryd.utf8_ValidString (s : ByteArray) (w : World) (hs : s.size ≤ 9223372036854775807) (hT : Lib.Utf8Tabs (Tryd.lays196_ren.g 3) (Tryd.lays196_ren.g 4) w) :
    Calls Tryd.prog 84 #[.string s] w fun e w' => e = .returned (.bool (Lib.validD s.data.toList)) ∧ Below w.heap.size w w' := Any.utf8_ValidString Tryd.lays196 s w hs hT
end Go.Proofs
/- What is known of the program's own variables: the library's tables. -/
namespace Go.Fw
set_option maxHeartbeats 8000000
set_option linter.all false
open Go
def NG : Nat := 6
structure KP (w : World) : Prop where
  pow : Lib.TabIs Go.Proofs.Tryd.prog w "internal/strconv.uint64pow10" .u64 Lib.pow10Tab
  utf : Lib.Utf8Tabs 0 1 w
theorem KP.same {w w' : World} (h : KP w) (hs : ∀ b, b < NG → w'.heap[b]? = w.heap[b]?) : KP w' := by
  refine ⟨?_, ?_⟩
  · have h1 := h.pow
    have hg : Go.Proofs.Tryd.prog.globalNamed "internal/strconv.uint64pow10" = some 2 := by kernel_rfl
    unfold Lib.TabIs World.var? at h1 ⊢
    rw [hg] at h1 ⊢
    simp only [Option.bind_some] at h1 ⊢
    rw [hs 2 (by decide)]
    exact h1
  · obtain ⟨h1, h2⟩ := h.utf
    have hc : ∀ g c, g < NG → w'.cell? ⟨g, c, none⟩ = w.cell? ⟨g, c, none⟩ := fun g c hg => by
      unfold World.cell?
      simp only [hs g hg]
    exact ⟨fun c hcc => by rw [hc _ _ (by decide)]; exact h1 c hcc, fun i hi => by rw [hc _ _ (by decide), hc _ _ (by decide)]; exact h2 i hi⟩
end Go.Fw
/- The abstract values and heaps of the walks: what a value of the model is taken for, and when a world is as an abstract heap says. Generic: no program in sight. -/
namespace Go.Fw
set_option maxHeartbeats 8000000
set_option linter.all false
open Go

/-- A value as the walks see it. -/
inductive AV where
  | v (x : Value)
  | agg (cs : List AV)
  | tup (cs : List AV)
  | ptr (b es i f : Nat)
  | ov (b : Option Nat) (off es n : Nat) (c : Option Nat)
  | imm (es : Nat) (xs : List (List AV))
  | ip (e : List AV) (f : Nat)
  | clo (f : FuncId) (cs : List AV)
  | mp (b : Nat)
  | junk
  deriving Inhabited

/-- One cell may hold it. -/
def AV.cell : AV → Bool
  | .v (.agg _) => false
  | .v (.tuple _) => false
  | .agg _ => false
  | .tup _ => false
  | .junk => false
  | _ => true

/-- A block that is owned: elements of es cells each. -/
structure AObj where
  es : Nat
  xs : List (List AV)

abbrev AH := Nat → Option AObj
def AH.set (H : AH) (b : Nat) (o : AObj) : AH := fun x => if x = b then some o else H x
def AH.del (H : AH) (b : Nat) : AH := fun x => if x = b then none else H x

theorem AH.set_same (H : AH) (b : Nat) (o : AObj) : (H.set b o) b = some o := by simp [AH.set]
theorem AH.set_ne (H : AH) {b x : Nat} (o : AObj) (h : x ≠ b) : (H.set b o) x = H x := by simp [AH.set, h]
theorem AH.del_same (H : AH) (b : Nat) : (H.del b) b = none := by simp [AH.del]
theorem AH.del_ne (H : AH) {b x : Nat} (h : x ≠ b) : (H.del b) x = H x := by simp [AH.del, h]
theorem AH.set_set (H : AH) (b : Nat) (o p : AObj) : (H.set b o).set b p = H.set b p := by
  funext x
  simp only [AH.set]
  split <;> rfl
theorem AH.set_swap (H : AH) {b c : Nat} (o p q : AObj) (h : b ≠ c) : ((H.set b o).set c p).set b q = (H.set b q).set c p := by
  funext x
  simp only [AH.set]
  by_cases h1 : x = b <;> by_cases h2 : x = c <;> simp_all
theorem AH.set_comm (H : AH) {b c : Nat} (o p : AObj) (h : b ≠ c) : (H.set b o).set c p = (H.set c p).set b o := by
  funext x
  simp only [AH.set]
  by_cases h1 : x = b <;> by_cases h2 : x = c <;> simp_all
theorem AH.set_self (H : AH) {b : Nat} {o : AObj} (h : H b = some o) : H.set b o = H := by
  funext x
  simp only [AH.set]
  split <;> simp_all

/-- What an abstract value stands for, in a world w of whose blocks those in O are owned. -/
inductive Rep (w : World) (O : Nat → Prop) : AV → Value → Prop
  | v (x : Value) : Rep w O (.v x) x
  | junk (x : Value) : Rep w O .junk x
  | agg (cs : List AV) (vs : List Value) (hl : cs.length = vs.length) (h : ∀ (i : Nat) x y, cs[i]? = some x → vs[i]? = some y → Rep w O x y) : Rep w O (.agg cs) (.agg vs.toArray)
  | tup (cs : List AV) (vs : List Value) (hl : cs.length = vs.length) (h : ∀ (i : Nat) x y, cs[i]? = some x → vs[i]? = some y → Rep w O x y) : Rep w O (.tup cs) (.tuple vs.toArray)
  | ptr (b es i f : Nat) (hb : b < w.heap.size) : Rep w O (.ptr b es i f) (.pointer (some ⟨b, i * es + f, none⟩))
  | ovn (es : Nat) (a : Option Addr) : Rep w O (.ov none 0 es 0 none) (.slice a 0 0)
  | ov (b off es n c : Nat) (c' : Option Nat) (cells : Array Value) (t : TypeId) (fr : Nat × Nat) (hw : w.heap[b]? = some (.cells cells t fr)) (hc : (off + c) * es ≤ cells.size) (hn : n ≤ c)
      (hcc : ∀ k, c' = some k → k = c) : Rep w O (.ov (some b) off es n c') (.slice (some ⟨b, off * es, none⟩) n c)
  | imn (es : Nat) (a : Option Addr) (c : Nat) : Rep w O (.imm es []) (.slice a 0 c)
  | imm (es : Nat) (xs : List (List AV)) (b o c : Nat) (cells : Array Value) (t : TypeId) (fr : Nat × Nat) (vals : Nat → Nat → Value) (hw : w.heap[b]? = some (.cells cells t fr)) (hO : ¬ O b)
      (hc : xs.length ≤ c) (hes : ∀ e ∈ xs, e.length = es ∧ ∀ x ∈ e, x.cell = true)
      (h1 : ∀ (i : Nat) e (f : Nat) x, xs[i]? = some e → e[f]? = some x → cells[o + i * es + f]? = some (vals i f))
      (h2 : ∀ (i : Nat) e (f : Nat) x, xs[i]? = some e → e[f]? = some x → Rep w O x (vals i f)) : Rep w O (.imm es xs) (.slice (some ⟨b, o, none⟩) xs.length c)
  | ip (e : List AV) (f b o : Nat) (cells : Array Value) (t : TypeId) (fr : Nat × Nat) (vals : Nat → Value) (hw : w.heap[b]? = some (.cells cells t fr)) (hO : ¬ O b)
      (hes : ∀ x ∈ e, x.cell = true)
      (h1 : ∀ (j : Nat) x, e[j]? = some x → cells[o + j]? = some (vals j)) (h2 : ∀ (j : Nat) x, e[j]? = some x → Rep w O x (vals j)) : Rep w O (.ip e f) (.pointer (some ⟨b, o + f, none⟩))
  | clo (f : FuncId) (cs : List AV) (vs : List Value) (hl : cs.length = vs.length) (h : ∀ (i : Nat) x y, cs[i]? = some x → vs[i]? = some y → Rep w O x y) : Rep w O (.clo f cs) (.func (.func f) #[] vs.toArray)
  | mp (b : Nat) (hb : b < w.heap.size) : Rep w O (.mp b) (.map (some b))

theorem Rep.oneCell {w : World} {O : Nat → Prop} {x : AV} {y : Value} (h : Rep w O x y) (hx : x.cell = true) : y.oneCell' = true := by
  cases h with
  | v => cases y <;> first | rfl | simp [AV.cell] at hx
  | _ => first | rfl | simp [AV.cell] at hx

/-- From a world and what is owned in it to a later one; D: the blocks that may have been written. -/
structure Ext (w : World) (O D : Nat → Prop) (w' : World) (O' : Nat → Prop) : Prop where
  os : w'.os = w.os
  tape : w'.tape = w.tape
  output : w'.output = w.output
  size : w.heap.size ≤ w'.heap.size
  block : ∀ b, b < w.heap.size → ¬ D b → w'.heap[b]? = w.heap[b]?
  cells : ∀ (b : Nat) (c : Array Value) (t : TypeId) (fr : Nat × Nat), w.heap[b]? = some (.cells c t fr) → ∃ (c' : Array Value) (fr' : Nat × Nat), w'.heap[b]? = some (.cells c' t fr') ∧ c'.size = c.size
  own : ∀ b, b < w.heap.size → ¬ D b → (O' b ↔ O b)
  less : ∀ b, b < w.heap.size → O' b → O b

theorem Ext.refl (w : World) (O D : Nat → Prop) : Ext w O D w O :=
  ⟨rfl, rfl, rfl, Nat.le_refl _, fun _ _ _ => rfl, fun _ c _ fr h => ⟨c, fr, h, rfl⟩, fun _ _ _ => Iff.rfl, fun _ _ h => h⟩

theorem Ext.trans {w w1 w2 : World} {O O1 O2 D D1 : Nat → Prop} (h : Ext w O D w1 O1) (k : Ext w1 O1 D1 w2 O2) (hD : ∀ b, b < w.heap.size → D1 b → D b) : Ext w O D w2 O2 where
  os := k.os.trans h.os
  tape := k.tape.trans h.tape
  output := k.output.trans h.output
  size := Nat.le_trans h.size k.size
  block := fun b hb hd => (k.block b (Nat.lt_of_lt_of_le hb h.size) (fun e => hd (hD b hb e))).trans (h.block b hb hd)
  cells := fun b c t fr hc => by
    obtain ⟨c1, f1, h1, e1⟩ := h.cells b c t fr hc
    obtain ⟨c2, f2, h2, e2⟩ := k.cells b c1 t f1 h1
    exact ⟨c2, f2, h2, e2.trans e1⟩
  own := fun b hb hd => (k.own b (Nat.lt_of_lt_of_le hb h.size) (fun e => hd (hD b hb e))).trans (h.own b hb hd)
  less := fun b hb h2 => h.less b hb (k.less b (Nat.lt_of_lt_of_le hb h.size) h2)

theorem Ext.mono {w w' : World} {O O' D D' : Nat → Prop} (h : Ext w O D w' O') (hD : ∀ b, D b → D' b) : Ext w O D' w' O' :=
  ⟨h.os, h.tape, h.output, h.size, fun b hb hd => h.block b hb fun e => hd (hD b e), h.cells, fun b hb hd => h.own b hb fun e => hd (hD b e), h.less⟩

theorem lt_of_heap {w : World} {b : Nat} {o : Obj} (h : w.heap[b]? = some o) : b < w.heap.size := by
  rcases Nat.lt_or_ge b w.heap.size with g | g
  · exact g
  · simp [Array.getElem?_eq_none g] at h

/-- What was read stays read. -/
theorem Rep.ext {w w' : World} {O D O' : Nat → Prop} (hx : Ext w O D w' O') (hD : ∀ b, D b → O b) {x : AV} {y : Value} (h : Rep w O x y) : Rep w' O' x y := by
  induction h with
  | v x => exact .v x
  | junk x => exact .junk x
  | agg cs vs hl _ ih => exact .agg cs vs hl ih
  | tup cs vs hl _ ih => exact .tup cs vs hl ih
  | ptr b es i f hb => exact .ptr b es i f (Nat.lt_of_lt_of_le hb hx.size)
  | ovn es a => exact .ovn es a
  | ov b off es n c c' cells t fr hw hc hn hcc =>
    obtain ⟨c1, f1, h1, e1⟩ := hx.cells b cells t fr hw
    exact .ov b off es n c c' c1 t f1 h1 (by rw [e1]; exact hc) hn hcc
  | imn es a c => exact .imn es a c
  | imm es xs b o c cells t fr vals hw hO hc hes h1 _ ih =>
    have hb := lt_of_heap hw
    exact .imm es xs b o c cells t fr vals ((hx.block b hb fun e => hO (hD b e)).trans hw) (fun e => hO (hx.less b hb e)) hc hes h1 ih
  | ip e f b o cells t fr vals hw hO hes h1 _ ih =>
    have hb := lt_of_heap hw
    exact .ip e f b o cells t fr vals ((hx.block b hb fun e => hO (hD b e)).trans hw) (fun e => hO (hx.less b hb e)) hes h1 ih
  | clo f cs vs hl _ ih => exact .clo f cs vs hl ih
  | mp b hb => exact .mp b (Nat.lt_of_lt_of_le hb hx.size)

/-- An owned block of cells. -/
def RowRep (w : World) (O : Nat → Prop) (b : Nat) (o : AObj) : Prop :=
  ∃ (cells : Array Value) (t : TypeId), w.heap[b]? = some (.cells cells t (0, 0)) ∧ o.xs.length * o.es ≤ cells.size ∧ (∀ e ∈ o.xs, e.length = o.es ∧ ∀ x ∈ e, x.cell = true) ∧
    ∀ (i : Nat) e (f : Nat) x, o.xs[i]? = some e → e[f]? = some x → ∃ y, cells[i * o.es + f]? = some y ∧ Rep w O x y

/-- A set of texts, as rows. -/
def setRows (ks : List (List UInt8)) : List (List AV) := ks.map fun k => [.v (.string ⟨k.toArray⟩)]
/-- An owned set of texts: a map from texts. -/
def SetRep (w : World) (b : Nat) (o : AObj) : Prop :=
  ∃ (es : Array MapEntry) (clock : Nat) (ks : List (List UInt8)), w.heap[b]? = some (.map es clock) ∧ o.xs = setRows ks ∧ es.toList.map (·.key) = (ks.map fun k => Value.string ⟨k.toArray⟩) ∧ ∀ e ∈ es.toList, e.val = .agg #[]

/-- An owned block is as its abstract object says: rows of cells; of no cells: a set of texts. -/
def ObjRep (w : World) (O : Nat → Prop) (b : Nat) (o : AObj) : Prop := if o.es = 0 then SetRep w b o else RowRep w O b o

theorem ObjRep.rows {w : World} {O : Nat → Prop} {b : Nat} {o : AObj} (h : ObjRep w O b o) (hz : o.es ≠ 0) : RowRep w O b o := by
  unfold ObjRep at h; rw [if_neg hz] at h; exact h
theorem ObjRep.set {w : World} {O : Nat → Prop} {b : Nat} {o : AObj} (h : ObjRep w O b o) (hz : o.es = 0) : SetRep w b o := by
  unfold ObjRep at h; rw [if_pos hz] at h; exact h
theorem RowRep.obj {w : World} {O : Nat → Prop} {b : Nat} {o : AObj} (h : RowRep w O b o) (hz : o.es ≠ 0) : ObjRep w O b o := by
  unfold ObjRep; rw [if_neg hz]; exact h
theorem SetRep.obj {w : World} {O : Nat → Prop} {b : Nat} {o : AObj} (h : SetRep w b o) (hz : o.es = 0) : ObjRep w O b o := by
  unfold ObjRep; rw [if_pos hz]; exact h

theorem ObjRep.ext {w w' : World} {O D O' : Nat → Prop} (hx : Ext w O D w' O') (hD : ∀ b, D b → O b) {b : Nat} {o : AObj} (h : ObjRep w O b o) (hb : w'.heap[b]? = w.heap[b]?) : ObjRep w' O' b o := by
  by_cases hz : o.es = 0
  · obtain ⟨es, clock, ks, h1, h2⟩ := h.set hz
    exact SetRep.obj ⟨es, clock, ks, hb.trans h1, h2⟩ hz
  · obtain ⟨cells, t, h1, h2, h3, h4⟩ := h.rows hz
    refine RowRep.obj ⟨cells, t, hb.trans h1, h2, h3, fun i e f x hi hf => ?_⟩ hz
    obtain ⟨y, hy, hr⟩ := h4 i e f x hi hf
    exact ⟨y, hy, hr.ext hx hD⟩

/-- The world w is as the abstract heap H says; all that was in w0 and is not in D0 is as it was. -/
structure Heap (w0 : World) (O0 D0 : Nat → Prop) (w : World) (O : Nat → Prop) (H : AH) : Prop where
  ext : Ext w0 O0 D0 w O
  bound : ∀ b, O b → b < w.heap.size
  dom : ∀ b o, H b = some o → O b ∧ (b < w0.heap.size → D0 b)
  rep : ∀ b o, H b = some o → ObjRep w O b o

/-- What is known of the program's own variables, none of which is owned. -/
structure Kn (w : World) (O : Nat → Prop) : Prop where
  many : NG ≤ w.heap.size
  free : ∀ b, b < NG → ¬ O b
  what : KP w

theorem Kn.ext {w w' : World} {O D O' : Nat → Prop} (h : Kn w O) (hx : Ext w O D w' O') (hD : ∀ b, D b → O b) : Kn w' O' :=
  ⟨Nat.le_trans h.many hx.size, fun b hb hO => h.free b hb (hx.less b (Nat.lt_of_lt_of_le hb h.many) hO), h.what.same fun b hb => hx.block b (Nat.lt_of_lt_of_le hb h.many) fun e => h.free b hb (hD b e)⟩

/-- What a function's end is told: the value, the heap; or what it panics with. -/
def Ends (w : World) (O D : Nat → Prop) (K : AV → AH → Prop) (J : Value → AH → Prop) (e : Ending) (w' : World) : Prop :=
  (∃ r H' O' v, e = .returned v ∧ K r H' ∧ Heap w O D w' O' H' ∧ Rep w' O' r v) ∨ (∃ x H' O', e = .panicked [{ v := x, recovered := false }] ∧ J x H' ∧ Heap w O D w' O' H')

def dom (H : AH) (b : Nat) : Prop := ∃ o, H b = some o

/-- A function of the program that has a body. -/
def Callable (P : Program) (f : FuncId) : Prop := ∃ fn, P.funcs[f]? = some fn ∧ (fn.name == "runtime.NumGoroutine") = false ∧ fn.body.isNone = false

/-- Called with such arguments, over such a heap, the function returns, and K holds of what it returns and of the heap behind it; or it panics, and J holds of that. -/
structure CallX (P : Program) (f : FuncId) (args : List AV) (H : AH) (K : AV → AH → Prop) (J : Value → AH → Prop) : Prop where
  callable : Callable P f
  run : ∀ (w : World) (O : Nat → Prop) (vs : List Value), Kn w O → (∀ b, O b → b < w.heap.size) → (∀ b o, H b = some o → O b ∧ ObjRep w O b o) → args.length = vs.length →
    (∀ (i : Nat) x y, args[i]? = some x → vs[i]? = some y → Rep w O x y) → Calls P f vs.toArray w (Ends w O (dom H) K J)

def noJ : Value → AH → Prop := fun _ _ => False
/-- .. the function returns. -/
abbrev CallOK (P : Program) (f : FuncId) (args : List AV) (H : AH) (K : AV → AH → Prop) : Prop := CallX P f args H K noJ

theorem Ends.mono {w : World} {O D : Nat → Prop} {K K' : AV → AH → Prop} {J J' : Value → AH → Prop} (hk : ∀ r H, K r H → K' r H) (hj : ∀ x H, J x H → J' x H) {e : Ending} {w' : World} (h : Ends w O D K J e w') : Ends w O D K' J' e w' := by
  rcases h with ⟨r, H', O', v, h1, h2, h3⟩ | ⟨x, H', O', h1, h2, h3⟩
  · exact .inl ⟨r, H', O', v, h1, hk _ _ h2, h3⟩
  · exact .inr ⟨x, H', O', h1, hj _ _ h2, h3⟩

theorem CallX.mono {P : Program} {f : FuncId} {args : List AV} {H : AH} {K K' : AV → AH → Prop} {J J' : Value → AH → Prop} (h : CallX P f args H K J) (hk : ∀ r H, K r H → K' r H) (hj : ∀ x H, J x H → J' x H) : CallX P f args H K' J' :=
  ⟨h.1, fun w O vs hw hO hH hl hr => (h.2 w O vs hw hO hH hl hr).mono fun _ _ => Ends.mono hk hj⟩
theorem CallX.of_ok {P : Program} {f : FuncId} {args : List AV} {H : AH} {K : AV → AH → Prop} {J : Value → AH → Prop} (h : CallOK P f args H K) : CallX P f args H K J := h.mono (fun _ _ h => h) fun _ _ h => h.elim

end Go.Fw
/- The abstract operations of the walks: what each operation of a region does to abstract values and heaps. Definitions alone. -/
namespace Go.Fw
set_option maxHeartbeats 8000000
set_option linter.all false
open Go

abbrev St := List (Nat × AV)
def St.get : St → Nat → AV
  | [], _ => .junk
  | (u, x) :: r, t => if u = t then x else St.get r t
def St.put (s : St) (d : Option Nat) (x : AV) : St := match d with | none => s | some d => (d, x) :: s
def St.keep (s : St) : List Nat → St
  | [] => []
  | t :: l => (t, s.get t) :: St.keep s l

def ev (s : St) : Operand → AV
  | .tmp t => s.get t
  | .const c => .v c
  | .global g => .v (.pointer (some ⟨g, 0, none⟩))
  | .func f => .clo f []

/-- The cells of a value. -/
def AV.cells : AV → List AV
  | .agg cs => cs
  | .v (.agg a) => a.toList.map AV.v
  | x => [x]

def allCell : List AV → Bool
  | [] => true
  | x :: r => x.cell && allCell r

def isAggD : TypeDesc → Bool
  | .struct _ => true
  | .array _ _ => true
  | _ => false

def apick (c a b : AV) (K : AV → Prop) : Prop :=
  match c with
  | .v (.bool t) => (t = true → K a) ∧ (t = false → K b)
  | _ => False

def anil (x : AV) (K : AV → Prop) : Prop :=
  match x with
  | .ptr b es i f => K (.ptr b es i f)
  | .ip e f => K (.ip e f)
  | .clo f cs => K (.clo f cs)
  | .v (.pointer (some a)) => K (.v (.pointer (some a)))
  | _ => False

def band (k : IntKind) (a b : Int) : Int := ((BitVec.ofInt k.bits a &&& BitVec.ofInt k.bits b).toNat : Int)
def bor (k : IntKind) (a b : Int) : Int := ((BitVec.ofInt k.bits a ||| BitVec.ofInt k.bits b).toNat : Int)
def bxor (k : IntKind) (a b : Int) : Int := ((BitVec.ofInt k.bits a ^^^ BitVec.ofInt k.bits b).toNat : Int)

def aint (op : BinOp) (k : IntKind) (a b : Int) (K : AV → Prop) : Prop :=
  match op with
  | .add => K (.v (.int k (k.wrap (a + b))))
  | .sub => K (.v (.int k (k.wrap (a - b))))
  | .mul => K (.v (.int k (k.wrap (a * b))))
  | .quo => b ≠ 0 ∧ K (.v (.int k (k.wrap (a.tdiv b))))
  | .rem => b ≠ 0 ∧ K (.v (.int k (a.tmod b)))
  | .and => K (.v (.int k (k.wrap (band k a b))))
  | .or => K (.v (.int k (k.wrap (bor k a b))))
  | .xor => K (.v (.int k (k.wrap (bxor k a b))))
  | .eql => K (.v (.bool (a == b)))
  | .neq => K (.v (.bool (a != b)))
  | .lss => K (.v (.bool (decide (a < b))))
  | .leq => K (.v (.bool (decide (a ≤ b))))
  | .gtr => K (.v (.bool (decide (a > b))))
  | .geq => K (.v (.bool (decide (a ≥ b))))
  | _ => False

def astr (op : BinOp) (a b : ByteArray) (K : AV → Prop) : Prop :=
  match op with
  | .add => a.size + b.size ≤ 9223372036854775807 ∧ K (.v (.string (a ++ b)))
  | .eql => K (.v (.bool (a.toList == b.toList)))
  | .neq => K (.v (.bool (!(a.toList == b.toList))))
  | .lss => K (.v (.bool (Op.bytesLess a.toList b.toList)))
  | .leq => K (.v (.bool (Op.bytesLess a.toList b.toList || a.toList == b.toList)))
  | .gtr => K (.v (.bool (!(Op.bytesLess a.toList b.toList || a.toList == b.toList))))
  | .geq => K (.v (.bool (!(Op.bytesLess a.toList b.toList))))
  | _ => False

/-- Is it a pointer that is surely not nil? -/
def AV.isPtr : AV → Bool
  | .ptr _ _ _ _ => true
  | .ip _ _ => true
  | _ => false

def aeq (P : Program) (t : TypeId) (neg : Bool) (x y : AV) (K : AV → Prop) : Prop :=
  match P.underlying t, x, y with
  | some .bool, .v (.bool a), .v (.bool b) => K (.v (.bool ((a == b) != neg)))
  | some (.pointer _), .v (.pointer none), .v (.pointer none) => K (.v (.bool (!neg)))
  | some (.pointer _), x, .v (.pointer none) => x.isPtr = true ∧ K (.v (.bool neg))
  | some (.pointer _), .v (.pointer none), y => y.isPtr = true ∧ K (.v (.bool neg))
  | some (.slice _), .v (.slice none 0 0), .v (.slice none 0 0) => K (.v (.bool (!neg)))
  | some (.slice _), .ov (some _) _ _ _ _, .v (.slice none 0 0) => K (.v (.bool neg))
  | some (.slice _), .ov none _ _ _ _, .v (.slice none 0 0) => K (.v (.bool true)) ∧ K (.v (.bool false))
  | some (.slice _), .imm _ xs, .v (.slice none 0 0) => K (.v (.bool neg)) ∧ (xs = [] → K (.v (.bool (!neg))))
  | _, _, _ => False

def abin (P : Program) (op : BinOp) (t : TypeId) (x y : AV) (K : AV → Prop) : Prop :=
  match op, x, y with
  | .shl, .v (.int k a), .v (.int _ n) => 0 ≤ n ∧ K (.v (.int k (k.wrap (a * 2 ^ (min n.toNat k.bits)))))
  | .shr, .v (.int k a), .v (.int _ n) => 0 ≤ n ∧ K (.v (.int k (a.fdiv (2 ^ (min n.toNat k.bits)))))
  | op, .v (.int k a), .v (.int k' b) => k = k' ∧ aint op k a b K
  | op, .v (.string a), .v (.string b) => astr op a b K
  | .eql, x, y => aeq P t false x y K
  | .neq, x, y => aeq P t true x y K
  | _, _, _ => False

def aun (op : UnOp) (x : AV) (K : AV → Prop) : Prop :=
  match op, x with
  | .not, .v (.bool b) => K (.v (.bool (!b)))
  | .neg, .v (.int k n) => K (.v (.int k (k.wrap (0 - n))))
  | .xor, .v (.int k n) => aint .xor k (if k.signed then -1 else k.max) n K
  | _, _ => False

/-- The row of cells that a pointer points into, and where. -/
def arow (x : AV) (H : AH) (K : List AV → Nat → Prop) : Prop :=
  match x with
  | .ptr b es i f => match H b with
    | some o => o.es = es ∧ es ≠ 0 ∧ ∃ e, o.xs[i]? = some e ∧ K e f
    | none => False
  | .ip e f => K e f
  | _ => False

def acut (P : Program) (t : TypeId) (e : List AV) (f : Nat) (K : AV → Prop) : Prop :=
  match P.underlying t with
  | some d => if isAggD d = true then f + P.cellsOf t ≤ e.length ∧ K (.agg ((e.drop f).take (P.cellsOf t))) else ∃ c, e[f]? = some c ∧ K c
  | none => False

def aload (P : Program) (t : TypeId) (x : AV) (H : AH) (K : AV → Prop) : Prop :=
  arow x H fun e f => acut P t e f K

def splice (e : List AV) (f : Nat) (cs : List AV) : List AV := e.take f ++ cs ++ e.drop (f + cs.length)

def astore (P : Program) (t : TypeId) (x y : AV) (H : AH) (K : AH → Prop) : Prop :=
  match x with
  | .ptr b es i f => if P.cellsOf t = 0 then (P.info? t).isSome = true ∧ allCell y.cells = true ∧ y.cells.length = 0 ∧ K H else match H b with
    | some o => o.es = es ∧ es ≠ 0 ∧ P.cellsOf t ≠ 0 ∧ ∃ e, o.xs[i]? = some e ∧ y.cells.length = P.cellsOf t ∧ f + P.cellsOf t ≤ e.length ∧ allCell y.cells = true ∧ K (H.set b ⟨es, o.xs.set i (splice e f y.cells)⟩)
    | none => False
  | _ => False

def afld (P : Program) (t : TypeId) (x : AV) (f : Nat) (K : AV → Prop) : Prop :=
  match P.underlying t with
  | some (.struct fs) => match fs[f]? with
    | some fd => P.cellsOf fd.type ≠ 0 ∧ (match x with
      | .ptr b es i g => K (.ptr b es i (g + fd.offset))
      | .ip e g => K (.ip e (g + fd.offset))
      | _ => False)
    | none => False
  | _ => False

def afield (P : Program) (t : TypeId) (x : AV) (f : Nat) (K : AV → Prop) : Prop :=
  match P.underlying t with
  | some (.struct fs) => match fs[f]? with
    | some fd => (match x with
      | .agg cs => acut P fd.type cs fd.offset K
      | .v (.agg a) => acut P fd.type (a.toList.map AV.v) fd.offset K
      | _ => False)
    | none => False
  | _ => False

def aidx (P : Program) (t : TypeId) (x i : AV) (K : AV → Prop) : Prop :=
  match P.underlying t with
  | some (.slice el) => (match x, i with
    | .ov (some b) off es n _, .v (.int _ k) => es = P.cellsOf el ∧ P.cellsOf el ≠ 0 ∧ 0 ≤ k ∧ k < n ∧ K (.ptr b es (off + k.toNat) 0)
    | .imm es xs, .v (.int _ k) => es = P.cellsOf el ∧ P.cellsOf el ≠ 0 ∧ 0 ≤ k ∧ ∃ e, xs[k.toNat]? = some e ∧ K (.ip e 0)
    | _, _ => False)
  | some (.array n el) => (match x, i with
    | .ptr b es j f, .v (.int _ k) => P.cellsOf el ≠ 0 ∧ 0 ≤ k ∧ k < n ∧ K (.ptr b es j (f + k.toNat * P.cellsOf el))
    | _, _ => False)
  | _ => False

def aindex (P : Program) (t : TypeId) (x i : AV) (K : AV → Prop) : Prop :=
  match P.underlying t, x, i with
  | some .string, .v (.string s), .v (.int _ k) => 0 ≤ k ∧ ∃ c, s[k.toNat]? = some c ∧ K (.v (.int .u8 c.toNat))
  | _, _, _ => False

/-- A bound of a cut: not given, or a number. -/
def abnd (s : St) (x : Option Operand) (dflt : Nat) (hi : Nat) (K : Nat → Prop) : Prop :=
  match x with
  | none => K dflt
  | some o => match ev s o with
    | .v (.int _ k) => 0 ≤ k ∧ k ≤ hi ∧ K k.toNat
    | _ => False

/-- A cut that does not begin at the very end; or an empty one. -/
def acut1 (lo : Option Operand) (n l h : Nat) (c : Option Nat) (p q : Prop) : Prop := ((lo = none ∨ l < n ∨ (∃ k, c = some k ∧ l < k)) ∧ p) ∨ (l = h ∧ q)

def aslice (P : Program) (t : TypeId) (x : AV) (lo hi mx : Option Operand) (s : St) (K : AV → Prop) : Prop :=
  match P.underlying t, mx with
  | some .string, none => (match x with
    | .v (.string c) => abnd s hi c.size c.size fun h => abnd s lo 0 h fun l => K (.v (.string (c.extract l h)))
    | _ => False)
  | some (.slice el), none => (match x with
    | .ov (some b) off es n c => es = P.cellsOf el ∧ P.cellsOf el ≠ 0 ∧ abnd s hi n (c.getD n) fun h => abnd s lo 0 h fun l => acut1 lo n l h c (K (.ov (some b) (off + l) es (h - l) (c.map (· - l)))) (K (.imm es []))
    | .imm es xs => es = P.cellsOf el ∧ P.cellsOf el ≠ 0 ∧ abnd s hi xs.length xs.length fun h => abnd s lo 0 h fun l => K (.imm es ((xs.take h).drop l))
    | .ov none _ es _ _ => P.cellsOf el ≠ 0 ∧ abnd s hi 0 0 fun h => abnd s lo 0 h fun _ => K (.ov none 0 es 0 none)
    | .v (.slice none 0 0) => P.cellsOf el ≠ 0 ∧ abnd s hi 0 0 fun h => abnd s lo 0 h fun _ => K (.v (.slice none 0 0))
    | _ => False)
  | some (.slice el), some m => P.cellsOf el ≠ 0 ∧ hi ≠ none ∧ (match x with
    | .ov (some b) off es n _ => es = P.cellsOf el ∧ abnd s (some m) n n fun m => abnd s hi n m fun h => abnd s lo 0 h fun l => if l < m then K (.ov (some b) (off + l) es (h - l) (some (m - l))) else K (.ov none 0 es 0 none)
    | .ov none _ es _ _ => abnd s (some m) 0 0 fun m => abnd s hi 0 m fun h => abnd s lo 0 h fun _ => K (.ov none 0 es 0 none)
    | .imm es xs => es = P.cellsOf el ∧ abnd s (some m) xs.length xs.length fun m => abnd s hi xs.length m fun h => abnd s lo 0 h fun l => K (.imm es ((xs.take h).drop l))
    | .v (.slice none 0 0) => abnd s (some m) 0 0 fun m => abnd s hi 0 m fun h => abnd s lo 0 h fun _ => K (.v (.slice none 0 0))
    | _ => False)
  | _, _ => False

def zeros (P : Program) (t : TypeId) : Option (List AV) := ((P.info? t).bind (·.zero)).map fun z => z.cells.toList.map AV.v

def fresh (H : AH) (b : Nat) : Prop := H b = none

def abox (x : AV) (H : AH) (K : AV → AH → Prop) : Prop :=
  allCell x.cells = true ∧ x.cells.length ≠ 0 ∧ ∀ b, fresh H b → K (.ptr b x.cells.length 0 0) (H.set b ⟨x.cells.length, [x.cells]⟩)

def aalloc (P : Program) (t : TypeId) (H : AH) (K : AV → AH → Prop) : Prop :=
  match zeros P t with
  | some cs => if cs.length = 0 then ∀ b, K (.ptr b 0 0 0) H else allCell cs = true ∧ cs.length ≠ 0 ∧ ∀ b, fresh H b → K (.ptr b cs.length 0 0) (H.set b ⟨cs.length, [cs]⟩)
  | none => False

def amake (P : Program) (t : TypeId) (l c : AV) (H : AH) (K : AV → AH → Prop) : Prop :=
  match P.underlying t, l, c with
  | some (.slice el), .v (.int .i64 n), .v (.int .i64 m) => (match zeros P el with
    | some z => 0 ≤ n ∧ n ≤ m ∧ m * P.bytesOf el ≤ 281474976710656 ∧ m ≤ 9223372036854775807 ∧ 0 < z.length ∧ z.length = P.cellsOf el ∧ allCell z = true ∧
        ∀ b, fresh H b → K (.ov (some b) 0 (P.cellsOf el) n.toNat (some m.toNat)) (H.set b ⟨P.cellsOf el, List.replicate m.toNat z⟩)
    | none => False)
  | _, _, _ => False

def sizedF (P : Program) : List Field → Prop
  | [] => True
  | f :: r => P.cellsOf f.type ≠ 0 ∧ sizedF P r

def afill (P : Program) (fs : Array Field) (s : St) : List (Nat × Operand) → List AV → Option (List AV)
  | [], cs => some cs
  | (i, x) :: r, cs =>
    match fs[i]? with
    | some fd => let y := (ev s x).cells
      if y.length = P.cellsOf fd.type ∧ fd.offset + y.length ≤ cs.length ∧ allCell y = true then afill P fs s r (splice cs fd.offset y) else none
    | none => none

def afillA (es : Nat) (s : St) : List (Nat × Operand) → List AV → Option (List AV)
  | [], cs => some cs
  | (i, x) :: r, cs =>
    let y := (ev s x).cells
    if y.length = es ∧ i * es + y.length ≤ cs.length ∧ allCell y = true then afillA es s r (splice cs (i * es) y) else none

def abuild (P : Program) (t : TypeId) (ps : Array (Nat × Operand)) (s : St) (K : AV → Prop) : Prop :=
  match P.underlying t, zeros P t with
  | some (.struct fs), some z => sizedF P fs.toList ∧ allCell z = true ∧ (match afill P fs s ps.toList z with
    | some cs => K (.agg cs)
    | none => False)
  | some (.array _ el), some z => P.cellsOf el ≠ 0 ∧ allCell z = true ∧ (match afillA (P.cellsOf el) s ps.toList z with
    | some cs => K (.agg cs)
    | none => False)
  | _, _ => False

def afillS (es : Nat) (s : St) : List (Nat × Operand) → List (List AV) → Option (List (List AV))
  | [], cs => some cs
  | (i, x) :: r, cs =>
    let y := (ev s x).cells
    if y.length = es ∧ i < cs.length ∧ allCell y = true then afillS es s r (cs.set i y) else none

def abuildS (P : Program) (t : TypeId) (n : Nat) (ps : Array (Nat × Operand)) (s : St) (K : AV → Prop) : Prop :=
  match P.underlying t with
  | some (.slice el) => (match zeros P el with
    | some z => 0 < z.length ∧ z.length = P.cellsOf el ∧ allCell z = true ∧ n * z.length ≤ 16777216 ∧ (match afillS z.length s ps.toList (List.replicate n z) with
      | some xs => if n = 0 then K (.ov none 0 z.length 0 none) else K (.imm z.length xs)
      | none => False)
    | none => False)
  | _ => False

def aext (x : AV) (i : Nat) (K : AV → Prop) : Prop :=
  match x with
  | .tup cs => ∃ c, cs[i]? = some c ∧ K c
  | .v (.tuple a) => ∃ c, a[i]? = some c ∧ K (.v c)
  | _ => False

def alen (P : Program) (t : TypeId) (x : AV) (K : AV → Prop) : Prop :=
  match P.underlying t, x with
  | some .string, .v (.string s) => K (.v (.int .i64 s.size))
  | some (.slice _), .ov _ _ _ n _ => K (.v (.int .i64 n))
  | some (.slice _), .imm _ xs => K (.v (.int .i64 xs.length))
  | some (.slice _), .v (.slice _ n _) => K (.v (.int .i64 n))
  | some (.array n _), _ => K (.v (.int .i64 n))
  | _, _ => False

def AH.own (H : AH) (b : Option Nat) (o : AObj) : AH := match b with | none => H | some b => H.set b o

/-- The elements that are appended. -/
def asrc (x : AV) (H : AH) (es : Nat) (K : List (List AV) → Prop) : Prop :=
  match x with
  | .imm es' xs => es' = es ∧ K xs
  | .v (.slice none 0 0) => K []
  | .v (.string s) => es = 1 ∧ K (s.toList.map fun c => [.v (.int .u8 c.toNat)])
  | .ov none _ _ _ _ => K []
  | .ov (some b) off es' n _ => (match H b with
    | some o => o.es = es' ∧ es' = es ∧ off + n ≤ o.xs.length ∧ K ((o.xs.drop off).take n)
    | none => False)
  | _ => False

/-- Where what is appended to is given up: a vector that begins at its block's head. -/
def adst (x : AV) (H : AH) (es : Nat) (K : List (List AV) → Option Nat → AH → Prop) : Prop :=
  match x with
  | .v (.slice none 0 0) => K [] none H
  | .ov none _ _ _ _ => K [] none H
  | .ov (some b) 0 es' n _ => (match H b with
    | some o => o.es = es' ∧ es' = es ∧ n ≤ o.xs.length ∧ K (o.xs.take n) (some b) (H.del b)
    | none => False)
  | _ => False

/-- What is appended to is given up. -/
def aappD (P : Program) (el : TypeId) (es : Nat) (d : AV) (new : List (List AV)) (H : AH) (K : AV → AH → Prop) : Prop :=
  adst d H es fun old _ H' =>
    (old.length + new.length) * P.bytesOf el ≤ 140737488355328 ∧ old.length + new.length ≤ 9223372036854775807 ∧
    ∀ ob, (∀ b, ob = some b → fresh H' b) → (ob = none → old ++ new = []) →
      K (.ov ob 0 es (old.length + new.length) none) (H'.own ob ⟨es, old ++ new⟩)

/-- Either there is room for what is appended, and the block is written; or all of it lies in a new one, and the old one stays. -/
def aappP (P : Program) (el : TypeId) (es : Nat) (d : AV) (new : List (List AV)) (H : AH) (K : AV → AH → Prop) : Prop :=
  match d with
  | .ov (some b) 0 es' n none => (match H b with
    | some o => o.es = es' ∧ es' = es ∧ n ≤ o.xs.length ∧ (n + new.length) * P.bytesOf el ≤ 140737488355328 ∧ n + new.length ≤ 9223372036854775807 ∧
        K (.ov (some b) 0 es (n + new.length) none) (H.set b ⟨es, o.xs.take n ++ new ++ o.xs.drop (n + new.length)⟩) ∧
        ∀ b', fresh H b' → K (.ov (some b') 0 es (n + new.length) none) (H.set b' ⟨es, o.xs.take n ++ new⟩)
    | none => False)
  | _ => False

/-- There is room for what is appended. -/
def aappI (es : Nat) (d : AV) (new : List (List AV)) (H : AH) (K : AV → AH → Prop) : Prop :=
  match d with
  | .ov (some b) off es' n (some c) => (match H b with
    | some o => o.es = es' ∧ es' = es ∧ off + n ≤ o.xs.length ∧ n + new.length ≤ c ∧
        K (.ov (some b) off es (n + new.length) (some c)) (H.set b ⟨es, o.xs.take (off + n) ++ new ++ o.xs.drop (off + n + new.length)⟩)
    | none => False)
  | _ => False

def aapp (P : Program) (ts : Array TypeId) (d x : AV) (H : AH) (K : AV → AH → Prop) : Prop :=
  match ts[0]? with
  | some t => (match P.underlying t with
    | some (.slice el) => (match zeros P el, ts[1]? with
      | some z, some u => (match P.underlying u with
        | some (.int _) => False
        | some _ => 0 < z.length ∧ z.length = P.cellsOf el ∧ allCell z = true ∧ asrc x H z.length fun new => aappD P el z.length d new H K ∨ aappP P el z.length d new H K ∨ aappI z.length d new H K
        | none => False)
      | _, _ => False)
    | _ => False)
  | none => False

/-- Elements are copied over others; there is room for all. -/
def acopy (P : Program) (ts : Array TypeId) (d x : AV) (H : AH) (K : AV → AH → Prop) : Prop :=
  match ts[0]? with
  | some t => (match P.underlying t with
    | some (.slice el) => P.cellsOf el ≠ 0 ∧ asrc x H (P.cellsOf el) fun new => (match d with
      | .ov (some b) off es n _ => (match H b with
        | some o => o.es = es ∧ es = P.cellsOf el ∧ off + n ≤ o.xs.length ∧ new.length ≤ n ∧
            K (.v (.int .i64 new.length)) (H.set b ⟨es, o.xs.take off ++ new ++ o.xs.drop (off + new.length)⟩)
        | none => False)
      | _ => False)
    | _ => False)
  | none => False

def keysOf : List (List AV) → List (List UInt8)
  | [.v (.string k)] :: r => k.data.toList :: keysOf r
  | _ => []
theorem keysOf_set (ks : List (List UInt8)) : keysOf (setRows ks) = ks := by
  induction ks with
  | nil => rfl
  | cons k r ih => show k :: keysOf (setRows r) = k :: r; rw [ih]

/-- A value without anything in memory. -/
def concs : List AV → Option (List Value)
  | [] => some []
  | .v x :: r => (concs r).map (x :: ·)
  | _ :: _ => none
def conc : AV → Option Value
  | .v x => some x
  | .agg cs => (concs cs).map fun l => .agg l.toArray
  | _ => none
/-- Is a text in a set? -/
def alook (P : Program) (t : TypeId) (x k : AV) (ok : Bool) (H : AH) (K : AV → Prop) : Prop :=
  match P.underlying t, x, k, ok with
  | some (.map kt et), .mp b, .v (.string s), true => P.underlying kt = some .string ∧ (P.info? et).bind (·.zero) = some (.agg #[]) ∧ (match H b with
    | some o => o.es = 0 ∧ K (.tup [.v (.agg #[]), .v (.bool (decide (s.data.toList ∈ keysOf o.xs)))])
    | none => False)
  | _, _, _, _ => False
/-- A text is put into a set. -/
def aupd (P : Program) (t : TypeId) (x k v : AV) (H : AH) (K : AH → Prop) : Prop :=
  match P.underlying t, x, k with
  | some (.map kt _), .mp b, .v (.string s) => P.underlying kt = some .string ∧ conc v = some (.agg #[]) ∧ (match H b with
    | some o => o.es = 0 ∧ K (H.set b ⟨0, if s.data.toList ∈ keysOf o.xs then o.xs else o.xs ++ [[.v (.string s)]]⟩)
    | none => False)
  | _, _, _ => False

def aiface (P : Program) (t : TypeId) (x : AV) (K : AV → Prop) : Prop :=
  match P.underlying t, conc x with
  | some (.interface _), _ => False
  | some _, some v => K (.v (.iface t v))
  | _, _ => False

/-- The bytes of rows. -/
def bytesOf : List (List AV) → Option (List UInt8)
  | [] => some []
  | [.v (.int .u8 n)] :: r => (bytesOf r).map (UInt8.ofNat n.toNat :: ·)
  | _ :: _ => none

def aclear (P : Program) (ts : Array TypeId) (d : AV) (H : AH) (K : AV → AH → Prop) : Prop :=
  match ts[0]? with
  | some t => (match P.underlying t with
    | some (.slice el) => (match zeros P el, d with
      | some z, .ov (some b) off es n _ => (match H b with
        | some o => o.es = es ∧ es = z.length ∧ z.length = P.cellsOf el ∧ es ≠ 0 ∧ allCell z = true ∧ off + n ≤ o.xs.length ∧ K (.tup []) (H.set b ⟨es, o.xs.take off ++ List.replicate n z ++ o.xs.drop (off + n)⟩)
        | none => False)
      | _, _ => False)
    | _ => False)
  | none => False

def amin (x y : AV) (K : AV → Prop) : Prop :=
  match x, y with
  | .v (.int k a), .v (.int _ b) => K (.v (.int k (if b < a then b else a)))
  | _, _ => False

def acall (P : Program) (c : Call) (s : St) (H : AH) (K : AV → AH → Prop) (J : Value → AH → Prop) : Prop :=
  match c.callee with
  | .value f => (match ev s f with
    | .clo g cs => CallX P g (c.args.toList.map (ev s) ++ cs) H K J
    | _ => False)
  | .builtin .len => (match c.argTypes[0]?, c.args[0]? with
    | some t, some x => alen P t (ev s x) (K · H)
    | _, _ => False)
  | .builtin .append => (match c.args[0]?, c.args[1]? with
    | some d, some x => aapp P c.argTypes (ev s d) (ev s x) H K
    | _, _ => False)
  | .builtin .copy => (match c.args[0]?, c.args[1]? with
    | some d, some x => acopy P c.argTypes (ev s d) (ev s x) H K
    | _, _ => False)
  | .builtin .clear => (match c.args[0]? with
    | some d => aclear P c.argTypes (ev s d) H K
    | _ => False)
  | .builtin .min => (match c.args.toList with
    | [x, y] => amin (ev s x) (ev s y) (K · H)
    | _ => False)
  | _ => False

def aconv (P : Program) (a b : TypeId) (x : AV) (H : AH) (K : AV → Prop) : Prop :=
  match P.underlying a, P.underlying b, x with
  | some _, some (.int k), .v (.int _ n) => K (.v (.int k (k.wrap n)))
  | some _, some .string, .v (.string s) => K (.v (.string s))
  | some (.slice el), some .string, x => P.underlying el = some (.int .u8) ∧ asrc x H 1 fun rows => ∃ l, bytesOf rows = some l ∧ K (.v (.string ⟨l.toArray⟩))
  | _, _, _ => False

def aop (P : Program) (op : Op) (s : St) (H : AH) (K : AV → AH → Prop) (J : Value → AH → Prop) : Prop :=
  match op with
  | .move x => K (ev s x) H
  | .assign x => K (ev s x) H
  | .pick c a b => apick (ev s c) (ev s a) (ev s b) (K · H)
  | .nilCheck x => anil (ev s x) (K · H)
  | .binOp op t x y _ => abin P op t (ev s x) (ev s y) (K · H)
  | .unOp op _ x => aun op (ev s x) (K · H)
  | .convert a b x => aconv P a b (ev s x) H (K · H)
  | .load t x => aload P t (ev s x) H (K · H)
  | .store t x y => astore P t (ev s x) (ev s y) H (K .junk)
  | .fieldAddr t x f => afld P t (ev s x) f (K · H)
  | .field t x f => afield P t (ev s x) f (K · H)
  | .indexAddr t x i => aidx P t (ev s x) (ev s i) (K · H)
  | .index t x i => aindex P t (ev s x) (ev s i) (K · H)
  | .slice t x lo hi mx => aslice P t (ev s x) lo hi mx s (K · H)
  | .makeSlice t l c => amake P t (ev s l) (ev s c) H K
  | .build t ps => abuild P t ps s (K · H)
  | .buildSlice t n ps => abuildS P t n ps s (K · H)
  | .box _ x => abox (ev s x) H K
  | .alloc t => aalloc P t H K
  | .extract x i => aext (ev s x) i (K · H)
  | .makeFunc (.func f) first cs => first = #[] ∧ K (.clo f (cs.toList.map (ev s))) H
  | .makeInterface t x => aiface P t (ev s x) (K · H)
  | .makeMap _ none => ∀ b, fresh H b → K (.mp b) (H.set b ⟨0, []⟩)
  | .lookup t x k ok => alook P t (ev s x) (ev s k) ok H (K · H)
  | .mapUpdate t x k v => aupd P t (ev s x) (ev s k) (ev s v) H (K .junk)
  | .panic x => (match ev s x with
    | .v (.iface t v) => J (.iface t v) H
    | _ => False)
  | .call c => acall P c s H K J
  | _ => False

/-- The slot of the operation that a guard looks at. -/
def gslot (all : List Oper) (j : Nat) : Option Nat := (all[j]?).bind (·.dst)

def inN (n : Nat) : Option Nat → Prop
  | none => True
  | some d => d < n

/-- A statement that is looked into only where it is asked to be. -/
structure Hide (p : Prop) : Prop where
  out : p

/-- A region in the text's order. -/
def areg (P : Program) (n : Nat) (all : List Oper) : List Oper → St → AH → (St → AH → Prop) → (Value → AH → Prop) → Prop
  | [], s, H, K, _ => K s H
  | o :: r, s, H, K, J =>
    inN n o.dst ∧
    (match o.guard with
     | none => aop P o.op s H (fun x H' => Hide (areg P n all r (s.put o.dst x) H' K J)) J
     | some (j, want) => (match gslot all j with
       | some d => (match s.get d with
         | .v (.bool c) =>
           (c = want → aop P o.op s H (fun x H' => Hide (areg P n all r (s.put o.dst x) H' K J)) J) ∧
           (c = !want → Hide (areg P n all r (s.put o.dst (.v undef)) H K J))
         | .v (.tuple _) => Hide (areg P n all r (s.put o.dst (.v undef)) H K J)
         | _ => False)
       | none => False))

end Go.Fw
/- Each abstract operation is what the model's operation does: the operations that only compute or read. -/
namespace Go.Fw
set_option maxHeartbeats 8000000
set_option linter.all false
open Go

variable {df : List Deferred} {P : Program} {w w0 : World} {O O0 D0 : Nat → Prop} {H : AH} {s : St} {a : Act} {n : Nat} {t : TypeId}

theorem St.get_put (s : St) (d t : Nat) (x : AV) : (s.put (some d) x).get t = if d = t then x else s.get t := rfl

theorem St.get_keep (s : St) (l : List Nat) (t : Nat) : (s.keep l).get t = s.get t ∨ (s.keep l).get t = .junk := by
  induction l with
  | nil => exact .inr rfl
  | cons u l ih =>
    show (if u = t then s.get u else (s.keep l).get t) = s.get t ∨ (if u = t then s.get u else (s.keep l).get t) = .junk
    split
    · rename_i h; exact .inl (by rw [h])
    · exact ih

/-- The frame's slots and the heap are as the abstract state says. -/
structure Mod (df : List Deferred) (w0 : World) (O0 D0 : Nat → Prop) (n : Nat) (s : St) (H : AH) (a : Act) (w : World) (O : Nat → Prop) : Prop where
  heap : Heap w0 O0 D0 w O H
  defers : a.defers = df
  size : a.tmps.size = n
  tmps : ∀ t, Rep w O (s.get t) (a.tmps.getD t undef)
  base : Kn w0 O0
  sub : ∀ b, D0 b → O0 b

theorem Mod.kn (h : Mod df w0 O0 D0 n s H a w O) : Kn w O := h.base.ext h.heap.ext h.sub

theorem Mod.ev (h : Mod df w0 O0 D0 n s H a w O) (x : Operand) : Rep w O (ev s x) (a.eval x) := by
  cases x with
  | tmp t => exact h.tmps t
  | const c => exact .v c
  | global g => exact .v _
  | func f => exact .clo f [] [] rfl (fun i x y h => by simp at h)

/-- A pure operation: its value, of which K holds. -/
def Gives (P : Program) (w : World) (O : Nat → Prop) (K : AV → Prop) (m : Sem Value) : Prop := ∃ x y, K x ∧ Rep w O x y ∧ m.run P w = .ok y w

theorem Gives.pure {K : AV → Prop} {x : AV} {y : Value} (hk : K x) (hr : Rep w O x y) : Gives P w O K (Pure.pure y) := ⟨x, y, hk, hr, rfl⟩

theorem Rep.inv_int {k : IntKind} {m : Int} {y : Value} (h : Rep w O (.v (.int k m)) y) : y = .int k m := by cases h; rfl
theorem Rep.inv_v {x y : Value} (h : Rep w O (.v x) y) : y = x := by cases h; rfl

theorem pick_ok {c x y : AV} {vc vx vy : Value} {K : AV → Prop} (h : apick c x y K) (hc : Rep w O c vc) (hx : Rep w O x vx) (hy : Rep w O y vy) :
    Gives P w O K (do pure (if ← asBool vc then vx else vy)) := by
  unfold apick at h
  split at h
  · rename_i t
    cases hc
    cases t with
    | true => exact ⟨x, vx, h.1 rfl, hx, by simp [asBool]⟩
    | false => exact ⟨y, vy, h.2 rfl, hy, by simp [asBool]⟩
  · exact h.elim

theorem int_ok {op : BinOp} {k : IntKind} {x y : Int} {K : AV → Prop} (h : aint op k x y K) : Gives P w O K (binOp op t (.int k x) (.int k y)) := by
  cases op <;> simp only [aint] at h
  case quo => exact ⟨_, _, h.2, .v _, by simp [binOp, Op.intDiv, h.1]⟩
  case rem => exact ⟨_, _, h.2, .v _, by simp [binOp, Op.intDiv, h.1]⟩
  all_goals refine ⟨_, _, h, .v _, ?_⟩
  all_goals simp only [binOp, ne_eq, not_true_eq_false, if_false, Op.intArith, Op.intBits, Op.intCmp]
  all_goals rfl

theorem str_ok {op : BinOp} {x y : ByteArray} {K : AV → Prop} (h : astr op x y K) : Gives P w O K (binOp op t (.string x) (.string y)) := by
  cases op <;> simp only [astr] at h
  case add =>
    refine ⟨_, _, h.2, .v _, ?_⟩
    have h1 : ¬ ((x.size + y.size : Nat) : Int) > IntKind.i64.max := by
      have := h.1
      have e : IntKind.i64.max = 9223372036854775807 := by decide
      rw [e]; omega
    simp only [binOp, Op.stringOp]
    rw [if_neg h1]; rfl
  all_goals first
    | exact h.elim
    | exact ⟨_, _, h, .v _, rfl⟩

theorem isPtr_some {x : AV} {y : Value} (h : Rep w O x y) (hx : x.isPtr = true) : ∃ p, y = .pointer (some p) := by
  cases h <;> simp [AV.isPtr] at hx
  · exact ⟨_, rfl⟩
  · exact ⟨_, rfl⟩

theorem equalIn_ptr_l {e : TypeId} (hu : P.underlying t = some (.pointer e)) (p : Addr) (d : Nat) : (Op.equalIn (d + 1) t (.pointer (some p)) (.pointer none)).run P w = .ok false w := by
  simp [Op.equalIn, run_underlying hu]
theorem equalIn_ptr_r {e : TypeId} (hu : P.underlying t = some (.pointer e)) (p : Addr) (d : Nat) : (Op.equalIn (d + 1) t (.pointer none) (.pointer (some p))).run P w = .ok false w := by
  simp [Op.equalIn, run_underlying hu]
theorem equalIn_nil {e : TypeId} (hu : P.underlying t = some (.pointer e)) (d : Nat) : (Op.equalIn (d + 1) t (.pointer none) (.pointer none)).run P w = .ok true w := by
  simp [Op.equalIn, run_underlying hu]
theorem equalIn_bool (hu : P.underlying t = some .bool) (x y : Bool) (d : Nat) : (Op.equalIn (d + 1) t (.bool x) (.bool y)).run P w = .ok (x == y) w := by
  simp [Op.equalIn, run_underlying hu]
theorem eql_ptr_l {e : TypeId} (hu : P.underlying t = some (.pointer e)) (p : Addr) : (Op.equal t (.pointer (some p)) (.pointer none)).run P w = .ok false w := equalIn_ptr_l hu p 9999
theorem eql_ptr_r {e : TypeId} (hu : P.underlying t = some (.pointer e)) (p : Addr) : (Op.equal t (.pointer none) (.pointer (some p))).run P w = .ok false w := equalIn_ptr_r hu p 9999
theorem eql_nil {e : TypeId} (hu : P.underlying t = some (.pointer e)) : (Op.equal t (.pointer none) (.pointer none)).run P w = .ok true w := equalIn_nil hu 9999
theorem eql_bool (hu : P.underlying t = some .bool) (x y : Bool) : (Op.equal t (.bool x) (.bool y)).run P w = .ok (x == y) w := equalIn_bool hu x y 9999

theorem equalIn_sl {e : TypeId} (hu : P.underlying t = some (.slice e)) (p : Addr) (m c d : Nat) : (Op.equalIn (d + 1) t (.slice (some p) m c) (.slice none 0 0)).run P w = .ok false w := by
  simp [Op.equalIn, run_underlying hu]
theorem equalIn_slnil {e : TypeId} (hu : P.underlying t = some (.slice e)) (m c d : Nat) : (Op.equalIn (d + 1) t (.slice none m c) (.slice none 0 0)).run P w = .ok true w := by
  simp [Op.equalIn, run_underlying hu]
theorem eql_sl {e : TypeId} (hu : P.underlying t = some (.slice e)) {p : Addr} {m c : Nat} : (Op.equal t (.slice (some p) m c) (.slice none 0 0)).run P w = .ok false w := equalIn_sl hu p m c 9999
theorem eql_slnil {e : TypeId} (hu : P.underlying t = some (.slice e)) : (Op.equal t (.slice none 0 0) (.slice none 0 0)).run P w = .ok true w := equalIn_slnil hu 0 0 9999
theorem eql_slnil' {e : TypeId} (hu : P.underlying t = some (.slice e)) {m c : Nat} : (Op.equal t (.slice none m c) (.slice none 0 0)).run P w = .ok true w := equalIn_slnil hu m c 9999

/-- '==' and '!=' between values that are no numbers and no texts. -/
theorem eq_ok {neg : Bool} {x y : AV} {vx vy : Value} {K : AV → Prop} (h : aeq P t neg x y K) (hx : Rep w O x vx) (hy : Rep w O y vy) :
    Gives P w O K (do pure (.bool ((← Op.equal t vx vy) != neg))) ∧ (∀ k m, vx ≠ .int k m) ∧ (∀ k m, vx ≠ .float k m) ∧ (∀ k m l, vx ≠ .complex k m l) ∧ (∀ c, vx ≠ .string c) ∧ vx ≠ .nilIface ∧ (∀ l, vx ≠ .agg l) := by
  unfold aeq at h
  split at h
  · rename_i hu
    cases hx; cases hy
    exact ⟨⟨_, _, h, .v _, by simp [eql_bool hu]⟩, by simp, by simp, by simp, by simp, by simp, by simp⟩
  · rename_i hu
    cases hx; cases hy
    exact ⟨⟨_, _, h, .v _, by simp [eql_nil hu]⟩, by simp, by simp, by simp, by simp, by simp, by simp⟩
  · obtain ⟨e, hu⟩ : ∃ e, P.underlying t = some (.pointer e) := ⟨_, by assumption⟩
    obtain ⟨p, rfl⟩ := isPtr_some hx h.1
    cases hy
    exact ⟨⟨_, _, h.2, .v _, by simp [eql_ptr_l hu]⟩, by simp, by simp, by simp, by simp, by simp, by simp⟩
  · obtain ⟨e, hu⟩ : ∃ e, P.underlying t = some (.pointer e) := ⟨_, by assumption⟩
    obtain ⟨p, rfl⟩ := isPtr_some hy h.1
    cases hx
    exact ⟨⟨_, _, h.2, .v _, by simp [eql_ptr_r hu]⟩, by simp, by simp, by simp, by simp, by simp, by simp⟩
  · rename_i hu
    cases hx; cases hy
    exact ⟨⟨_, _, h, .v _, by simp [eql_slnil hu]⟩, by simp, by simp, by simp, by simp, by simp, by simp⟩
  · rename_i hu
    cases hy
    cases hx
    exact ⟨⟨_, _, h, .v _, by simp [eql_sl hu]⟩, by simp, by simp, by simp, by simp, by simp, by simp⟩
  · rename_i hu
    cases hy
    cases hx with
    | ovn es ad =>
      cases ad with
      | none => exact ⟨⟨_, _, (by cases neg; exact h.1; exact h.2 : K (.v (.bool (!neg)))), .v _, by simp [eql_slnil hu]⟩, by simp, by simp, by simp, by simp, by simp, by simp⟩
      | some ad => exact ⟨⟨_, _, (by cases neg; exact h.2; exact h.1 : K (.v (.bool neg))), .v _, by simp [eql_sl hu]⟩, by simp, by simp, by simp, by simp, by simp, by simp⟩
  · rename_i hu
    cases hy
    cases hx with
    | imn es ad c =>
      cases ad with
      | none => exact ⟨⟨_, _, h.2 rfl, .v _, by simp [eql_slnil' hu]⟩, by simp, by simp, by simp, by simp, by simp, by simp⟩
      | some ad => exact ⟨⟨_, _, h.1, .v _, by simp [eql_sl hu]⟩, by simp, by simp, by simp, by simp, by simp, by simp⟩
    | imm es xs b o c cells t fr vals hw hO hc hes h1 h2 => exact ⟨⟨_, _, h.1, .v _, by simp [eql_sl hu]⟩, by simp, by simp, by simp, by simp, by simp, by simp⟩
  · exact h.elim

theorem bin_ok {op : BinOp} {x y : AV} {vx vy : Value} {ox oy : Operand} {K : AV → Prop} (h : abin P op t x y K) (hx : Rep w O x vx) (hy : Rep w O y vy) :
    Gives P w O K (do eqGuard op t ox oy vx vy; binOp op t vx vy) := by
  unfold abin at h
  split at h
  · cases hx; cases hy
    refine ⟨_, _, h.2, .v _, ?_⟩
    have h1 : ¬ (_ : Int) < 0 := Int.not_lt.2 h.1
    simp only [eqGuard, binOp, Op.shift, if_neg h1]
    rfl
  · cases hx; cases hy
    refine ⟨_, _, h.2, .v _, ?_⟩
    have h1 : ¬ (_ : Int) < 0 := Int.not_lt.2 h.1
    simp only [eqGuard, binOp, Op.shift, if_neg h1]
    rfl
  · cases hx; cases hy
    obtain ⟨rfl, h⟩ := h
    obtain ⟨x, y, h1, h2, h3⟩ := int_ok (P := P) (w := w) (O := O) (t := t) h
    refine ⟨x, y, h1, h2, ?_⟩
    cases op <;> simpa [eqGuard] using h3
  · cases hx; cases hy
    obtain ⟨x, y, h1, h2, h3⟩ := str_ok (P := P) (w := w) (O := O) (t := t) h
    refine ⟨x, y, h1, h2, ?_⟩
    cases op <;> simpa [eqGuard] using h3
  · obtain ⟨⟨x, y, h1, h2, h3⟩, n1, n2, n3, n4, n5, n6⟩ := eq_ok h hx hy
    refine ⟨x, y, h1, h2, ?_⟩
    rw [← h3]
    cases vx <;> first
      | exact absurd rfl (n1 _ _)
      | exact absurd rfl (n2 _ _)
      | exact absurd rfl (n3 _ _ _)
      | exact absurd rfl (n4 _)
      | exact absurd rfl n5
      | exact absurd rfl (n6 _)
      | simp [eqGuard, binOp]
  · obtain ⟨⟨x, y, h1, h2, h3⟩, n1, n2, n3, n4, n5, n6⟩ := eq_ok h hx hy
    refine ⟨x, y, h1, h2, ?_⟩
    rw [← h3]
    cases vx <;> first
      | exact absurd rfl (n1 _ _)
      | exact absurd rfl (n2 _ _)
      | exact absurd rfl (n3 _ _ _)
      | exact absurd rfl (n4 _)
      | exact absurd rfl n5
      | exact absurd rfl (n6 _)
      | simp [eqGuard, binOp]
  · exact h.elim

theorem un_ok {op : UnOp} {x : AV} {vx : Value} {K : AV → Prop} (h : aun op x K) (hx : Rep w O x vx) : Gives P w O K (Op.unary op vx) := by
  unfold aun at h
  split at h
  · cases hx; exact ⟨_, _, h, .v _, rfl⟩
  · cases hx; exact ⟨_, _, h, .v _, rfl⟩
  · cases hx
    have h' : K _ := h
    exact ⟨_, _, h', .v _, rfl⟩
  · exact h.elim

end Go.Fw
/- The operations that read memory or cut it: each abstract one is what the model's one does. -/
namespace Go.Fw
set_option maxHeartbeats 8000000
set_option linter.all false
open Go

variable {df : List Deferred} {P : Program} {w w0 : World} {O O0 D0 : Nat → Prop} {H : AH} {s : St} {a : Act} {n : Nat} {t : TypeId}

/-- All that H says holds of w. -/
def Holds (w : World) (O : Nat → Prop) (H : AH) : Prop := ∀ b o, H b = some o → O b ∧ ObjRep w O b o

theorem Heap.holds (h : Heap w0 O0 D0 w O H) : Holds w O H := fun b o hb => ⟨(h.dom b o hb).1, h.rep b o hb⟩

/-- A row of cells that may be read. -/
structure RowAt (w : World) (O : Nat → Prop) (e : List AV) (b off : Nat) where
  cells : Array Value
  t : TypeId
  fr : Nat × Nat
  vals : Nat → Value
  heap : w.heap[b]? = some (.cells cells t fr)
  one : ∀ x ∈ e, x.cell = true
  at_ : ∀ (j : Nat) x, e[j]? = some x → cells[off + j]? = some (vals j)
  rep : ∀ (j : Nat) x, e[j]? = some x → Rep w O x (vals j)

theorem choose_vals {e : List AV} {cells : Array Value} {off : Nat} (h : ∀ (j : Nat) x, e[j]? = some x → ∃ y, cells[off + j]? = some y ∧ Rep w O x y) :
    ∃ vals : Nat → Value, ∀ (j : Nat) x, e[j]? = some x → cells[off + j]? = some (vals j) ∧ Rep w O x (vals j) := by
  refine ⟨fun j => (cells[off + j]?).getD undef, fun j x hj => ?_⟩
  obtain ⟨y, h1, h2⟩ := h j x hj
  show cells[off + j]? = some ((cells[off + j]?).getD undef) ∧ Rep w O x ((cells[off + j]?).getD undef)
  rw [h1]
  exact ⟨rfl, h2⟩

theorem row_ok {x : AV} {vx : Value} {K : List AV → Nat → Prop} (h : arow x H K) (hx : Rep w O x vx) (hH : Holds w O H) :
    ∃ e f b off, K e f ∧ vx = .pointer (some ⟨b, off + f, none⟩) ∧ Nonempty (RowAt w O e b off) := by
  unfold arow at h
  split at h
  · split at h
    · rename_i b es i f _ o ho
      obtain ⟨he, hz, e, hi, hk⟩ := h
      cases hx
      obtain ⟨cells, t, h1, h2, h3, h4⟩ := (hH b o ho).2.rows (he ▸ hz)
      obtain ⟨vals, hv⟩ := choose_vals (w := w) (O := O) (e := e) (cells := cells) (off := i * o.es) fun j x hj => h4 i e j x hi hj
      exact ⟨e, f, b, i * es, hk, rfl, ⟨cells, t, (0, 0), vals, h1, (h3 e (List.mem_of_getElem? hi)).2, fun j x hj => he ▸ (hv j x hj).1, fun j x hj => (hv j x hj).2⟩⟩
    · exact h.elim
  · cases hx with
    | ip e f b o cells t fr vals hw hO hes h1 h2 => exact ⟨_, _, b, o, h, rfl, ⟨cells, t, fr, vals, hw, hes, h1, h2⟩⟩
  · exact h.elim

theorem run_isAgg {d : TypeDesc} (hd : P.underlying t = some d) : (isAgg t).run P w = .ok (isAggD d) w := by
  cases d <;> simp [isAgg, run_underlying hd, isAggD]

theorem info_of_underlying {d : TypeDesc} (hd : P.underlying t = some d) : ∃ i, P.info? t = some i := by
  cases h : P.info? t with
  | some i => exact ⟨i, rfl⟩
  | none => simp [Program.underlying, h] at hd

theorem run_size {d : TypeDesc} (hd : P.underlying t = some d) : (sizeOf t).run P w = .ok (P.cellsOf t) w := by
  obtain ⟨i, hi⟩ := info_of_underlying hd
  exact run_sizeOf w hi

theorem add_zero_spot (b o j : Nat) : (⟨b, o, none⟩ : Addr).add j = ⟨b, o + j, none⟩ := by
  unfold Addr.add; split <;> simp_all

theorem RowAt.cell {e : List AV} {b off : Nat} (r : RowAt w O e b off) {j : Nat} {x : AV} (h : e[j]? = some x) : w.cell? ⟨b, off + j, none⟩ = some (r.vals j) := by
  simp [World.cell?, r.heap, r.at_ j x h]

/-- A part of a row is read. -/
theorem cut_load {e : List AV} {b off f : Nat} {K : AV → Prop} (h : acut P t e f K) (r : RowAt w O e b off) :
    Gives P w O K (loadVar t ⟨b, off + f, none⟩) := by
  unfold acut at h
  split at h
  · rename_i d hd
    split at h
    · rename_i hag
      obtain ⟨hl, hk⟩ := h
      have hx : ∀ j, j < P.cellsOf t → ∃ x, e[f + j]? = some x := fun j hj => ⟨e[f + j]'(by omega), List.getElem?_eq_getElem (by omega)⟩
      have hrun : (loadCells ⟨b, off + f, none⟩ (P.cellsOf t)).run P w = .ok ((List.range (P.cellsOf t)).map fun j => r.vals (f + j)).toArray w := by
        have := run_loadCells_list (P := P) w ⟨b, off + f, none⟩ ((List.range (P.cellsOf t)).map fun j => r.vals (f + j)) fun j v hj => by
          have hj' : j < P.cellsOf t := by simpa using (List.getElem?_eq_some_iff.1 hj).1
          obtain ⟨x, hx'⟩ := hx j hj'
          have hc := r.cell hx'
          rw [List.getElem?_map, List.getElem?_range hj'] at hj
          simp only [Option.map_some, Option.some.injEq] at hj
          rw [add_zero_spot, Nat.add_assoc, hc, hj]
        simpa using this
      refine ⟨_, _, hk, .agg _ ((List.range (P.cellsOf t)).map fun j => r.vals (f + j)) ?_ ?_, ?_⟩
      · simp; omega
      · intro i x y hi hy
        rw [List.getElem?_take] at hi
        split at hi
        · rename_i hlt
          rw [List.getElem?_map, List.getElem?_range hlt] at hy
          simp only [Option.map_some, Option.some.injEq] at hy
          rw [List.getElem?_drop] at hi
          rw [← hy]
          exact r.rep _ _ hi
        · simp at hi
      · simp [loadVar, run_isAgg hd, hag, run_size hd, hrun]
    · rename_i hag
      obtain ⟨c, hc, hk⟩ := h
      refine ⟨_, _, hk, r.rep _ _ hc, ?_⟩
      simp [loadVar, run_isAgg hd, hag, r.cell hc]
  · exact h.elim

theorem load_ok {x : AV} {vx : Value} {K : AV → Prop} (h : aload P t x H K) (hx : Rep w O x vx) (hH : Holds w O H) : Gives P w O K (Instr.loadAt t vx) := by
  obtain ⟨e, f, b, off, hk, rfl, ⟨r⟩⟩ := row_ok h hx hH
  obtain ⟨x, y, h1, h2, h3⟩ := cut_load hk r
  exact ⟨x, y, h1, h2, by simp [Instr.loadAt, Instr.sureAddr, h3]⟩

theorem nil_ok {x : AV} {vx : Value} {K : AV → Prop} (h : anil x K) (hx : Rep w O x vx) : K x ∧ ((∃ p, vx = .pointer (some p)) ∨ (∃ f cs, vx = .func (.func f) #[] cs)) := by
  unfold anil at h
  split at h
  · cases hx; exact ⟨h, .inl ⟨_, rfl⟩⟩
  · cases hx; exact ⟨h, .inl ⟨_, rfl⟩⟩
  · cases hx; exact ⟨h, .inr ⟨_, _, rfl⟩⟩
  · cases hx; exact ⟨h, .inl ⟨_, rfl⟩⟩
  · exact h.elim

theorem fld_ok {x : AV} {vx : Value} {f : Nat} {K : AV → Prop} (h : afld P t x f K) (hx : Rep w O x vx) : Gives P w O K (Instr.fieldAt t vx f) := by
  unfold afld at h
  split at h
  · rename_i fs hfs
    split at h
    · rename_i fd hfd
      obtain ⟨hz, h⟩ := h
      have hi : ∃ i, P.info? fd.type = some i := by
        cases hq : P.info? fd.type with
        | some i => exact ⟨i, rfl⟩
        | none => simp [Program.cellsOf, hq] at hz
      obtain ⟨i, hi⟩ := hi
      split at h
      · cases hx with
        | ptr b es j g hb =>
          refine ⟨_, _, h, .ptr _ _ _ _ hb, ?_⟩
          simp [Instr.fieldAt, run_underlying hfs, hfd, Instr.sureAddr, fieldPlace, run_sizeOf w hi, hz, add_zero_spot, Nat.add_assoc]
      · cases hx with
        | ip e g b o cells t fr vals hw hO hes h1 h2 =>
          refine ⟨_, _, h, .ip _ _ b o cells t fr vals hw hO hes h1 h2, ?_⟩
          simp [Instr.fieldAt, run_underlying hfs, hfd, Instr.sureAddr, fieldPlace, run_sizeOf w hi, hz, add_zero_spot, Nat.add_assoc]
      · exact h.elim
    · exact h.elim
  · exact h.elim

theorem field_ok {x : AV} {vx : Value} {f : Nat} {K : AV → Prop} (h : afield P t x f K) (hx : Rep w O x vx) : Gives P w O K (Instr.field t vx f) := by
  unfold afield at h
  split at h
  · rename_i fs hfs
    split at h
    · rename_i fd hfd
      have main : ∀ (cs : List AV) (vs : List Value), cs.length = vs.length → (∀ (i : Nat) x y, cs[i]? = some x → vs[i]? = some y → Rep w O x y) → acut P fd.type cs fd.offset K → Gives P w O K (part fd.type vs.toArray fd.offset) := by
        intro cs vs hl hr hc
        unfold acut at hc
        split at hc
        · rename_i d hd
          split at hc
          · rename_i hag
            obtain ⟨hle, hk⟩ := hc
            refine ⟨_, .agg ((vs.drop fd.offset).take (P.cellsOf fd.type)).toArray, hk, .agg _ _ ?_ ?_, ?_⟩
            · simp [hl]
            · intro i x y hi hy
              rw [List.getElem?_take] at hi hy
              split at hi
              · rename_i hlt
                rw [if_pos hlt] at hy
                rw [List.getElem?_drop] at hi hy
                exact hr _ _ _ hi hy
              · simp at hi
            · simp only [part, Sem.run_bind, run_isAgg hd, hag, Result.andThen_ok, if_true, run_size hd]
              simp only [Sem.run_pure, Result.andThen_ok]
              congr 2
              simp [List.extract_eq_take_drop]
          · rename_i hag
            obtain ⟨c, hcc, hk⟩ := hc
            have hlt : fd.offset < vs.length := by rw [← hl]; exact (List.getElem?_eq_some_iff.1 hcc).1
            have hv : vs[fd.offset]? = some vs[fd.offset] := List.getElem?_eq_getElem hlt
            refine ⟨_, vs[fd.offset], hk, hr _ _ _ hcc hv, ?_⟩
            simp only [part, Sem.run_bind, run_isAgg hd, hag, Result.andThen_ok, Bool.false_eq_true, if_false]
            simp [hlt]
        · exact hc.elim
      split at h
      · cases hx with
        | agg cs' vs hl hr =>
          obtain ⟨x, y, h1, h2, h3⟩ := main _ vs hl hr h
          exact ⟨x, y, h1, h2, by simpa [Instr.field, run_underlying hfs, hfd, asAgg] using h3⟩
      · cases hx with
        | v x =>
          rename_i arr
          obtain ⟨x, y, h1, h2, h3⟩ := main (arr.toList.map AV.v) arr.toList (by simp) (fun i x y hi hy => by
            rw [List.getElem?_map, hy] at hi
            simp only [Option.map_some, Option.some.injEq] at hi
            rw [← hi]; exact .v y) h
          exact ⟨x, y, h1, h2, by simpa [Instr.field, run_underlying hfs, hfd, asAgg] using h3⟩
      · exact h.elim
    · exact h.elim
  · exact h.elim

theorem ext_ok {x : AV} {vx : Value} {i : Nat} {K : AV → Prop} (h : aext x i K) (hx : Rep w O x vx) : Gives P w O K (Instr.extract vx i) := by
  unfold aext at h
  split at h
  · obtain ⟨c, hc, hk⟩ := h
    cases hx with
    | tup cs vs hl hr =>
      have hlt : i < vs.length := by rw [← hl]; exact (List.getElem?_eq_some_iff.1 hc).1
      exact ⟨_, vs[i], hk, hr _ _ _ hc (List.getElem?_eq_getElem hlt), by simp [Instr.extract, hlt]⟩
  · obtain ⟨c, hc, hk⟩ := h
    cases hx with
    | v x => exact ⟨_, _, hk, .v _, by simp [Instr.extract, hc]⟩
  · exact h.elim

theorem len_ok {x : AV} {vx : Value} {ty : TypeId} {r : Array Value} {ts : Array TypeId} {K : AV → Prop} (h : alen P t x K) (hx : Rep w O x vx) (hts : ts[0]? = some t) (hr : r[0]? = some vx) : Gives P w O K (Builtin.len_ ts ty r) := by
  unfold alen at h
  split at h
  · rename_i hu; cases hx; exact ⟨_, _, h, .v _, by simp [Builtin.len_, hts, hr, run_underlying hu, goInt]⟩
  · rename_i hu; cases hx <;> exact ⟨_, _, h, .v _, by simp [Builtin.len_, hts, hr, run_underlying hu, goInt]⟩
  · rename_i hu; cases hx <;> exact ⟨_, _, h, .v _, by simp [Builtin.len_, hts, hr, run_underlying hu, goInt]⟩
  · rename_i hu; cases hx; exact ⟨_, _, h, .v _, by simp [Builtin.len_, hts, hr, run_underlying hu, goInt]⟩
  · rename_i hu; exact ⟨_, _, h, .v _, by simp [Builtin.len_, hts, hr, run_underlying hu, goInt]⟩
  · exact h.elim

end Go.Fw
/- Indexes and cuts: each abstract one is what the model's one does. -/
namespace Go.Fw
set_option maxHeartbeats 8000000
set_option linter.all false
open Go

variable {df : List Deferred} {P : Program} {w w0 : World} {O O0 D0 : Nat → Prop} {H : AH} {s : St} {a : Act} {n : Nat} {t : TypeId}

theorem run_cells {u : TypeId} (h : P.cellsOf u ≠ 0 ∨ ∃ i, P.info? u = some i) : (sizeOf u).run P w = .ok (P.cellsOf u) w := by
  have hi : ∃ i, P.info? u = some i := by
    rcases h with h | h
    · cases hq : P.info? u with
      | some i => exact ⟨i, rfl⟩
      | none => simp [Program.cellsOf, hq] at h
    · exact h
  obtain ⟨i, hi⟩ := hi
  exact run_sizeOf w hi

theorem idx_ok {x i : AV} {vx vi : Value} {K : AV → Prop} (h : aidx P t x i K) (hx : Rep w O x vx) (hi : Rep w O i vi) :
    Gives P w O K (Instr.indexAt t vx vi) := by
  unfold aidx at h
  split at h
  · rename_i el hu
    split at h
    · obtain ⟨he, hnz, h0, hl, hk⟩ := h
      have hs := run_cells (w := w) (.inl hnz)
      cases hi
      cases hx with
      | ov b off es n c c' cells t' fr hw hc hn hcc =>
        rename_i k
        refine ⟨_, _, hk, .ptr _ _ _ _ (lt_of_heap hw), ?_⟩
        simp [Instr.indexAt, asIntOf, run_underlying hu, h0, hl, hs, add_zero_spot, he, Nat.add_mul]
    · obtain ⟨he, hnz, h0, e, hk', hk⟩ := h
      have hs := run_cells (w := w) (.inl hnz)
      cases hi
      rename_i es xs _ k
      have hlt := (List.getElem?_eq_some_iff.1 hk').1
      cases hx with
      | imn => simp at hk'
      | imm es xs b o c cells t' fr vals hw hO hc hes h1 h2 =>
        have hl : k < (xs.length : Int) := by omega
        refine ⟨_, .pointer (some ⟨b, (o + k.toNat * es) + 0, none⟩), hk, .ip e 0 b (o + k.toNat * es) cells t' fr (fun f => vals k.toNat f) hw hO (hes e (List.mem_of_getElem? hk')).2 (fun j x hj => h1 _ _ _ _ hk' hj) (fun j x hj => h2 _ _ _ _ hk' hj), ?_⟩
        simp [Instr.indexAt, asIntOf, run_underlying hu, h0, hl, hs, add_zero_spot, he]
    · exact h.elim
  · rename_i m el hu
    split at h
    · obtain ⟨hnz, h0, hl, hk⟩ := h
      have hs := run_cells (w := w) (.inl hnz)
      cases hi
      cases hx with
      | ptr b es j f hb =>
        refine ⟨_, _, hk, .ptr _ _ _ _ hb, ?_⟩
        simp [Instr.indexAt, asIntOf, run_underlying hu, h0, hl, hs, add_zero_spot, Instr.sureAddr, Nat.add_assoc]
    · exact h.elim
  · exact h.elim

theorem index_ok {x i : AV} {vx vi : Value} {K : AV → Prop} (h : aindex P t x i K) (hx : Rep w O x vx) (hi : Rep w O i vi) : Gives P w O K (Instr.index t vx vi) := by
  unfold aindex at h
  split at h
  · rename_i hu
    obtain ⟨h0, c, hc, hk⟩ := h
    cases hi; cases hx
    exact ⟨_, _, hk, .v _, by simp [Instr.index, asIntOf, run_underlying hu, h0, hc]⟩
  · exact h.elim


/-- A bound of a cut, as the model looks at it. -/
theorem bnd_ok {x : Option Operand} {dflt hi : Nat} {K : Nat → Prop} (h : abnd s x dflt hi K) (hm : Mod df w0 O0 D0 n s H a w O) :
    ∃ k, K k ∧ ((x = none ∧ k = dflt) ∨ ∃ o v, x = some o ∧ a.eval o = v ∧ k ≤ hi ∧ ∀ (c : BoundsCode) (y : Nat), k ≤ y → (Instr.sliceBound v y c).run P w = .ok k w) := by
  unfold abnd at h
  split at h
  · exact ⟨dflt, h, .inl ⟨rfl, rfl⟩⟩
  · rename_i o
    split at h
    · rename_i kd k he
      obtain ⟨h0, h1, hk⟩ := h
      have hev := hm.ev o
      rw [he] at hev
      have hv := hev.inv_v
      refine ⟨k.toNat, hk, .inr ⟨o, _, rfl, hv, by omega, fun c y hy => ?_⟩⟩
      have h2 : k ≤ (y : Int) := by omega
      simp [Instr.sliceBound, asIntOf, h0, h2]
    · exact h.elim

/-- 'l' and 'h' of a cut without a third index. -/
theorem bounds_ok {lo hi : Option Operand} {isSlice : Bool} {len cap l h : Nat} (hlh : l ≤ h) (hhc : h ≤ cap)
    (hh : (hi = none ∧ h = len) ∨ ∃ o v, hi = some o ∧ a.eval o = v ∧ ∀ (c : BoundsCode) (y : Nat), h ≤ y → (Instr.sliceBound v y c).run P w = .ok h w)
    (hl : (lo = none ∧ l = 0) ∨ ∃ o v, lo = some o ∧ a.eval o = v ∧ ∀ (c : BoundsCode) (y : Nat), l ≤ y → (Instr.sliceBound v y c).run P w = .ok l w) :
    (Instr.sliceBounds isSlice len cap (lo.map a.eval) (hi.map a.eval) none).run P w = .ok (l, h, cap) w := by
  rcases hh with ⟨rfl, rfl⟩ | ⟨o, v, rfl, rfl, hv⟩ <;> rcases hl with ⟨rfl, rfl⟩ | ⟨o', v', rfl, rfl, hv'⟩
  · simp [Instr.sliceBounds]
  · simp [Instr.sliceBounds, hv' _ _ hlh]
  · simp [Instr.sliceBounds, hv _ _ hhc]
  · simp [Instr.sliceBounds, hv _ _ hhc, hv' _ _ hlh]

/-- The bounds of a cut with a third index. -/
theorem bounds3_ok {lo hi : Option Operand} {mx : Operand} {isSlice : Bool} {len cap l h m : Nat} (hlh : l ≤ h) (hhm : h ≤ m) (hmc : m ≤ cap)
    (hm : ∃ o v, some mx = some o ∧ a.eval o = v ∧ ∀ (c : BoundsCode) (y : Nat), m ≤ y → (Instr.sliceBound v y c).run P w = .ok m w)
    (hh : ∃ o v, hi = some o ∧ a.eval o = v ∧ ∀ (c : BoundsCode) (y : Nat), h ≤ y → (Instr.sliceBound v y c).run P w = .ok h w)
    (hl : (lo = none ∧ l = 0) ∨ ∃ o v, lo = some o ∧ a.eval o = v ∧ ∀ (c : BoundsCode) (y : Nat), l ≤ y → (Instr.sliceBound v y c).run P w = .ok l w) :
    (Instr.sliceBounds isSlice len cap (lo.map a.eval) (hi.map a.eval) (some (a.eval mx))).run P w = .ok (l, h, m) w := by
  obtain ⟨om, vm, e1, rfl, hvm⟩ := hm
  cases e1
  obtain ⟨o, v, rfl, rfl, hv⟩ := hh
  rcases hl with ⟨rfl, rfl⟩ | ⟨o', v', rfl, rfl, hv'⟩
  · simp [Instr.sliceBounds, hvm _ _ hmc, hv _ _ hhm]
  · simp [Instr.sliceBounds, hvm _ _ hmc, hv _ _ hhm, hv' _ _ hlh]

theorem slice_ok {x : AV} {vx : Value} {lo hi mx : Option Operand} {K : AV → Prop} (h : aslice P t x lo hi mx s K) (hm : Mod df w0 O0 D0 n s H a w O) (hx : Rep w O x vx) :
    Gives P w O K (Instr.sliceAt t vx (lo.map a.eval) (hi.map a.eval) (mx.map a.eval)) := by
  unfold aslice at h
  split at h
  · rename_i hu
    split at h
    · rename_i c
      obtain ⟨hh, h, bh⟩ := bnd_ok (P := P) h hm
      obtain ⟨l, hk, bl⟩ := bnd_ok (P := P) h hm
      cases hx
      have hlh : l ≤ hh := by rcases bl with ⟨_, rfl⟩ | ⟨_, _, _, _, h1, _⟩ <;> omega
      have hhc : hh ≤ c.size := by rcases bh with ⟨_, rfl⟩ | ⟨_, _, _, _, h1, _⟩ <;> omega
      have hb := bounds_ok (P := P) (w := w) (a := a) (lo := lo) (hi := hi) (isSlice := false) (len := c.size) (cap := c.size) hlh hhc
        (bh.imp id fun ⟨o, v, h1, h2, _, h3⟩ => ⟨o, v, h1, h2, h3⟩) (bl.imp id fun ⟨o, v, h1, h2, _, h3⟩ => ⟨o, v, h1, h2, h3⟩)
      exact ⟨_, _, hk, .v _, by simp [Instr.sliceAt, Instr.slice, run_underlying hu, hb]⟩
    · exact h.elim
  · rename_i el hu
    split at h
    · rename_i b off es m c
      obtain ⟨he, hnz, h⟩ := h
      obtain ⟨hh, h, bh⟩ := bnd_ok (P := P) h hm
      obtain ⟨l, hk, bl⟩ := bnd_ok (P := P) h hm
      cases hx with
      | ov b off es m c1 c' cells t' fr hw hc hn hcc =>
        have hlh : l ≤ hh := by rcases bl with ⟨_, rfl⟩ | ⟨_, _, _, _, h1, _⟩ <;> omega
        have hgd : c.getD m ≤ c1 := by
          cases c with
          | none => exact hn
          | some k => have := hcc k rfl; simp; omega
        have hhc : hh ≤ c1 := by
          rcases bh with ⟨_, h1⟩ | ⟨_, _, _, _, h1, _⟩
          · omega
          · omega
        have hb := bounds_ok (P := P) (w := w) (a := a) (lo := lo) (hi := hi) (isSlice := true) (len := m) (cap := c1) hlh hhc
          (bh.imp id fun ⟨o, v, h1, h2, _, h3⟩ => ⟨o, v, h1, h2, h3⟩) (bl.imp id fun ⟨o, v, h1, h2, _, h3⟩ => ⟨o, v, h1, h2, h3⟩)
        have hs := run_cells (w := w) (.inl hnz)
        rcases hk with ⟨hlo, hk⟩ | ⟨rfl, hk⟩
        case inr =>
          refine ⟨_, .slice (if c1 = l then (some (⟨b, off * es, none⟩ : Addr)) else Option.map (fun x : Addr => x.add (l * P.cellsOf el)) (some ⟨b, off * es, none⟩)) (l - l) (c1 - l), hk, ?_, by simp only [Instr.sliceAt, Instr.slice, Sem.run_bind, run_underlying hu, Result.andThen_ok, Option.map_none, hb, hs, Sem.run_pure]⟩
          rw [Nat.sub_self]
          exact .imn _ _ _
        have hadr : (if c1 = l then (some (⟨b, off * es, none⟩ : Addr)) else some ⟨b, off * es + l * P.cellsOf el, none⟩) = some ⟨b, (off + l) * es, none⟩ := by
          split
          · rename_i hcl
            have hl0 : l = 0 := by
              rcases hlo with rfl | hlo | ⟨k, rfl, hlo⟩
              · rcases bl with ⟨_, h1⟩ | ⟨_, _, h1, _⟩
                · exact h1
                · exact absurd h1 (by simp)
              · omega
              · have := hcc k rfl; omega
            rw [hl0, Nat.add_zero]
          · rw [he, Nat.add_mul]
        refine ⟨_, .slice (some ⟨b, (off + l) * es, none⟩) (hh - l) (c1 - l), hk, .ov b (off + l) es (hh - l) (c1 - l) _ cells t' fr hw ?_ (by omega) ?_, ?_⟩
        · have : off + l + (c1 - l) = off + c1 := by omega
          rw [this]; exact hc
        · intro k hk'
          cases c with
          | none => simp at hk'
          | some q => have := hcc q rfl; simp at hk'; omega
        · simp only [Instr.sliceAt, Instr.slice, Sem.run_bind, run_underlying hu, Result.andThen_ok, Option.map_none, hb, hs, Sem.run_pure, Option.map_some, add_zero_spot]
          rw [hadr]
    · rename_i es xs
      obtain ⟨he, hnz, h⟩ := h
      obtain ⟨hh, h, bh⟩ := bnd_ok (P := P) h hm
      obtain ⟨l, hk, bl⟩ := bnd_ok (P := P) h hm
      have hs := run_cells (w := w) (.inl hnz)
      have hlh : l ≤ hh := by rcases bl with ⟨_, rfl⟩ | ⟨_, _, _, _, h1, _⟩ <;> omega
      have hhl : hh ≤ xs.length := by
        rcases bh with ⟨_, h1⟩ | ⟨_, _, _, _, h1, _⟩
        · exact Nat.le_of_eq h1
        · exact h1
      cases hx with
      | imn es ad c =>
        simp only [List.length_nil] at hhl bh
        have hb := bounds_ok (P := P) (w := w) (a := a) (lo := lo) (hi := hi) (isSlice := true) (len := 0) (cap := c) hlh (by omega)
          (bh.imp id fun ⟨o, v, h1, h2, _, h3⟩ => ⟨o, v, h1, h2, h3⟩) (bl.imp id fun ⟨o, v, h1, h2, _, h3⟩ => ⟨o, v, h1, h2, h3⟩)
        have h00 : hh - l = 0 := by omega
        simp only [List.take_nil, List.drop_nil] at hk
        refine ⟨_, .slice (if c = l then ad else Option.map (fun x => x.add (l * P.cellsOf el)) ad) (hh - l) (c - l), hk, ?_, by simp only [Instr.sliceAt, Instr.slice, Sem.run_bind, run_underlying hu, Result.andThen_ok, Option.map_none, hb, hs, Sem.run_pure]⟩
        rw [h00]
        exact .imn _ _ _
      | imm es xs b o c cells t' fr vals hw hO hc hes h1 h2 =>
        have hb := bounds_ok (P := P) (w := w) (a := a) (lo := lo) (hi := hi) (isSlice := true) (len := xs.length) (cap := c) hlh (by omega)
          (bh.imp id fun ⟨o, v, h1, h2, _, h3⟩ => ⟨o, v, h1, h2, h3⟩) (bl.imp id fun ⟨o, v, h1, h2, _, h3⟩ => ⟨o, v, h1, h2, h3⟩)
        refine ⟨_, .slice (if c = l then some ⟨b, o, none⟩ else Option.map (fun x : Addr => x.add (l * P.cellsOf el)) (some (⟨b, o, none⟩ : Addr))) (hh - l) (c - l), hk, ?_, by simp only [Instr.sliceAt, Instr.slice, Sem.run_bind, run_underlying hu, Result.andThen_ok, Option.map_none, hb, hs, Sem.run_pure]⟩
        have hlen : ((xs.take hh).drop l).length = hh - l := by simp; omega
        rw [← hlen]
        by_cases hz : hh - l = 0
        · have : (xs.take hh).drop l = [] := List.eq_nil_of_length_eq_zero (by omega)
          rw [this]
          exact .imn _ _ _
        · rw [if_neg (by omega)]
          simp only [Option.map_some, add_zero_spot]
          have hel : ∀ (i : Nat) e, ((xs.take hh).drop l)[i]? = some e → xs[l + i]? = some e := by
            intro i e hi
            rw [List.getElem?_drop, List.getElem?_take] at hi
            split at hi
            · exact hi
            · simp at hi
          refine .imm es _ b (o + l * P.cellsOf el) (c - l) cells t' fr (fun i f => vals (l + i) f) hw hO (by omega) ?_ ?_ ?_
          · exact fun e hmem => hes e (List.mem_of_mem_take (List.mem_of_mem_drop hmem))
          · intro i e f x hi hf
            have := h1 _ _ _ _ (hel i e hi) hf
            rw [← this, ← he, Nat.add_mul]
            congr 1
            omega
          · intro i e f x hi hf
            exact h2 _ _ _ _ (hel i e hi) hf
    · obtain ⟨hnz, h⟩ := h
      obtain ⟨hh, h, bh⟩ := bnd_ok (P := P) h hm
      obtain ⟨l, hk, bl⟩ := bnd_ok (P := P) h hm
      have hs := run_cells (w := w) (.inl hnz)
      have hlh : l ≤ hh := by rcases bl with ⟨_, rfl⟩ | ⟨_, _, _, _, h1, _⟩ <;> omega
      have hhl : hh ≤ 0 := by
        rcases bh with ⟨_, h1⟩ | ⟨_, _, _, _, h1, _⟩
        · exact Nat.le_of_eq h1
        · exact h1
      have hh0 : hh = 0 := by omega
      have hl0 : l = 0 := by omega
      subst hh0 hl0
      cases hx
      have hb := bounds_ok (P := P) (w := w) (a := a) (lo := lo) (hi := hi) (isSlice := true) (len := 0) (cap := 0) hlh (by omega)
        (bh.imp id fun ⟨o, v, h1, h2, _, h3⟩ => ⟨o, v, h1, h2, h3⟩) (bl.imp id fun ⟨o, v, h1, h2, _, h3⟩ => ⟨o, v, h1, h2, h3⟩)
      rename_i ad
      refine ⟨_, .slice ad 0 0, hk, .ovn _ _, by cases ad <;> simp [Instr.sliceAt, Instr.slice, run_underlying hu, hb, hs]⟩
    · obtain ⟨hnz, h⟩ := h
      obtain ⟨hh, h, bh⟩ := bnd_ok (P := P) h hm
      obtain ⟨l, hk, bl⟩ := bnd_ok (P := P) h hm
      have hs := run_cells (w := w) (.inl hnz)
      have hlh : l ≤ hh := by rcases bl with ⟨_, rfl⟩ | ⟨_, _, _, _, h1, _⟩ <;> omega
      have hhl : hh ≤ 0 := by
        rcases bh with ⟨_, h1⟩ | ⟨_, _, _, _, h1, _⟩
        · exact Nat.le_of_eq h1
        · exact h1
      have hh0 : hh = 0 := by omega
      have hl0 : l = 0 := by omega
      subst hh0 hl0
      cases hx
      have hb := bounds_ok (P := P) (w := w) (a := a) (lo := lo) (hi := hi) (isSlice := true) (len := 0) (cap := 0) hlh (by omega)
        (bh.imp id fun ⟨o, v, h1, h2, _, h3⟩ => ⟨o, v, h1, h2, h3⟩) (bl.imp id fun ⟨o, v, h1, h2, _, h3⟩ => ⟨o, v, h1, h2, h3⟩)
      exact ⟨_, _, hk, .v _, by simp [Instr.sliceAt, Instr.slice, run_underlying hu, hb, hs]⟩
    · exact h.elim
  · rename_i el m hu
    obtain ⟨hnz, hhi, h⟩ := h
    have hs := run_cells (w := w) (.inl hnz)
    have some_of : ∀ {x : Option Operand} {p q k : Nat}, x ≠ none → ((x = none ∧ k = p) ∨ ∃ o v, x = some o ∧ a.eval o = v ∧ k ≤ q ∧ ∀ (c : BoundsCode) (y : Nat), k ≤ y → (Instr.sliceBound v y c).run P w = .ok k w) →
        k ≤ q ∧ ∃ o v, x = some o ∧ a.eval o = v ∧ ∀ (c : BoundsCode) (y : Nat), k ≤ y → (Instr.sliceBound v y c).run P w = .ok k w := by
      intro x p q k hx h
      rcases h with ⟨h, _⟩ | ⟨o, v, h1, h2, h3, h4⟩
      · exact absurd h hx
      · exact ⟨h3, o, v, h1, h2, h4⟩
    split at h
    · rename_i b off es n' c'
      obtain ⟨he, h⟩ := h
      obtain ⟨mm, h, bm⟩ := bnd_ok (P := P) h hm
      obtain ⟨hh, h, bh⟩ := bnd_ok (P := P) h hm
      obtain ⟨l, hk, bl⟩ := bnd_ok (P := P) h hm
      obtain ⟨hmn, bm'⟩ := some_of (by simp) bm
      obtain ⟨hhm, bh'⟩ := some_of hhi bh
      clear bm bh
      have hlh : l ≤ hh := by rcases bl with ⟨_, rfl⟩ | ⟨_, _, _, _, h1, _⟩ <;> omega
      cases hx with
      | ov _ _ _ _ c1 _ cells t' fr hw hc hn hcc =>
        have hb := bounds3_ok (P := P) (w := w) (a := a) (isSlice := true) (len := n') (cap := c1) hlh hhm (by omega) bm' bh' (bl.imp id fun ⟨o, v, h1, h2, _, h3⟩ => ⟨o, v, h1, h2, h3⟩)
        by_cases hlm : l = mm
        · subst hlm
          rw [if_neg (Nat.lt_irrefl _)] at hk
          have hz : hh - l = 0 := by omega
          refine ⟨_, .slice (some ⟨b, off * es, none⟩) 0 0, hk, .ovn _ _, ?_⟩
          simp only [Instr.sliceAt, Instr.slice, Sem.run_bind, run_underlying hu, Result.andThen_ok, Option.map_some, hb, hs, Sem.run_pure]
          simp [hz]
        · rw [if_pos (show l < mm by omega)] at hk
          refine ⟨_, .slice (some ⟨b, (off + l) * es, none⟩) (hh - l) (mm - l), hk, .ov b (off + l) es (hh - l) (mm - l) _ cells t' fr hw ?_ (by omega) (by intro k hk; cases hk; rfl), ?_⟩
          · have : off + l + (mm - l) = off + mm := by omega
            rw [this]
            have : (off + mm) * es ≤ (off + c1) * es := Nat.mul_le_mul_right _ (by omega)
            omega
          · simp only [Instr.sliceAt, Instr.slice, Sem.run_bind, run_underlying hu, Result.andThen_ok, Option.map_some, hb, hs, Sem.run_pure, add_zero_spot]
            rw [if_neg (by omega), he, Nat.add_mul]
    · obtain ⟨mm, h, bm⟩ := bnd_ok (P := P) h hm
      obtain ⟨hh, h, bh⟩ := bnd_ok (P := P) h hm
      obtain ⟨l, hk, bl⟩ := bnd_ok (P := P) h hm
      obtain ⟨hmn, bm'⟩ := some_of (by simp) bm
      obtain ⟨hhm, bh'⟩ := some_of hhi bh
      clear bm bh
      have hlh : l ≤ hh := by rcases bl with ⟨_, rfl⟩ | ⟨_, _, _, _, h1, _⟩ <;> omega
      have hmm : mm = 0 := by omega
      have hhh : hh = 0 := by omega
      have hll : l = 0 := by omega
      subst hmm hhh hll
      cases hx with
      | ovn es ad =>
        have hb := bounds3_ok (P := P) (w := w) (a := a) (isSlice := true) (len := 0) (cap := 0) hlh hhm (Nat.le_refl _) bm' bh' (bl.imp id fun ⟨o, v, h1, h2, _, h3⟩ => ⟨o, v, h1, h2, h3⟩)
        refine ⟨_, .slice ad 0 0, hk, .ovn _ _, ?_⟩
        simp only [Instr.sliceAt, Instr.slice, Sem.run_bind, run_underlying hu, Result.andThen_ok, Option.map_some, hb, hs, Sem.run_pure]
        simp
    · rename_i es xs
      obtain ⟨he, h⟩ := h
      obtain ⟨mm, h, bm⟩ := bnd_ok (P := P) h hm
      obtain ⟨hh, h, bh⟩ := bnd_ok (P := P) h hm
      obtain ⟨l, hk, bl⟩ := bnd_ok (P := P) h hm
      obtain ⟨hmn, bm'⟩ := some_of (by simp) bm
      obtain ⟨hhm, bh'⟩ := some_of hhi bh
      clear bm bh
      have hlh : l ≤ hh := by rcases bl with ⟨_, rfl⟩ | ⟨_, _, _, _, h1, _⟩ <;> omega
      have hlen : ((xs.take hh).drop l).length = hh - l := by simp; omega
      cases hx with
      | imn es ad c =>
        have hb := bounds3_ok (P := P) (w := w) (a := a) (isSlice := true) (len := 0) (cap := c) hlh hhm (by simp at hmn; omega) bm' bh' (bl.imp id fun ⟨o, v, h1, h2, _, h3⟩ => ⟨o, v, h1, h2, h3⟩)
        simp only [List.length_nil] at hmn
        have h00 : hh - l = 0 := by omega
        simp only [List.take_nil, List.drop_nil] at hk
        refine ⟨_, .slice (if mm = l then ad else Option.map (fun x : Addr => x.add (l * P.cellsOf el)) ad) (hh - l) (mm - l), hk, ?_, by simp only [Instr.sliceAt, Instr.slice, Sem.run_bind, run_underlying hu, Result.andThen_ok, Option.map_some, hb, hs, Sem.run_pure]⟩
        rw [h00]
        exact .imn _ _ _
      | imm es xs b o c cells t' fr vals hw hO hc hes h1 h2 =>
        have hb := bounds3_ok (P := P) (w := w) (a := a) (isSlice := true) (len := xs.length) (cap := c) hlh hhm (by omega) bm' bh' (bl.imp id fun ⟨o, v, h1, h2, _, h3⟩ => ⟨o, v, h1, h2, h3⟩)
        refine ⟨_, .slice (if mm = l then some ⟨b, o, none⟩ else Option.map (fun x : Addr => x.add (l * P.cellsOf el)) (some (⟨b, o, none⟩ : Addr))) (hh - l) (mm - l), hk, ?_, by simp only [Instr.sliceAt, Instr.slice, Sem.run_bind, run_underlying hu, Result.andThen_ok, Option.map_some, hb, hs, Sem.run_pure]⟩
        rw [← hlen]
        by_cases hz : hh - l = 0
        · have : (xs.take hh).drop l = [] := List.eq_nil_of_length_eq_zero (by omega)
          rw [this]
          exact .imn _ _ _
        · rw [if_neg (by omega)]
          simp only [Option.map_some, add_zero_spot]
          have hel : ∀ (i : Nat) e, ((xs.take hh).drop l)[i]? = some e → xs[l + i]? = some e := by
            intro i e hi
            rw [List.getElem?_drop, List.getElem?_take] at hi
            split at hi
            · exact hi
            · simp at hi
          refine .imm es _ b (o + l * P.cellsOf el) (mm - l) cells t' fr (fun i f => vals (l + i) f) hw hO (by omega) ?_ ?_ ?_
          · exact fun e hmem => hes e (List.mem_of_mem_take (List.mem_of_mem_drop hmem))
          · intro i e f x hi hf
            have := h1 _ _ _ _ (hel i e hi) hf
            rw [← this, ← he, Nat.add_mul]
            congr 1
            omega
          · intro i e f x hi hf
            exact h2 _ _ _ _ (hel i e hi) hf
    · obtain ⟨mm, h, bm⟩ := bnd_ok (P := P) h hm
      obtain ⟨hh, h, bh⟩ := bnd_ok (P := P) h hm
      obtain ⟨l, hk, bl⟩ := bnd_ok (P := P) h hm
      obtain ⟨hmn, bm'⟩ := some_of (by simp) bm
      obtain ⟨hhm, bh'⟩ := some_of hhi bh
      clear bm bh
      have hlh : l ≤ hh := by rcases bl with ⟨_, rfl⟩ | ⟨_, _, _, _, h1, _⟩ <;> omega
      have hmm : mm = 0 := by omega
      have hhh : hh = 0 := by omega
      have hll : l = 0 := by omega
      subst hmm hhh hll
      cases hx
      have hb := bounds3_ok (P := P) (w := w) (a := a) (isSlice := true) (len := 0) (cap := 0) hlh hhm (Nat.le_refl _) bm' bh' (bl.imp id fun ⟨o, v, h1, h2, _, h3⟩ => ⟨o, v, h1, h2, h3⟩)
      refine ⟨_, _, hk, .v _, ?_⟩
      simp only [Instr.sliceAt, Instr.slice, Sem.run_bind, run_underlying hu, Result.andThen_ok, Option.map_some, hb, hs, Sem.run_pure]
      simp
    · exact h.elim
  · exact h.elim

end Go.Fw
/- New blocks and stores: the heap behind them. -/
namespace Go.Fw
set_option maxHeartbeats 8000000
set_option linter.all false
open Go

variable {df : List Deferred} {P : Program} {w w0 : World} {O O0 D0 : Nat → Prop} {H : AH} {s : St} {a : Act} {n : Nat} {t : TypeId}

def none_ (_ : Nat) : Prop := False
def only (b : Nat) (x : Nat) : Prop := x = b
def plus (O : Nat → Prop) (b : Nat) (x : Nat) : Prop := O x ∨ x = b

theorem alloc_old (w : World) (o : Obj) {b : Nat} (h : b < w.heap.size) : (w.alloc o).heap[b]? = w.heap[b]? := by
  show (w.heap.push o)[b]? = _
  rw [Array.getElem?_push, if_neg (by omega)]
theorem alloc_new (w : World) (o : Obj) : (w.alloc o).heap[w.heap.size]? = some o := by
  show (w.heap.push o)[w.heap.size]? = _
  simp

theorem Ext.alloc (w : World) (O : Nat → Prop) (o : Obj) : Ext w O none_ (w.alloc o) (plus O w.heap.size) where
  os := rfl
  tape := rfl
  output := rfl
  size := by simp
  block := fun b hb _ => alloc_old w o hb
  cells := fun b c t fr h => ⟨c, fr, (alloc_old w o (lt_of_heap h)).trans h, rfl⟩
  own := fun b hb _ => ⟨fun h => h.elim id fun e => by omega, .inl⟩
  less := fun b hb h => h.elim id fun e => by omega

theorem Ext.allocF (w : World) (O : Nat → Prop) (o : Obj) : Ext w O none_ (w.alloc o) O where
  os := rfl
  tape := rfl
  output := rfl
  size := by simp
  block := fun b hb _ => alloc_old w o hb
  cells := fun b c t fr h => ⟨c, fr, (alloc_old w o (lt_of_heap h)).trans h, rfl⟩
  own := fun b hb _ => Iff.rfl
  less := fun b hb h => h

theorem Ext.drew (w : World) (O : Nat → Prop) : Ext w O none_ w.drew O :=
  ⟨rfl, rfl, rfl, Nat.le_refl _, fun _ _ _ => rfl, fun _ c _ fr h => ⟨c, fr, h, rfl⟩, fun _ _ _ => Iff.rfl, fun _ _ h => h⟩

theorem Ext.setRow (w : World) (O : Nat → Prop) {b : Nat} {c c' : Array Value} {t : TypeId} {fr : Nat × Nat} (h : w.heap[b]? = some (.cells c t fr)) (hs : c'.size = c.size) : Ext w O (only b) (w.setRow b c') O where
  os := rfl
  tape := rfl
  output := rfl
  size := by simp
  block := fun k _ hd => setRow_other w b k c' hd
  cells := fun k d u f hk => by
    by_cases e : k = b
    · subst e
      rw [h] at hk
      cases hk
      exact ⟨c', fr, setRow_heap w k c c' t fr h, hs⟩
    · exact ⟨d, f, (setRow_other w b k c' e).trans hk, rfl⟩
  own := fun _ _ _ => Iff.rfl
  less := fun _ _ h => h

theorem Ext.all {w w' : World} {O O' D : Nat → Prop} (h : Ext w O D w' O') (hD : ∀ b, D b → O b) : Ext w O O w' O' := h.mono hD

/-- A step that writes no block that H tells of. -/
theorem Heap.keep {w' : World} {O' : Nat → Prop} (h : Heap w0 O0 D0 w O H) (k : Ext w O none_ w' O') (hb : ∀ b, O' b → b < w'.heap.size) : Heap w0 O0 D0 w' O' H where
  ext := h.ext.trans k fun b _ hd => hd.elim
  bound := hb
  dom := fun b o ho => ⟨(k.own b (h.bound b (h.dom b o ho).1) (fun e => e)).2 (h.dom b o ho).1, (h.dom b o ho).2⟩
  rep := fun b o ho => (h.rep b o ho).ext k (fun b hd => hd.elim) (k.block b (h.bound b (h.dom b o ho).1) fun e => e)

theorem Heap.drew (h : Heap w0 O0 D0 w O H) : Heap w0 O0 D0 w.drew O H := h.keep (Ext.drew w O) h.bound

theorem Heap.allocF (h : Heap w0 O0 D0 w O H) (o : Obj) : Heap w0 O0 D0 (w.alloc o) O H :=
  h.keep (Ext.allocF w O o) fun b hb => Nat.lt_of_lt_of_le (h.bound b hb) (by simp)

theorem Heap.fresh (h : Heap w0 O0 D0 w O H) : Fw.fresh H w.heap.size := by
  unfold Fw.fresh
  cases hh : H w.heap.size with
  | none => rfl
  | some o => exact absurd (h.bound _ (h.dom _ o hh).1) (Nat.lt_irrefl _)

/-- A new object of one's own. -/
theorem Heap.newO (h : Heap w0 O0 D0 w O H) (obj : Obj) (o : AObj) (hr : ObjRep (w.alloc obj) (plus O w.heap.size) w.heap.size o) : Heap w0 O0 D0 (w.alloc obj) (plus O w.heap.size) (H.set w.heap.size o) where
  ext := h.ext.trans (Ext.alloc w O _) fun b _ hd => hd.elim
  bound := fun b hb => by
    rcases hb with hb | hb
    · exact Nat.lt_of_lt_of_le (h.bound b hb) (by simp)
    · subst hb; simp
  dom := fun b o ho => by
    by_cases e : b = w.heap.size
    · subst e
      exact ⟨.inr rfl, fun hlt => absurd hlt (Nat.not_lt.2 h.ext.size)⟩
    · rw [AH.set_ne _ _ e] at ho
      exact ⟨.inl (h.dom b o ho).1, (h.dom b o ho).2⟩
  rep := fun b o ho => by
    by_cases e : b = w.heap.size
    · subst e
      rw [AH.set_same] at ho
      cases ho
      exact hr
    · rw [AH.set_ne _ _ e] at ho
      exact (h.rep b o ho).ext (Ext.alloc w O _) (fun b hd => hd.elim) (alloc_old w _ (h.bound b (h.dom b o ho).1))

/-- A new block of one's own. -/
theorem Heap.new {es : Nat} {xs : List (List AV)} {cells : Array Value} (h : Heap w0 O0 D0 w O H) (t : TypeId) (hz : es ≠ 0) (hl : xs.length * es ≤ cells.size) (hes : ∀ e ∈ xs, e.length = es ∧ ∀ x ∈ e, x.cell = true)
    (hr : ∀ (i : Nat) e (f : Nat) x, xs[i]? = some e → e[f]? = some x → ∃ y, cells[i * es + f]? = some y ∧ Rep w O x y) :
    Heap w0 O0 D0 (w.alloc (.cells cells t)) (plus O w.heap.size) (H.set w.heap.size ⟨es, xs⟩) := by
  refine h.newO _ _ (RowRep.obj ⟨cells, t, alloc_new w _, hl, hes, fun i e f x hi hf => ?_⟩ hz)
  obtain ⟨y, h1, h2⟩ := hr i e f x hi hf
  exact ⟨y, h1, h2.ext (Ext.alloc w O _) (fun b hd => hd.elim)⟩

/-- A block that H tells of is written anew. -/
theorem Heap.write {b : Nat} {o : AObj} {es : Nat} {xs : List (List AV)} {c c' : Array Value} {t : TypeId} (h : Heap w0 O0 D0 w O H) (ho : H b = some o) (hc : w.heap[b]? = some (.cells c t (0, 0))) (hs : c'.size = c.size) (hz : es ≠ 0)
    (hl : xs.length * es ≤ c'.size) (hes : ∀ e ∈ xs, e.length = es ∧ ∀ x ∈ e, x.cell = true)
    (hr : ∀ (i : Nat) e (f : Nat) x, xs[i]? = some e → e[f]? = some x → ∃ y, c'[i * es + f]? = some y ∧ Rep w O x y) :
    Heap w0 O0 D0 (w.setRow b c') O (H.set b ⟨es, xs⟩) where
  ext := h.ext.trans (Ext.setRow w O hc hs) fun k hk hd => by
    have : k = b := hd
    subst this
    exact (h.dom k o ho).2 hk
  bound := fun k hk => by simpa using h.bound k hk
  dom := fun k o' hk => by
    by_cases e : k = b
    · subst e; exact h.dom k o ho
    · rw [AH.set_ne _ _ e] at hk; exact h.dom k o' hk
  rep := fun k o' hk => by
    have hO : ∀ x, only b x → O x := fun x hx => by
      have : x = b := hx
      subst this
      exact (h.dom x o ho).1
    by_cases e : k = b
    · subst e
      rw [AH.set_same] at hk
      cases hk
      refine RowRep.obj ⟨c', t, setRow_heap w k c c' t (0, 0) hc, hl, hes, fun i e f x hi hf => ?_⟩ hz
      obtain ⟨y, h1, h2⟩ := hr i e f x hi hf
      exact ⟨y, h1, h2.ext (Ext.setRow w O hc hs) hO⟩
    · rw [AH.set_ne _ _ e] at hk
      exact (h.rep k o' hk).ext (Ext.setRow w O hc hs) hO (setRow_other w b k c' e)

/-- A block is told of no more. -/
theorem Heap.del (h : Heap w0 O0 D0 w O H) (b : Nat) : Heap w0 O0 D0 w O (H.del b) where
  ext := h.ext
  bound := h.bound
  dom := fun k o hk => by
    by_cases e : k = b
    · subst e; rw [AH.del_same] at hk; cases hk
    · rw [AH.del_ne _ e] at hk; exact h.dom k o hk
  rep := fun k o hk => by
    by_cases e : k = b
    · subst e; rw [AH.del_same] at hk; cases hk
    · rw [AH.del_ne _ e] at hk; exact h.rep k o hk

theorem allCell_mem {l : List AV} (h : allCell l = true) : ∀ x ∈ l, x.cell = true := by
  induction l with
  | nil => intro x hx; cases hx
  | cons y r ih =>
    simp only [allCell, Bool.and_eq_true] at h
    intro x hx
    rcases List.mem_cons.1 hx with rfl | hx
    · exact h.1
    · exact ih h.2 x hx

/-- The cells of a value, side by side. -/
theorem cells_rep {x : AV} {y : Value} (h : Rep w O x y) (hj : allCell x.cells = true) : x.cells.length = y.cells.size ∧ ∀ (i : Nat) u v, x.cells[i]? = some u → y.cells[i]? = some v → Rep w O u v := by
  have one : ∀ (u : AV) (v : Value), Rep w O u v → ∀ (i : Nat) p q, [u][i]? = some p → (#[v] : Array Value)[i]? = some q → Rep w O p q := by
    intro u v huv i p q hp hq
    match i, hp, hq with
    | 0, hp, hq => simp at hp hq; subst hp hq; exact huv
    | i + 1, hp, _ => simp at hp
  cases h with
  | v =>
    cases y with
    | agg arr =>
      refine ⟨by simp [AV.cells, Value.cells], fun i u v hu hv => ?_⟩
      simp only [AV.cells, List.getElem?_map, Array.getElem?_toList] at hu
      simp only [Value.cells] at hv
      rw [hv] at hu
      simp only [Option.map_some, Option.some.injEq] at hu
      rw [← hu]
      exact .v v
    | _ => exact ⟨rfl, one _ _ (.v _)⟩
  | agg cs vs hl h =>
    refine ⟨by simpa [AV.cells, Value.cells] using hl, fun i u v hu hv => ?_⟩
    exact h i u v hu (by simpa [Value.cells] using hv)
  | junk => simp [AV.cells, allCell, AV.cell] at hj
  | tup cs vs hl h => exact ⟨rfl, one _ _ (.tup cs vs hl h)⟩
  | ptr b es i f hb => exact ⟨rfl, one _ _ (.ptr b es i f hb)⟩
  | ovn es ad => exact ⟨rfl, one _ _ (.ovn es ad)⟩
  | ov b off es n c c' cells t fr hw hc hn hcc => exact ⟨rfl, one _ _ (.ov b off es n c c' cells t fr hw hc hn hcc)⟩
  | imn es ad c => exact ⟨rfl, one _ _ (.imn es ad c)⟩
  | imm es xs b o c cells t fr vals hw hO hc hes h1 h2 => exact ⟨rfl, one _ _ (.imm es xs b o c cells t fr vals hw hO hc hes h1 h2)⟩
  | ip e f b o cells t fr vals hw hO hes h1 h2 => exact ⟨rfl, one _ _ (.ip e f b o cells t fr vals hw hO hes h1 h2)⟩
  | clo f cs vs hl h => exact ⟨rfl, one _ _ (.clo f cs vs hl h)⟩
  | mp b hb => exact ⟨rfl, one _ _ (.mp b hb)⟩

theorem splice_length {e cs : List AV} {f : Nat} (h : f + cs.length ≤ e.length) : (splice e f cs).length = e.length := by
  simp [splice]; omega

theorem splice_mem {e cs : List AV} {f : Nat} {x : AV} (h : x ∈ splice e f cs) : x ∈ e ∨ x ∈ cs := by
  simp only [splice, List.mem_append] at h
  rcases h with (h | h) | h
  · exact .inl (List.mem_of_mem_take h)
  · exact .inr h
  · exact .inl (List.mem_of_mem_drop h)

theorem splice_get {e cs : List AV} {f j : Nat} (h : f + cs.length ≤ e.length) : (splice e f cs)[j]? = if f ≤ j ∧ j < f + cs.length then cs[j - f]? else e[j]? := by
  unfold splice
  rw [List.append_assoc, List.getElem?_append, List.length_take, Nat.min_eq_left (by omega)]
  by_cases h1 : j < f
  · rw [if_pos h1, if_neg (by omega), List.getElem?_take, if_pos h1]
  · rw [if_neg h1, List.getElem?_append]
    by_cases h2 : j < f + cs.length
    · rw [if_pos (by omega), if_pos ⟨by omega, h2⟩]
    · rw [if_neg (by omega), if_neg (by omega), List.getElem?_drop]
      congr 1; omega

theorem row_get {α : Type} (c : List α) (vs : List α) {p j : Nat} (h : p + vs.length ≤ c.length) : (c.take p ++ vs ++ c.drop (p + vs.length))[j]? = if p ≤ j ∧ j < p + vs.length then vs[j - p]? else c[j]? := by
  rw [List.append_assoc, List.getElem?_append, List.length_take, Nat.min_eq_left (by omega)]
  by_cases h1 : j < p
  · rw [if_pos h1, if_neg (by omega), List.getElem?_take, if_pos h1]
  · rw [if_neg h1, List.getElem?_append]
    by_cases h2 : j < p + vs.length
    · rw [if_pos (by omega), if_pos ⟨by omega, h2⟩]
    · rw [if_neg (by omega), if_neg (by omega), List.getElem?_drop]
      congr 1; omega

/-- A value is stored into an element of a block. -/
theorem write_elem {b es i f : Nat} {o : AObj} {e : List AV} {cs : List AV} {vs : List Value} (h : Heap w0 O0 D0 w O H) (ho : H b = some o) (hes : o.es = es) (hz : es ≠ 0) (hi : o.xs[i]? = some e) (hf : f + cs.length ≤ e.length)
    (hc : allCell cs = true) (hl : cs.length = vs.length) (hr : ∀ (j : Nat) x y, cs[j]? = some x → vs[j]? = some y → Rep w O x y) :
    ∃ w', (storeCells ⟨b, i * es + f, none⟩ vs).run P w = .ok () w' ∧ Heap w0 O0 D0 w' O (H.set b ⟨es, o.xs.set i (splice e f cs)⟩) ∧ Ext w O (Fw.dom H) w' O := by
  subst hes
  obtain ⟨cells, t, h1, h2, h3, h4⟩ := (h.rep b o ho).rows hz
  have hel := (h3 e (List.mem_of_getElem? hi)).1
  have hil := (List.getElem?_eq_some_iff.1 hi).1
  have hbnd : i * o.es + o.es ≤ cells.size := by
    have : (i + 1) * o.es ≤ o.xs.length * o.es := Nat.mul_le_mul_right _ hil
    rw [Nat.add_mul, Nat.one_mul] at this
    omega
  have hone : ∀ v ∈ vs, v.oneCell' = true := by
    intro v hv
    obtain ⟨j, hj⟩ := List.getElem?_of_mem hv
    have hjl := (List.getElem?_eq_some_iff.1 hj).1
    have hx : cs[j]? = some (cs[j]'(by omega)) := List.getElem?_eq_getElem (by omega)
    exact (hr j _ _ hx hj).oneCell (allCell_mem hc _ (List.getElem_mem _))
  have hst := run_storeCells_at P b (i * o.es + f) t vs 0 cells w h1 (by omega) hone
  have hrow : ∀ j, ((cells.toList.take (i * o.es + f + 0) ++ vs ++ cells.toList.drop (i * o.es + f + 0 + vs.length)).toArray)[j]? = if i * o.es + f ≤ j ∧ j < i * o.es + f + vs.length then vs[j - (i * o.es + f)]? else cells[j]? := by
    intro j
    have := row_get cells.toList vs (p := i * o.es + f) (j := j) (by simp; omega)
    simp only [Nat.add_zero, List.getElem?_toArray]
    rw [this]
    simp
  refine ⟨_, hst, ?_, (Ext.setRow w O h1 (by simp; omega)).mono fun k hk => by
    have : k = b := hk
    subst this
    exact ⟨o, ho⟩⟩
  refine h.write ho h1 (by simp; omega) hz (by simp; omega) ?_ ?_
  · intro e' he'
    rcases List.mem_or_eq_of_mem_set he' with he' | rfl
    · exact h3 e' he'
    · refine ⟨by rw [splice_length hf]; exact hel, fun x hx => ?_⟩
      rcases splice_mem hx with hx | hx
      · exact (h3 e (List.mem_of_getElem? hi)).2 x hx
      · exact allCell_mem hc x hx
  · intro i' e' f' x hi' hf'
    rw [hrow]
    rw [List.getElem?_set] at hi'
    by_cases he : i = i'
    · subst he
      rw [if_pos rfl, if_pos hil] at hi'
      cases hi'
      rw [splice_get hf] at hf'
      split at hf'
      · rename_i hin
        have hv : vs[f' - f]? = some (vs[f' - f]'(by omega)) := List.getElem?_eq_getElem (by omega)
        refine ⟨vs[f' - f]'(by omega), ?_, hr _ _ _ hf' hv⟩
        rw [if_pos (by omega), ← hv]
        congr 1; omega
      · rename_i hout
        obtain ⟨y, hy, hry⟩ := h4 i e f' x hi hf'
        refine ⟨y, ?_, hry⟩
        have hfl := (List.getElem?_eq_some_iff.1 hf').1
        rw [if_neg (by omega)]
        exact hy
    · rw [if_neg he] at hi'
      obtain ⟨y, hy, hry⟩ := h4 i' e' f' x hi' hf'
      refine ⟨y, ?_, hry⟩
      have hfl := (List.getElem?_eq_some_iff.1 hf').1
      have hel' := (h3 e' (List.mem_of_getElem? hi')).1
      have hne : ¬ (i * o.es + f ≤ i' * o.es + f' ∧ i' * o.es + f' < i * o.es + f + vs.length) := by
        rintro ⟨ha, hb⟩
        rcases Nat.lt_or_gt_of_ne he with hlt | hgt
        · have : (i + 1) * o.es ≤ i' * o.es := Nat.mul_le_mul_right _ hlt
          rw [Nat.add_mul, Nat.one_mul] at this
          omega
        · have : (i' + 1) * o.es ≤ i * o.es := Nat.mul_le_mul_right _ hgt
          rw [Nat.add_mul, Nat.one_mul] at this
          omega
      rw [if_neg hne]
      exact hy

theorem store_ok {x y : AV} {vx vy : Value} {K : AH → Prop} (h : astore P t x y H K) (hx : Rep w O x vx) (hy : Rep w O y vy) (hH : Heap w0 O0 D0 w O H) :
    ∃ H' w', K H' ∧ (Instr.storeAt t vx vy).run P w = .ok () w' ∧ Heap w0 O0 D0 w' O H' ∧ Ext w O (Fw.dom H) w' O := by
  unfold astore at h
  split at h
  · rename_i b es i f
    split at h
    · rename_i hz
      obtain ⟨hinf, hc, hl, hk⟩ := h
      obtain ⟨inf, hinf⟩ := Option.isSome_iff_exists.1 hinf
      cases hx
      have hcr := cells_rep hy hc
      have hsz : vy.cells.size = P.cellsOf t := by rw [← hcr.1, hl, hz]
      have hnil : vy.cells = #[] := Array.eq_empty_of_size_eq_zero (by rw [hsz, hz])
      have hs : (sizeOf t).run P w = .ok 0 w := by rw [run_cells (.inr ⟨inf, hinf⟩), hz]
      refine ⟨H, w, hk, ?_, hH, Ext.refl w O _⟩
      simp [Instr.storeAt, Instr.sureAddr, storeVar, hs, hnil, storeCells]
    split at h
    · rename_i o ho
      obtain ⟨hes, hz0, hz, e, hi, hl, hf, hc, hk⟩ := h
      cases hx
      have hcr := cells_rep hy hc
      obtain ⟨w', h1, h2, h3⟩ := write_elem (P := P) (f := f) (vs := vy.cells.toList) hH ho hes hz0 hi (by omega) hc (by simpa using hcr.1) (fun j x y hj hq => hcr.2 j x y hj (by simpa using hq))
      refine ⟨_, w', hk, ?_, h2, h3⟩
      have hsz : vy.cells.size = P.cellsOf t := by rw [← hcr.1]; exact hl
      have hs := run_cells (w := w) (.inl hz)
      simp [Instr.storeAt, Instr.sureAddr, storeVar, hs, hsz, h1]
    · exact h.elim
  · exact h.elim

end Go.Fw
/- Made values: boxes, rows, structs, literals of slices. -/
namespace Go.Fw
set_option maxHeartbeats 8000000
set_option linter.all false
open Go

variable {df : List Deferred} {P : Program} {w w0 : World} {O O0 D0 : Nat → Prop} {H : AH} {s : St} {a : Act} {n : Nat} {t : TypeId}

/-- An operation that makes memory: its value and the heap behind it. -/
def Makes (P : Program) (w0 : World) (O0 D0 : Nat → Prop) (w : World) (O : Nat → Prop) (H : AH) (K : AV → AH → Prop) (m : Sem Value) : Prop :=
  ∃ x H' O' y w', K x H' ∧ m.run P w = .ok y w' ∧ Heap w0 O0 D0 w' O' H' ∧ Ext w O (Fw.dom H) w' O' ∧ Rep w' O' x y

theorem zeros_ok {cs : List AV} (h : zeros P t = some cs) : ∃ i z, P.info? t = some i ∧ i.zero = some z ∧ cs = z.cells.toList.map AV.v := by
  unfold zeros at h
  cases hi : P.info? t with
  | none => simp [hi] at h
  | some i =>
    cases hz : i.zero with
    | none => simp [hi, hz] at h
    | some z => exact ⟨i, z, rfl, hz, by simp [hi, hz] at h; exact h.symm⟩

/-- A block of one element. -/
theorem new_one {cs : List AV} {vs : Array Value} (hH : Heap w0 O0 D0 w O H) (u : TypeId) (hz : cs.length ≠ 0) (hc : allCell cs = true) (hl : cs.length = vs.size) (hr : ∀ (i : Nat) x y, cs[i]? = some x → vs[i]? = some y → Rep w O x y) :
    Heap w0 O0 D0 (w.alloc (.cells vs u)) (plus O w.heap.size) (H.set w.heap.size ⟨cs.length, [cs]⟩) := by
  refine hH.new u hz (by simp; omega) ?_ ?_
  · intro e he
    simp only [List.mem_singleton] at he
    subst he
    exact ⟨rfl, allCell_mem hc⟩
  · intro i e f x hi hf
    match i, hi with
    | 0, hi =>
      simp at hi; subst hi
      have hlt := (List.getElem?_eq_some_iff.1 hf).1
      exact ⟨vs[f]'(by omega), by simp [Array.getElem?_eq_getElem (show f < vs.size by omega)], hr f x _ hf (Array.getElem?_eq_getElem _)⟩
    | i + 1, hi => simp at hi

theorem box_ok {x : AV} {vx : Value} {K : AV → AH → Prop} (h : abox x H K) (hx : Rep w O x vx) (hH : Heap w0 O0 D0 w O H) : Makes P w0 O0 D0 w O H K (Instr.box t vx) := by
  obtain ⟨hc, hz, h⟩ := h
  have hk := h _ hH.fresh
  have hcr := cells_rep hx hc
  refine ⟨_, _, _, .pointer (some ⟨w.heap.size, 0, none⟩), w.alloc (.cells vx.cells t), hk, ?_, new_one hH t hz hc hcr.1 hcr.2, (Ext.alloc w O _).mono fun b hb => hb.elim, ?_⟩
  · simp [Instr.box, newVar, newRow]
  · have := Rep.ptr (w := w.alloc (.cells vx.cells t)) (O := plus O w.heap.size) w.heap.size x.cells.length 0 0 (by simp)
    simpa using this

theorem vals_rep (l : List Value) : ∀ (i : Nat) x y, (l.map AV.v)[i]? = some x → l[i]? = some y → Rep w O x y := by
  intro i x y hx hy
  rw [List.getElem?_map, hy] at hx
  simp only [Option.map_some, Option.some.injEq] at hx
  rw [← hx]; exact .v y

theorem alloc_ok {K : AV → AH → Prop} (h : aalloc P t H K) (hH : Heap w0 O0 D0 w O H) : Makes P w0 O0 D0 w O H K (Instr.alloc t true (.tuple #[])) := by
  unfold aalloc at h
  split at h
  · rename_i cs hcs
    obtain ⟨i, z, hi, hz, rfl⟩ := zeros_ok hcs
    split at h
    · have hk := h w.heap.size
      refine ⟨_, _, O, .pointer (some ⟨w.heap.size, 0, none⟩), w.alloc (.cells z.cells t), hk, by simp [Instr.alloc, zeroValue, typeInfo, hi, hz, newVar, newRow], ?_, (Ext.allocF w O _).mono fun b hb => hb.elim, ?_⟩
      · exact ⟨hH.ext.trans (Ext.allocF w O _) fun b _ hd => hd.elim, fun b hb => Nat.lt_of_lt_of_le (hH.bound b hb) (by simp), hH.dom, fun b o hb => (hH.rep b o hb).ext (Ext.allocF w O _) (fun b hb => hb.elim) (alloc_old w _ (hH.bound b (hH.dom b o hb).1))⟩
      · have := Rep.ptr (w := w.alloc (.cells z.cells t)) (O := O) w.heap.size 0 0 0 (by simp)
        simpa using this
    obtain ⟨hc, hnz, h⟩ := h
    have hk := h _ hH.fresh
    refine ⟨_, _, _, .pointer (some ⟨w.heap.size, 0, none⟩), w.alloc (.cells z.cells t), hk, ?_, new_one hH t hnz hc (by simp) (fun i x y h1 h2 => vals_rep z.cells.toList i x y h1 (by simpa using h2)), (Ext.alloc w O _).mono fun b hb => hb.elim, ?_⟩
    · simp [Instr.alloc, zeroValue, typeInfo, hi, hz, newVar, newRow]
    · have := Rep.ptr (w := w.alloc (.cells z.cells t)) (O := plus O w.heap.size) w.heap.size (z.cells.toList.map AV.v).length 0 0 (by simp)
      simpa using this
  · exact h.elim

/-- Rows of one and the same cells. -/
theorem rep_rows (z : Array Value) (k : Nat) (hz : 0 < z.size) (i f : Nat) (e : List AV) (x : AV) (hi : (List.replicate k (z.toList.map AV.v))[i]? = some e) (hf : e[f]? = some x) :
    ((Array.range (k * z.size)).map fun j => z[j % z.size]!)[i * z.size + f]? = z[f]? ∧ z[f]? = some (z[f]?.getD undef) ∧ Rep w O x (z[f]?.getD undef) := by
  have hik : i < k := by simpa using (List.getElem?_eq_some_iff.1 hi).1
  have he : e = z.toList.map AV.v := by
    rw [List.getElem?_replicate, if_pos hik] at hi
    simpa using hi.symm
  subst he
  have hfz : f < z.size := by simpa using (List.getElem?_eq_some_iff.1 hf).1
  have hlt : i * z.size + f < k * z.size := by
    have : (i + 1) * z.size ≤ k * z.size := Nat.mul_le_mul_right _ hik
    rw [Nat.add_mul, Nat.one_mul] at this
    omega
  have hmod : (i * z.size + f) % z.size = f := by rw [Nat.mul_comm, Nat.mul_add_mod, Nat.mod_eq_of_lt hfz]
  refine ⟨?_, ?_, ?_⟩
  · simp [hlt, hmod, hfz]
  · simp [hfz]
  · rw [List.getElem?_map] at hf
    simp [hfz] at hf
    simp only [hfz, Array.getElem?_eq_getElem, Option.getD_some]
    rw [← hf]
    exact .v _

theorem make_ok {l c : AV} {vl vc : Value} {K : AV → AH → Prop} (h : amake P t l c H K) (hl : Rep w O l vl) (hc : Rep w O c vc) (hH : Heap w0 O0 D0 w O H) : Makes P w0 O0 D0 w O H K (Instr.makeSlice t vl vc) := by
  unfold amake at h
  split at h
  · rename_i el nn mm hu
    split at h
    · rename_i zz hzz
      obtain ⟨i, z, hi, hz, rfl⟩ := zeros_ok hzz
      obtain ⟨h0, hlc, hb, h63, hzl, hzc, hzall, h⟩ := h
      have hk := h _ hH.fresh
      cases hl; cases hc
      have hsz : P.cellsOf el = z.cells.size := by simpa using hzc.symm
      have his : i.size = z.cells.size := by rw [← hsz]; simp [Program.cellsOf, hi]
      have hbo : P.bytesOf el = i.bytes := by simp [Program.bytesOf, hi]
      have hrun := run_make (P := P) w t el i z hu hi hz .i64 .i64 nn mm h0 hlc (by rw [hbo, Int.mul_comm] at hb; exact hb) h63
      have hzp : 0 < z.cells.size := by simpa using hzl
      refine ⟨_, _, _, _, _, hk, hrun, ?_, (Ext.alloc w O _).mono fun b hb => hb.elim, ?_⟩
      · refine hH.new el (by rw [hsz]; omega) ?_ ?_ ?_
        · simp [madeCells, hsz, his]
        · intro e he
          have := List.eq_of_mem_replicate he
          subst this
          exact ⟨hzc, allCell_mem hzall⟩
        · intro j e f x hj hf
          obtain ⟨h1, h2, h3⟩ := rep_rows (w := w) (O := O) z.cells mm.toNat hzp j f e x hj hf
          refine ⟨_, ?_, h3⟩
          rw [hsz, his]
          unfold madeCells
          rw [h1]
          exact h2
      · have := Rep.ov (w := w.alloc (.cells (madeCells z.cells (mm.toNat * i.size)) el)) (O := plus O w.heap.size) w.heap.size 0 (P.cellsOf el) nn.toNat mm.toNat (some mm.toNat) _ el (0, 0) (alloc_new w _)
          (by simp [madeCells, hsz, his]) (by omega) (by intro k hk; cases hk; rfl)
        simpa using this
    · exact h.elim
  · exact h.elim

/-- Cells written one behind another. -/
theorem fold_cells (off : Nat) (l : List Value) : ∀ (k : Nat) (cs : Array Value), off + k + l.length ≤ cs.size →
    let r := (l.zipIdx k).foldl (fun (cs : Array Value) (p : Value × Nat) => cs.setIfInBounds (off + p.2) p.1) cs
    r.size = cs.size ∧ ∀ j, r[j]? = if off + k ≤ j ∧ j < off + k + l.length then l[j - (off + k)]? else cs[j]? := by
  induction l with
  | nil => intro k cs _; exact ⟨rfl, fun j => by simp; omega⟩
  | cons v l ih =>
    intro k cs hle
    simp only [List.length_cons] at hle
    obtain ⟨h1, h2⟩ := ih (k + 1) (cs.setIfInBounds (off + k) v) (by simp; omega)
    refine ⟨by simpa [List.zipIdx_cons] using h1, fun j => ?_⟩
    have := h2 j
    simp only [List.zipIdx_cons, List.foldl_cons]
    rw [this]
    simp only [List.length_cons]
    by_cases hj : j = off + k
    · subst hj
      rw [if_neg (by omega), if_pos (by omega)]
      simp [show off + k < cs.size by omega]
    · by_cases hin : off + (k + 1) ≤ j ∧ j < off + (k + 1) + l.length
      · rw [if_pos hin, if_pos (by omega)]
        have : j - (off + k) = (j - (off + (k + 1))) + 1 := by omega
        rw [this, List.getElem?_cons_succ]
      · rw [if_neg hin, if_neg (by omega), Array.getElem?_setIfInBounds_ne (by omega)]

/-- What stands in an array of cells is what is told of it. -/
def CellsRep (w : World) (O : Nat → Prop) (cs : List AV) (vs : Array Value) : Prop :=
  cs.length = vs.size ∧ allCell cs = true ∧ ∀ (i : Nat) x y, cs[i]? = some x → vs[i]? = some y → Rep w O x y

theorem allCell_of {l : List AV} (h : ∀ x ∈ l, x.cell = true) : allCell l = true := by
  induction l with
  | nil => rfl
  | cons y r ih => simp only [allCell, Bool.and_eq_true]; exact ⟨h y (by simp), ih fun x hx => h x (by simp [hx])⟩

theorem CellsRep.splice {cs ys : List AV} {vs : Array Value} {us : Array Value} {off : Nat} (h : CellsRep w O cs vs) (hy : CellsRep w O ys us) (hl : off + ys.length ≤ cs.length) :
    CellsRep w O (splice cs off ys) (us.zipIdx.foldl (fun cs (c, j) => cs.setIfInBounds (off + j) c) vs) := by
  have hf := fold_cells off us.toList 0 vs (by have := h.1; have := hy.1; simp; omega)
  have he : us.zipIdx.foldl (fun (cs : Array Value) (p : Value × Nat) => cs.setIfInBounds (off + p.2) p.1) vs = (us.toList.zipIdx 0).foldl (fun (cs : Array Value) (p : Value × Nat) => cs.setIfInBounds (off + p.2) p.1) vs := by
    rw [← Array.foldl_toList]; simp
  simp only at hf
  refine ⟨?_, ?_, ?_⟩
  · show _ = (us.zipIdx.foldl (fun (cs : Array Value) (p : Value × Nat) => cs.setIfInBounds (off + p.2) p.1) vs).size
    rw [he, hf.1, splice_length hl, h.1]
  · refine allCell_of fun x hx => ?_
    rcases splice_mem hx with hx | hx
    · exact allCell_mem h.2.1 x hx
    · exact allCell_mem hy.2.1 x hx
  · intro i x y hx hv
    have hv' : (us.zipIdx.foldl (fun (cs : Array Value) (p : Value × Nat) => cs.setIfInBounds (off + p.2) p.1) vs)[i]? = some y := hv
    rw [he, hf.2 i] at hv'
    rw [splice_get hl] at hx
    simp only [Nat.add_zero, Array.length_toList, ← hy.1] at hv'
    split at hx
    · rename_i hin
      rw [if_pos hin, Array.getElem?_toList] at hv'
      exact hy.2.2 _ _ _ hx hv'
    · rename_i hout
      rw [if_neg hout] at hv'
      exact h.2.2 _ _ _ hx hv'

theorem cells_of {x : AV} {y : Value} (h : Rep w O x y) (hc : allCell x.cells = true) : CellsRep w O x.cells y.cells := ⟨(cells_rep h hc).1, hc, (cells_rep h hc).2⟩

theorem zero_cells {z : Value} (h : allCell (z.cells.toList.map AV.v) = true) : CellsRep w O (z.cells.toList.map AV.v) z.cells :=
  ⟨by simp, h, fun i x y h1 h2 => vals_rep _ i x y h1 (by simpa using h2)⟩

theorem fill_ok (fs : Array Field) (hm : Mod df w0 O0 D0 n s H a w O) : ∀ (ps : List (Nat × Operand)) (cs : List AV) (vs : Array Value) (r : List AV), afill P fs s ps cs = some r → CellsRep w O cs vs →
    ∃ out, Instr.fill (fun i => (fs.map fun f => (f.offset, P.cellsOf f.type))[i]?) vs (ps.map fun p => (p.1, a.eval p.2)) = some out ∧ CellsRep w O r out
  | [], cs, vs, r, h, hc => by simp only [afill, Option.some.injEq] at h; subst h; exact ⟨vs, rfl, hc⟩
  | (i, x) :: ps, cs, vs, r, h, hc => by
    simp only [afill] at h
    split at h
    · rename_i fd hfd
      split at h
      · rename_i hcond
        obtain ⟨h1, h2, h3⟩ := hcond
        have hx := cells_of (hm.ev x) h3
        obtain ⟨out, ho, hr⟩ := fill_ok fs hm ps _ _ r h (hc.splice hx h2)
        refine ⟨out, ?_, hr⟩
        have e1 : (a.eval x).cells.size = P.cellsOf fd.type := by rw [← hx.1]; exact h1
        have e2 : ¬ fd.offset + (a.eval x).cells.size > vs.size := by rw [← hx.1, ← hc.1]; omega
        simp only [List.map_cons, Instr.fill, Array.getElem?_map, hfd, Option.map_some]
        rw [if_neg (by simp [e1]; omega)]
        simp only [Array.getElem?_map] at ho
        exact ho
      · cases h
    · cases h

theorem fillA_ok (es : Nat) (hm : Mod df w0 O0 D0 n s H a w O) : ∀ (ps : List (Nat × Operand)) (cs : List AV) (vs : Array Value) (r : List AV), afillA es s ps cs = some r → CellsRep w O cs vs →
    ∃ out, Instr.fill (fun i => some (i * es, es)) vs (ps.map fun p => (p.1, a.eval p.2)) = some out ∧ CellsRep w O r out
  | [], cs, vs, r, h, hc => by simp only [afillA, Option.some.injEq] at h; subst h; exact ⟨vs, rfl, hc⟩
  | (i, x) :: ps, cs, vs, r, h, hc => by
    simp only [afillA] at h
    split at h
    · rename_i hcond
      obtain ⟨h1, h2, h3⟩ := hcond
      have hx := cells_of (hm.ev x) h3
      obtain ⟨out, ho, hr⟩ := fillA_ok es hm ps _ _ r h (hc.splice hx h2)
      refine ⟨out, ?_, hr⟩
      have e1 : (a.eval x).cells.size = es := by rw [← hx.1]; exact h1
      have e2 : ¬ i * es + (a.eval x).cells.size > vs.size := by rw [← hx.1, ← hc.1]; omega
      simp only [List.map_cons, Instr.fill]
      rw [if_neg (by simp [e1]; omega)]
      exact ho
    · cases h

theorem toArray_map {α β : Type} (l : Array α) {f : α → β} : (l.toList.map f).toArray = l.map f := by
  cases l; simp

theorem run_places (fs : Array Field) (h : sizedF P fs.toList) : (fs.mapM (m := Sem) fun (f : Field) => do pure (f.offset, ← sizeOf f.type)).run P w = .ok (fs.map fun f => (f.offset, P.cellsOf f.type)) w := by
  have main : ∀ (l : List Field), sizedF P l → (l.mapM (m := Sem) fun (f : Field) => do pure (f.offset, ← sizeOf f.type)).run P w = .ok (l.map fun f => (f.offset, P.cellsOf f.type)) w := by
    intro l
    induction l with
    | nil => intro _; rfl
    | cons f r ih =>
      intro hl
      simp only [List.mapM_cons, Sem.run_bind, run_cells (w := w) (.inl hl.1), Result.andThen_ok, Sem.run_pure, ih hl.2, List.map_cons]
  rw [Array.mapM_eq_mapM_toList]
  rw [map_eq_pure_bind, Sem.run_bind, main fs.toList h]
  show Result.ok (List.toArray (fs.toList.map fun f => (f.offset, P.cellsOf f.type))) w = _
  rw [toArray_map fs]

theorem build_ok {ps : Array (Nat × Operand)} {K : AV → Prop} (h : abuild P t ps s K) (hm : Mod df w0 O0 D0 n s H a w O) : Gives P w O K (Instr.build t (ps.map fun (i, x) => (i, a.eval x))) := by
  unfold abuild at h
  split at h
  · rename_i fs zz hu hzz
    obtain ⟨i, z, hi, hz, rfl⟩ := zeros_ok hzz
    obtain ⟨hs, hza, h⟩ := h
    split at h
    · rename_i cs hcs
      · obtain ⟨out, ho, hr⟩ := fill_ok fs hm ps.toList _ _ cs hcs (zero_cells (w := w) (O := O) hza)
        refine ⟨_, .agg out, h, ?_, ?_⟩
        · have := Rep.agg (w := w) (O := O) cs out.toList (by simpa using hr.1) (fun i x y hx hy => hr.2.2 i x y hx (by simpa using hy))
          simpa using this
        · have ho' : Instr.fill (fun i => (fs.map fun f => (f.offset, P.cellsOf f.type))[i]?) z.cells ((ps.map fun (p : Nat × Operand) => (p.1, a.eval p.2)).toList) = some out := by simpa using ho
          simp only [Instr.build, Sem.run_bind, zeroValue, typeInfo, run_program, Result.andThen_ok, hi, Sem.run_pure, hz, run_underlying hu]
          erw [run_places fs hs]
          simp only [Result.andThen_ok]
          erw [ho']
          rfl
    · exact h.elim
  · rename_i len el zz hu hzz
    obtain ⟨i, z, hi, hz, rfl⟩ := zeros_ok hzz
    obtain ⟨hs, hza, h⟩ := h
    split at h
    · rename_i cs hcs
      obtain ⟨out, ho, hr⟩ := fillA_ok _ hm ps.toList _ _ cs hcs (zero_cells (w := w) (O := O) hza)
      refine ⟨_, .agg out, h, ?_, ?_⟩
      · have := Rep.agg (w := w) (O := O) cs out.toList (by simpa using hr.1) (fun i x y hx hy => hr.2.2 i x y hx (by simpa using hy))
        simpa using this
      · have ho' : Instr.fill (fun i => some (i * P.cellsOf el, P.cellsOf el)) z.cells ((ps.map fun (p : Nat × Operand) => (p.1, a.eval p.2)).toList) = some out := by simpa using ho
        simp only [Instr.build, Sem.run_bind, zeroValue, typeInfo, run_program, Result.andThen_ok, hi, Sem.run_pure, hz, run_underlying hu, run_cells (w := w) (.inl hs)]
        erw [ho']
        rfl
    · exact h.elim
  · exact h.elim

/-- Rows of cells. -/
def RowsRep (w : World) (O : Nat → Prop) (es : Nat) (xs : List (List AV)) (vs : Array Value) : Prop :=
  xs.length * es ≤ vs.size ∧ (∀ e ∈ xs, e.length = es ∧ ∀ x ∈ e, x.cell = true) ∧ ∀ (i : Nat) e (f : Nat) x, xs[i]? = some e → e[f]? = some x → ∃ y, vs[i * es + f]? = some y ∧ Rep w O x y

theorem RowsRep.set {es i : Nat} {xs : List (List AV)} {y : List AV} {vs us : Array Value} (h : RowsRep w O es xs vs) (hy : CellsRep w O y us) (hl : y.length = es) (hi : i < xs.length) :
    RowsRep w O es (xs.set i y) (us.zipIdx.foldl (fun cs (c, j) => cs.setIfInBounds (i * es + j) c) vs) := by
  have hb : i * es + es ≤ vs.size := by
    have : (i + 1) * es ≤ xs.length * es := Nat.mul_le_mul_right _ hi
    rw [Nat.add_mul, Nat.one_mul] at this
    exact Nat.le_trans this h.1
  have hf := fold_cells (i * es) us.toList 0 vs (by have := hy.1; simp; omega)
  have he : us.zipIdx.foldl (fun (cs : Array Value) (p : Value × Nat) => cs.setIfInBounds (i * es + p.2) p.1) vs = (us.toList.zipIdx 0).foldl (fun (cs : Array Value) (p : Value × Nat) => cs.setIfInBounds (i * es + p.2) p.1) vs := by
    rw [← Array.foldl_toList]; simp
  simp only at hf
  have hus : us.size = es := by rw [← hy.1]; exact hl
  refine ⟨?_, ?_, ?_⟩
  · show _ ≤ (us.zipIdx.foldl (fun (cs : Array Value) (p : Value × Nat) => cs.setIfInBounds (i * es + p.2) p.1) vs).size
    rw [he, hf.1, List.length_set]; exact h.1
  · intro e hmem
    rcases List.mem_or_eq_of_mem_set hmem with hmem | rfl
    · exact h.2.1 e hmem
    · exact ⟨hl, allCell_mem hy.2.1⟩
  · intro k e f x hk hfx
    show ∃ v, (us.zipIdx.foldl (fun (cs : Array Value) (p : Value × Nat) => cs.setIfInBounds (i * es + p.2) p.1) vs)[k * es + f]? = some v ∧ Rep w O x v
    rw [he, hf.2]
    simp only [Nat.add_zero, Array.length_toList, hus]
    rw [List.getElem?_set] at hk
    by_cases hik : i = k
    · subst hik
      rw [if_pos rfl, if_pos hi] at hk
      cases hk
      have hfl : f < y.length := (List.getElem?_eq_some_iff.1 hfx).1
      rw [if_pos (by omega)]
      have : i * es + f - i * es = f := by omega
      rw [this, Array.getElem?_toList]
      have hv : us[f]? = some (us[f]'(by omega)) := Array.getElem?_eq_getElem (by omega)
      exact ⟨_, hv, hy.2.2 _ _ _ hfx hv⟩
    · rw [if_neg hik] at hk
      have hfl : f < e.length := (List.getElem?_eq_some_iff.1 hfx).1
      have hel := (h.2.1 e (List.mem_of_getElem? hk)).1
      have hne : ¬ (i * es ≤ k * es + f ∧ k * es + f < i * es + es) := by
        rintro ⟨ha, hb⟩
        rcases Nat.lt_or_gt_of_ne hik with hlt | hgt
        · have : (i + 1) * es ≤ k * es := Nat.mul_le_mul_right _ hlt
          rw [Nat.add_mul, Nat.one_mul] at this
          omega
        · have : (k + 1) * es ≤ i * es := Nat.mul_le_mul_right _ hgt
          rw [Nat.add_mul, Nat.one_mul] at this
          omega
      rw [if_neg hne]
      exact h.2.2 k e f x hk hfx

theorem fillS_ok (es : Nat) (hm : Mod df w0 O0 D0 n s H a w O) : ∀ (ps : List (Nat × Operand)) (xs : List (List AV)) (vs : Array Value) (r : List (List AV)), afillS es s ps xs = some r → RowsRep w O es xs vs →
    ∃ out, Instr.fill (fun i => some (i * es, es)) vs (ps.map fun p => (p.1, a.eval p.2)) = some out ∧ RowsRep w O es r out
  | [], cs, vs, r, h, hc => by simp only [afillS, Option.some.injEq] at h; subst h; exact ⟨vs, rfl, hc⟩
  | (i, x) :: ps, cs, vs, r, h, hc => by
    simp only [afillS] at h
    split at h
    · rename_i hcond
      obtain ⟨h1, h2, h3⟩ := hcond
      have hx := cells_of (hm.ev x) h3
      obtain ⟨out, ho, hr⟩ := fillS_ok es hm ps _ _ r h (hc.set hx h1 h2)
      refine ⟨out, ?_, hr⟩
      have e1 : (a.eval x).cells.size = es := by rw [← hx.1]; exact h1
      have e2 : i * es + es ≤ vs.size := by
        have : (i + 1) * es ≤ cs.length * es := Nat.mul_le_mul_right _ h2
        rw [Nat.add_mul, Nat.one_mul] at this
        exact Nat.le_trans this hc.1
      simp only [List.map_cons, Instr.fill]
      rw [if_neg (by simp [e1]; omega)]
      exact ho
    · cases h

/-- A row that nobody owns may be read. -/
theorem RowsRep.imm {es : Nat} {xs : List (List AV)} {vs : Array Value} (h : RowsRep w O es xs vs) {b : Nat} {u : TypeId} {fr : Nat × Nat} (hb : w.heap[b]? = some (.cells vs u fr)) (hO : ¬ O b) (c : Nat) (hc : xs.length ≤ c) :
    Rep w O (.imm es xs) (.slice (some ⟨b, 0, none⟩) xs.length c) := by
  refine .imm es xs b 0 c vs u fr (fun i f => (vs[i * es + f]?).getD undef) hb hO hc h.2.1 ?_ ?_
  · intro i e f x hi hf
    obtain ⟨y, hy, _⟩ := h.2.2 i e f x hi hf
    rw [Nat.zero_add, hy]
    rfl
  · intro i e f x hi hf
    obtain ⟨y, hy, hr⟩ := h.2.2 i e f x hi hf
    simp only [hy, Option.getD_some]
    exact hr

theorem RowsRep.ext {w' : World} {O' D : Nat → Prop} {es : Nat} {xs : List (List AV)} {vs : Array Value} (h : RowsRep w O es xs vs) (k : Ext w O D w' O') (hD : ∀ b, D b → O b) : RowsRep w' O' es xs vs :=
  ⟨h.1, h.2.1, fun i e f x hi hf => by
    obtain ⟨y, h1, h2⟩ := h.2.2 i e f x hi hf
    exact ⟨y, h1, h2.ext k hD⟩⟩

theorem buildS_ok {len : Nat} {ps : Array (Nat × Operand)} {K : AV → Prop} (h : abuildS P t len ps s K) (hm : Mod df w0 O0 D0 n s H a w O) :
    Makes P w0 O0 D0 w O H (fun x H' => K x ∧ H' = H) (Instr.buildSlice t len (ps.map fun (i, x) => (i, a.eval x))) := by
  unfold abuildS at h
  split at h
  · rename_i el hu
    split at h
    · rename_i zz hzz
      obtain ⟨i, z, hi, hz, rfl⟩ := zeros_ok hzz
      obtain ⟨hzl, hzc, hza, hlim, h⟩ := h
      split at h
      · rename_i xs hxs
        have hsz : z.cells.size = P.cellsOf el := by simpa using hzc
        have hz0 : 0 < z.cells.size := by simpa using hzl
        have hlm : ¬ len * P.cellsOf el > 2 ^ 24 := by rw [← hsz]; simpa using hlim
        simp only [List.length_map, Array.length_toList] at hxs hza h
        have hstart : RowsRep w O z.cells.size (List.replicate len (z.cells.toList.map AV.v)) ((Array.range (len * z.cells.size)).map fun j => z.cells[j % z.cells.size]!) := by
          refine ⟨by simp, ?_, ?_⟩
          · intro e he
            have := List.eq_of_mem_replicate he
            subst this
            exact ⟨by simp, allCell_mem hza⟩
          · intro j e f x hj hf
            obtain ⟨h1, h2, h3⟩ := rep_rows (w := w) (O := O) z.cells len hz0 j f e x hj hf
            exact ⟨_, h1.trans h2, h3⟩
        obtain ⟨out, ho, hr⟩ := fillS_ok z.cells.size hm ps.toList _ _ xs hxs hstart
        have hxl : xs.length = len := by
          have gen : ∀ (ps : List (Nat × Operand)) (xs r : List (List AV)), afillS z.cells.size s ps xs = some r → r.length = xs.length := by
            intro ps
            induction ps with
            | nil => intro xs r h; simp only [afillS, Option.some.injEq] at h; rw [h]
            | cons p ps ih =>
              intro xs r h
              obtain ⟨j, o⟩ := p
              simp only [afillS] at h
              split at h
              · rw [ih _ _ h, List.length_set]
              · cases h
          rw [gen _ _ _ hxs, List.length_replicate]
        have hx : ∃ x, K x ∧ Rep (w.alloc (.cells out el)) O x (.slice (some ⟨w.heap.size, 0, none⟩) len len) := by
          by_cases h0 : len = 0
          · subst h0
            rw [if_pos rfl] at h
            exact ⟨_, h, .ovn _ _⟩
          · rw [if_neg h0] at h
            refine ⟨_, h, ?_⟩
            rw [← hxl]
            exact (hr.ext (Ext.allocF w O _) fun b hb => hb.elim).imm (alloc_new w _) (fun hO => absurd (hm.heap.bound _ hO) (Nat.lt_irrefl _)) _ (Nat.le_refl _)
        obtain ⟨x, hkx, hrx⟩ := hx
        refine ⟨x, H, O, .slice (some ⟨w.heap.size, 0, none⟩) len len, w.alloc (.cells out el), ⟨hkx, rfl⟩, ?_, hm.heap.allocF _, (Ext.allocF w O _).mono fun b hb => hb.elim, hrx⟩
        · have ho' : Instr.fill (fun i => some (i * P.cellsOf el, P.cellsOf el)) ((Array.range (len * P.cellsOf el)).map fun j => z.cells[j % z.cells.size]!) ((ps.map fun (p : Nat × Operand) => (p.1, a.eval p.2)).toList) = some out := by
            rw [hsz] at ho; simpa [hsz] using ho
          simp only [Instr.buildSlice, Sem.run_bind, run_underlying hu, Result.andThen_ok, run_cells (w := w) (.inl (show P.cellsOf el ≠ 0 by omega))]
          rw [if_neg hlm]
          by_cases h0 : len * P.cellsOf el = 0
          · rw [if_pos h0]
            have hsame : ((Array.range (len * P.cellsOf el)).map fun j => z.cells[j % z.cells.size]!) = ((Array.range (len * P.cellsOf el)).map fun j => (#[] : Array Value)[j % (#[] : Array Value).size]!) := by
              simp [h0]
            rw [hsame] at ho'
            simp only [Sem.run_bind, Sem.run_pure, Result.andThen_ok]
            erw [ho']
            rfl
          · rw [if_neg h0]
            simp only [Sem.run_bind, Sem.run_pure, Result.andThen_ok, zeroValue, typeInfo, run_program, hi, hz]
            erw [ho']
            rfl
      · exact h.elim
    · exact h.elim
  · exact h.elim

end Go.Fw
/- append: what is given up and what is appended become one vector. -/
namespace Go.Fw
set_option maxHeartbeats 8000000
set_option linter.all false
open Go

variable {df : List Deferred} {P : Program} {w w0 : World} {O O0 D0 : Nat → Prop} {H : AH} {s : St} {a : Act} {n : Nat} {t : TypeId}

/-- The cells of some rows, one behind another. -/
structure Cells (w : World) (O : Nat → Prop) (es : Nat) (xs : List (List AV)) (vs : List Value) : Prop where
  len : vs.length = xs.length * es
  rows : ∀ e ∈ xs, e.length = es ∧ ∀ x ∈ e, x.cell = true
  rep : ∀ (i : Nat) e (f : Nat) x, xs[i]? = some e → e[f]? = some x → ∃ y, vs[i * es + f]? = some y ∧ Rep w O x y

theorem Cells.nil (w : World) (O : Nat → Prop) (es : Nat) : Cells w O es [] [] := ⟨by simp, fun e he => by simp at he, fun i e f x hi => by simp at hi⟩

theorem Cells.one {es : Nat} {xs : List (List AV)} {vs : List Value} (h : Cells w O es xs vs) : ∀ v ∈ vs, v.oneCell' = true := by
  intro v hv
  obtain ⟨k, hk⟩ := List.getElem?_of_mem hv
  have hkl := (List.getElem?_eq_some_iff.1 hk).1
  rw [h.len] at hkl
  have hes : 0 < es := by
    rcases Nat.eq_zero_or_pos es with h0 | h0
    · subst h0; simp at hkl
    · exact h0
  have hi : k / es < xs.length := by
    rw [Nat.div_lt_iff_lt_mul hes]; exact hkl
  have hxi : xs[k / es]? = some xs[k / es] := List.getElem?_eq_getElem hi
  have hel := (h.rows _ (List.getElem_mem hi)).1
  have hf : k % es < (xs[k / es]).length := by rw [hel]; exact Nat.mod_lt _ hes
  obtain ⟨y, hy, hr⟩ := h.rep _ _ _ _ hxi (List.getElem?_eq_getElem hf)
  have hkk : k / es * es + k % es = k := by rw [Nat.mul_comm]; exact Nat.div_add_mod k es
  rw [hkk, hk] at hy
  cases hy
  exact hr.oneCell ((h.rows _ (List.getElem_mem hi)).2 _ (List.getElem_mem hf))

theorem Cells.append {es : Nat} {xs ys : List (List AV)} {vs us : List Value} (h : Cells w O es xs vs) (k : Cells w O es ys us) : Cells w O es (xs ++ ys) (vs ++ us) where
  len := by simp [h.len, k.len, Nat.add_mul]
  rows := fun e he => (List.mem_append.1 he).elim (h.rows e) (k.rows e)
  rep := fun i e f x hi hf => by
    rw [List.getElem?_append] at hi
    split at hi
    · rename_i hlt
      obtain ⟨y, hy, hr⟩ := h.rep i e f x hi hf
      exact ⟨y, by rw [List.getElem?_append_left (List.getElem?_eq_some_iff.1 hy).1]; exact hy, hr⟩
    · rename_i hge
      obtain ⟨y, hy, hr⟩ := k.rep _ e f x hi hf
      refine ⟨y, ?_, hr⟩
      have : (i - xs.length) * es + xs.length * es = i * es := by rw [← Nat.add_mul]; congr 1; omega
      rw [List.getElem?_append_right (by rw [h.len]; have := Nat.mul_le_mul_right es (Nat.not_lt.1 hge); omega), h.len, ← hy]
      congr 1
      omega

theorem Cells.ext {w' : World} {O' D : Nat → Prop} {es : Nat} {xs : List (List AV)} {vs : List Value} (h : Cells w O es xs vs) (k : Ext w O D w' O') (hD : ∀ b, D b → O b) : Cells w' O' es xs vs :=
  ⟨h.len, h.rows, fun i e f x hi hf => by
    obtain ⟨y, h1, h2⟩ := h.rep i e f x hi hf
    exact ⟨y, h1, h2.ext k hD⟩⟩

/-- A run of rows out of an array of cells. -/
theorem Cells.of_array {es o : Nat} {xs : List (List AV)} {cells : Array Value} (hl : o + xs.length * es ≤ cells.size) (hrows : ∀ e ∈ xs, e.length = es ∧ ∀ x ∈ e, x.cell = true)
    (h : ∀ (i : Nat) e (f : Nat) x, xs[i]? = some e → e[f]? = some x → ∃ y, cells[o + i * es + f]? = some y ∧ Rep w O x y) : Cells w O es xs ((cells.toList.drop o).take (xs.length * es)) where
  len := by simp; omega
  rows := hrows
  rep := fun i e f x hi hf => by
    obtain ⟨y, hy, hr⟩ := h i e f x hi hf
    refine ⟨y, ?_, hr⟩
    have hil := (List.getElem?_eq_some_iff.1 hi).1
    have hfl := (List.getElem?_eq_some_iff.1 hf).1
    have hel := (hrows e (List.mem_of_getElem? hi)).1
    have : (i + 1) * es ≤ xs.length * es := Nat.mul_le_mul_right _ hil
    rw [Nat.add_mul, Nat.one_mul] at this
    rw [List.getElem?_take, if_pos (by omega), List.getElem?_drop, Array.getElem?_toList, ← Nat.add_assoc]
    exact hy

/-- What is appended: its cells, wherever the world stands that has the same heap. -/
def Src (P : Program) (w : World) (es : Nat) (vx : Value) (m : Nat) (vs : List Value) : Prop :=
  (∀ w', (Builtin.lenOf vx).run P w' = .ok m w') ∧ ∀ w' : World, w'.heap = w.heap → (Builtin.firstCells es m vx).run P w' = .ok vs.toArray w'

theorem cell_heap {w w' : World} (h : w'.heap = w.heap) (p : Addr) : w'.cell? p = w.cell? p := by simp [World.cell?, h]

/-- The cells of a slice that lies in a block. -/
theorem src_block {es b o m c : Nat} {cells : Array Value} {u : TypeId} {fr : Nat × Nat} (hw : w.heap[b]? = some (.cells cells u fr)) (hl : o + m * es ≤ cells.size) :
    Src P w es (.slice (some ⟨b, o, none⟩) m c) m ((cells.toList.drop o).take (m * es)) := by
  refine ⟨fun w' => rfl, fun w' hw' => run_firstCells_some (P := P) w' es m ⟨b, o, none⟩ m c _ (by simp; omega) fun j v hj => ?_⟩
  rw [List.getElem?_take] at hj
  split at hj
  · rw [List.getElem?_drop, Array.getElem?_toList] at hj
    rw [cell_heap hw', add_zero_spot]
    simp [World.cell?, hw, hj]
  · cases hj

theorem src_nil {es : Nat} (ad : Option Addr) (c : Nat) : Src P w es (.slice ad 0 c) 0 [] := by
  refine ⟨fun w' => rfl, fun w' _ => ?_⟩
  cases ad with
  | none => rfl
  | some p => simp [Builtin.firstCells, loadCells, loadCellsFrom]

theorem imm_cells {es : Nat} {xs : List (List AV)} {vx : Value} (hes0 : 0 < es) (h : Rep w O (.imm es xs) vx) : ∃ vs ad c, vx = .slice ad xs.length c ∧ Cells w O es xs vs ∧ Src P w es vx xs.length vs := by
  cases h with
  | imn es ad c => exact ⟨[], ad, c, rfl, Cells.nil w O _, src_nil ad c⟩
  | imm es xs b o c cells t fr vals hw hO hc hes h1 h2 =>
    cases xs with
    | nil => exact ⟨[], _, c, rfl, Cells.nil w O _, src_nil _ c⟩
    | cons x0 r =>
      have hi : (x0 :: r)[r.length]? = some (x0 :: r)[r.length] := List.getElem?_eq_getElem (by simp)
      have hel := (hes _ (List.getElem_mem (show r.length < (x0 :: r).length by simp))).1
      have hf : ((x0 :: r)[r.length])[es - 1]? = some (((x0 :: r)[r.length])[es - 1]'(by omega)) := List.getElem?_eq_getElem (by omega)
      have hlt := (Array.getElem?_eq_some_iff.1 (h1 _ _ _ _ hi hf)).1
      have hle : o + (x0 :: r).length * es ≤ cells.size := by
        have : (x0 :: r).length * es = r.length * es + es := by simp [Nat.add_mul]
        omega
      exact ⟨_, _, c, rfl, Cells.of_array hle hes (fun i e f x hi hf => ⟨_, h1 i e f x hi hf, h2 i e f x hi hf⟩), src_block hw hle⟩

theorem bytes_len (c : ByteArray) : c.toList.length = c.size := by rw [ByteArray.toList_eq, Array.length_toList]; rfl

theorem src_ok {x : AV} {vx : Value} {es : Nat} {K : List (List AV) → Prop} (hes0 : 0 < es) (h : asrc x H es K) (hx : Rep w O x vx) (hH : Holds w O H) :
    ∃ xs vs, K xs ∧ Cells w O es xs vs ∧ Src P w es vx xs.length vs := by
  unfold asrc at h
  split at h
  · obtain ⟨rfl, h⟩ := h
    obtain ⟨vs, ad, c, rfl, h1, h2⟩ := imm_cells (P := P) hes0 hx
    exact ⟨_, vs, h, h1, h2⟩
  · cases hx
    exact ⟨[], [], h, Cells.nil w O _, src_nil _ _⟩
  · obtain ⟨rfl, h⟩ := h
    cases hx
    rename_i c
    refine ⟨_, c.toList.map fun q => .int .u8 q.toNat, h, ⟨by simp, ?_, ?_⟩, fun w' => by rw [List.length_map, bytes_len]; rfl, fun w' _ => ?_⟩
    · intro e he
      obtain ⟨q, _, rfl⟩ := List.mem_map.1 he
      exact ⟨rfl, fun x hx => by simp at hx; subst hx; rfl⟩
    · intro i e f x hi hf
      rw [List.getElem?_map] at hi
      cases hq : c.toList[i]? with
      | none => rw [hq] at hi; cases hi
      | some q =>
        rw [hq] at hi
        simp only [Option.map_some, Option.some.injEq] at hi
        subst hi
        match f, hf with
        | 0, hf =>
          simp at hf
          subst hf
          exact ⟨_, by simp [hq], .v _⟩
        | f + 1, hf => simp at hf
    · have : (List.map (fun c => [AV.v (Value.int IntKind.u8 (UInt8.toNat c))]) c.toList).length = c.size := by rw [List.length_map, bytes_len]
      rw [this]
      have h1 : c.extract 0 c.size = c := by simp
      simp only [Builtin.firstCells, h1, Sem.run_pure, ByteArray.toList_eq]
      congr 1
      apply Array.ext'
      simp
  · cases hx
    exact ⟨[], [], h, Cells.nil w O _, src_nil _ _⟩
  · split at h
    · rename_i b off es' m _ _ o ho
      obtain ⟨h1, rfl, h2, h⟩ := h
      cases hx with
      | ov b off es m c c' cells t fr hw hc hn hcc =>
        obtain ⟨cells', t', g1, g2, g3, g4⟩ := (hH b o ho).2.rows (by omega)
        rw [hw] at g1
        cases g1
        rw [h1] at g2 g3 g4
        have hlen : ((o.xs.drop off).take m).length = m := by simp; omega
        have hle : off * es' + m * es' ≤ cells.size := by
          rw [← Nat.add_mul]
          exact Nat.le_trans (Nat.mul_le_mul_right _ h2) g2
        refine ⟨_, (cells.toList.drop (off * es')).take (((o.xs.drop off).take m).length * es'), h, Cells.of_array (by rw [hlen]; exact hle) ?_ ?_, ?_⟩
        · exact fun e he => g3 e (List.mem_of_mem_drop (List.mem_of_mem_take he))
        · intro i e f x hi hf
          rw [List.getElem?_take] at hi
          split at hi
          · rw [List.getElem?_drop] at hi
            rw [← Nat.add_mul]
            exact g4 _ e f x hi hf
          · cases hi
        · rw [hlen]
          exact src_block hw hle
    · exact h.elim
  · exact h.elim

theorem set_del (H : AH) (b : Nat) (o : AObj) : (H.del b).set b o = H.set b o := by
  funext x
  simp only [AH.set, AH.del]
  split <;> rfl

/-- Where it is appended: nothing yet; or a block's head, which holds the old rows. -/
inductive Dst (w : World) (O : Nat → Prop) (H : AH) (es : Nat) : Value → List (List AV) → Option Nat → AH → Prop
  | nil (ad : Option Addr) : Dst w O H es (.slice ad 0 0) [] none H
  | block (b m c : Nat) (o : AObj) (cells : Array Value) (t : TypeId) (ho : H b = some o) (hes : o.es = es) (hm : m ≤ o.xs.length) (hw : w.heap[b]? = some (.cells cells t (0, 0))) (hc : c * es ≤ cells.size) (hmc : m ≤ c) :
      Dst w O H es (.slice (some ⟨b, 0, none⟩) m c) (o.xs.take m) (some b) (H.del b)

theorem dst_ok {x : AV} {vx : Value} {es : Nat} {K : List (List AV) → Option Nat → AH → Prop} (hes0 : 0 < es) (h : adst x H es K) (hx : Rep w O x vx) (hH : Holds w O H) :
    ∃ xs ob H', K xs ob H' ∧ Dst w O H es vx xs ob H' := by
  unfold adst at h
  split at h
  · cases hx; exact ⟨_, _, _, h, .nil _⟩
  · cases hx; exact ⟨_, _, _, h, .nil _⟩
  · split at h
    · rename_i b es' m _ _ o ho
      obtain ⟨h1, rfl, h2, h⟩ := h
      cases hx with
      | ov b off es m c c' cells t fr hw hc hn hcc =>
        obtain ⟨cells', t', g1, g2, g3, g4⟩ := (hH b o ho).2.rows (by omega)
        rw [hw] at g1
        cases g1
        refine ⟨_, _, _, h, ?_⟩
        rw [Nat.zero_mul]
        exact .block b m c o cells t ho h1 h2 hw (by simpa using hc) hn
    · exact h.elim
  · exact h.elim

theorem run_fits {ts : Array TypeId} {r : Array Value} {ty u el : TypeId} {du : TypeDesc} {i : TypeInfo} {vx : Value} {k m c g : Nat} {vs : List Value} {w' : World} (ht0 : ts[0]? = some t) (ht1 : ts[1]? = some u)
    (hr0 : r[0]? = some (.slice (some ⟨g, 0, none⟩) m c)) (hr1 : r[1]? = some vx) (hu : P.underlying t = some (.slice el)) (hu2 : P.underlying u = some du) (hnint : ∀ k, du = .int k → False) (hi : P.info? el = some i)
    (hm : (Builtin.lenOf vx).run P w = .ok k w) (hf : (Builtin.firstCells i.size k vx).run P w = .ok vs.toArray w) (hroom : m + k ≤ c) (hst : (storeCells ⟨g, m * i.size, none⟩ vs).run P w = .ok () w') :
    (Builtin.append_ ts ty r).run P w = .ok (.slice (some ⟨g, 0, none⟩) (m + k) c) w' := by
  cases du <;> first
    | exact (hnint _ rfl).elim
    | simp [Builtin.append_, ht0, ht1, hr0, hr1, run_underlying hu, run_underlying hu2, sizeOf, typeInfo, hi, hm, hroom, hf, Addr.add_lit, hst]

theorem run_fits' {ts : Array TypeId} {r : Array Value} {ty u el : TypeId} {du : TypeDesc} {i : TypeInfo} {vx : Value} {k m c : Nat} {p : Addr} {vs : List Value} {w' : World} (ht0 : ts[0]? = some t) (ht1 : ts[1]? = some u)
    (hr0 : r[0]? = some (.slice (some p) m c)) (hr1 : r[1]? = some vx) (hu : P.underlying t = some (.slice el)) (hu2 : P.underlying u = some du) (hnint : ∀ k, du = .int k → False) (hi : P.info? el = some i)
    (hm : (Builtin.lenOf vx).run P w = .ok k w) (hf : (Builtin.firstCells i.size k vx).run P w = .ok vs.toArray w) (hroom : m + k ≤ c) (hst : (storeCells (p.add (m * i.size)) vs).run P w = .ok () w') :
    (Builtin.append_ ts ty r).run P w = .ok (.slice (some p) (m + k) c) w' := by
  cases du <;> first
    | exact (hnint _ rfl).elim
    | simp [Builtin.append_, ht0, ht1, hr0, hr1, run_underlying hu, run_underlying hu2, sizeOf, typeInfo, hi, hm, hroom, hf, hst]

theorem run_nothing0 {ts : Array TypeId} {r : Array Value} {ty u el : TypeId} {du : TypeDesc} {i : TypeInfo} {vx : Value} {vs : List Value} (ht0 : ts[0]? = some t) (ht1 : ts[1]? = some u)
    (hr0 : r[0]? = some (.slice none 0 0)) (hr1 : r[1]? = some vx) (hu : P.underlying t = some (.slice el)) (hu2 : P.underlying u = some du) (hnint : ∀ k, du = .int k → False) (hi : P.info? el = some i)
    (hm : (Builtin.lenOf vx).run P w = .ok 0 w) (hf : (Builtin.firstCells i.size 0 vx).run P w = .ok vs.toArray w) :
    (Builtin.append_ ts ty r).run P w = .ok (.slice none 0 0) w := by
  cases du <;> first
    | exact (hnint _ rfl).elim
    | simp [Builtin.append_, ht0, ht1, hr0, hr1, run_underlying hu, run_underlying hu2, sizeOf, typeInfo, hi, hm, hf]

theorem run_nothing {ts : Array TypeId} {r : Array Value} {ty u el : TypeId} {du : TypeDesc} {i : TypeInfo} {vx : Value} {ad : Option Addr} (ht0 : ts[0]? = some t) (ht1 : ts[1]? = some u)
    (hr0 : r[0]? = some (.slice ad 0 0)) (hr1 : r[1]? = some vx) (hu : P.underlying t = some (.slice el)) (hu2 : P.underlying u = some du) (hnint : ∀ k, du = .int k → False) (hi : P.info? el = some i)
    (hm : (Builtin.lenOf vx).run P w = .ok 0 w) (hf : (Builtin.firstCells i.size 0 vx).run P w = .ok #[] w) :
    (Builtin.append_ ts ty r).run P w = .ok (.slice ad 0 0) w := by
  cases ad with
  | none => exact run_nothing0 (vs := []) ht0 ht1 hr0 hr1 hu hu2 hnint hi hm hf
  | some p => exact run_fits' (vs := []) ht0 ht1 hr0 hr1 hu hu2 hnint hi hm hf (Nat.le_refl 0) rfl

theorem run_moves {ts : Array TypeId} {r : Array Value} {ty u el : TypeId} {du : TypeDesc} {i : TypeInfo} {z vx : Value} {k m c : Nat} {base : Option Addr} {vs os : List Value} (ht0 : ts[0]? = some t) (ht1 : ts[1]? = some u)
    (hr0 : r[0]? = some (.slice base m c)) (hr1 : r[1]? = some vx) (hu : P.underlying t = some (.slice el)) (hu2 : P.underlying u = some du) (hnint : ∀ k, du = .int k → False) (hi : P.info? el = some i) (hz : i.zero = some z)
    (hm : (Builtin.lenOf vx).run P w = .ok k w) (hf : (Builtin.firstCells i.size k vx).run P w.drew = .ok vs.toArray w.drew) (ho : (Builtin.firstCells i.size m (.slice base m c)).run P w.drew = .ok os.toArray w.drew)
    (hroom : ¬ m + k ≤ c) (h63 : m + k ≤ 9223372036854775807) (hb : (m + k) * i.bytes ≤ 140737488355328) :
    (Builtin.append_ ts ty r).run P w = .ok (.slice (some ⟨w.heap.size, 0, none⟩) (m + k) (grownCap w (m + k) c el))
      (w.drew.alloc (.cells (os.toArray ++ vs.toArray ++ Builtin.zeroCells z.cells (grownCap w (m + k) c el - (m + k))) el)) := by
  have h63' : ¬ (9223372036854775807 < ((m : Int) + (k : Int))) := by omega
  have h48' : ¬ (281474976710656 < Builtin.nextslicecap (m + k) c * i.bytes) := by
    have := growslice_fits (need := m + k) (old := c) (bytes := i.bytes) (by omega) hb
    omega
  cases du <;> first
    | exact (hnint _ rfl).elim
    | (simp [Builtin.append_, ht0, ht1, hr0, hr1, run_underlying hu, run_underlying hu2, sizeOf, typeInfo, hi, hz, hm, hroom, hf, ho, IntKind.max, IntKind.signed, IntKind.bits, h63', h48', zeroValue, newRow, grownCap, Question.forced]
       congr 2
       apply Array.ext'
       simp [List.append_assoc])

/-- Less is told of a block. -/
theorem Heap.short {w' : World} {b es : Nat} {xs ys : List (List AV)} (h : Heap w0 O0 D0 w' O (H.set b ⟨es, xs ++ ys⟩)) (hz : es ≠ 0) : Heap w0 O0 D0 w' O (H.set b ⟨es, xs⟩) where
  ext := h.ext
  bound := h.bound
  dom := fun k o hk => by
    by_cases e : k = b
    · subst e; exact h.dom k ⟨es, xs ++ ys⟩ (AH.set_same ..)
    · rw [AH.set_ne _ _ e] at hk; exact h.dom k o (by rw [AH.set_ne _ _ e]; exact hk)
  rep := fun k o hk => by
    by_cases e : k = b
    · subst e
      rw [AH.set_same] at hk
      cases hk
      obtain ⟨cells, t, g1, g2, g3, g4⟩ := (h.rep k ⟨es, xs ++ ys⟩ (AH.set_same ..)).rows hz
      refine RowRep.obj ⟨cells, t, g1, ?_, fun e he => g3 e (by simp [he]), fun i e f x hi hf => g4 i e f x (by rw [List.getElem?_append_left (List.getElem?_eq_some_iff.1 hi).1]; exact hi) hf⟩ hz
      simp only [List.length_append, Nat.add_mul] at g2
      show xs.length * es ≤ _
      omega
    · rw [AH.set_ne _ _ e] at hk; exact h.rep k o (by rw [AH.set_ne _ _ e]; exact hk)

/-- Rows are written into a block. -/
theorem write_rows {b es k : Nat} {o : AObj} {new : List (List AV)} {ns : List Value} {cells : Array Value} {t : TypeId} (hH : Heap w0 O0 D0 w O H) (ho : H b = some o) (hes : o.es = es) (hz : es ≠ 0)
    (hw : w.heap[b]? = some (.cells cells t (0, 0))) (hn : Cells w O es new ns) (hk : k ≤ o.xs.length) (hc : (k + new.length) * es ≤ cells.size) :
    (storeCells ⟨b, k * es, none⟩ ns).run P w = .ok () (w.setRow b (cells.toList.take (k * es) ++ ns ++ cells.toList.drop (k * es + ns.length)).toArray) ∧
    Heap w0 O0 D0 (w.setRow b (cells.toList.take (k * es) ++ ns ++ cells.toList.drop (k * es + ns.length)).toArray) O (H.set b ⟨es, o.xs.take k ++ new ++ o.xs.drop (k + new.length)⟩) ∧
    Ext w O (Fw.dom H) (w.setRow b (cells.toList.take (k * es) ++ ns ++ cells.toList.drop (k * es + ns.length)).toArray) O := by
  subst hes
  obtain ⟨cells', t1, g1, g2, g3, g4⟩ := (hH.rep b o ho).rows hz
  rw [hw] at g1
  cases g1
  have hnl := hn.len
  rw [Nat.add_mul] at hc
  have hst := run_storeCells_at P b (k * o.es) t ns 0 cells w hw (by omega) hn.one
  have hrow : ∀ j, ((cells.toList.take (k * o.es) ++ ns ++ cells.toList.drop (k * o.es + ns.length)).toArray)[j]? = if k * o.es ≤ j ∧ j < k * o.es + ns.length then ns[j - k * o.es]? else cells[j]? := by
    intro j
    have := row_get cells.toList ns (p := k * o.es) (j := j) (by simp; omega)
    rw [List.getElem?_toArray, this]
    simp
  have hsz : (cells.toList.take (k * o.es) ++ ns ++ cells.toList.drop (k * o.es + ns.length)).toArray.size = cells.size := by
    simp; omega
  refine ⟨by simpa using hst, ?_, (Ext.setRow w O hw hsz).mono fun q hq => by
    have : q = b := hq
    subst this
    exact ⟨o, ho⟩⟩
  refine hH.write ho hw hsz hz ?_ ?_ ?_
  · rw [hsz]
    simp only [List.length_append, List.length_take, List.length_drop, Nat.min_eq_left hk]
    by_cases hle : k + new.length ≤ o.xs.length
    · have : k + new.length + (o.xs.length - (k + new.length)) = o.xs.length := by omega
      rw [this]; exact g2
    · have : k + new.length + (o.xs.length - (k + new.length)) = k + new.length := by omega
      rw [this, Nat.add_mul]; exact hc
  · intro e he
    simp only [List.mem_append] at he
    rcases he with (he | he) | he
    · exact g3 e (List.mem_of_mem_take he)
    · exact hn.rows e he
    · exact g3 e (List.mem_of_mem_drop he)
  · intro i e f x hi hf
    rw [hrow]
    have hrl : ∀ (e : List AV) (f : Nat) (x : AV), (e.length = o.es) → e[f]? = some x → f < o.es := fun e f x he hf => by rw [← he]; exact (List.getElem?_eq_some_iff.1 hf).1
    by_cases h1 : i < k
    · rw [List.append_assoc, List.getElem?_append_left (by simp; omega), List.getElem?_take, if_pos h1] at hi
      have hfl := hrl e f x (g3 e (List.mem_of_getElem? hi)).1 hf
      have : (i + 1) * o.es ≤ k * o.es := Nat.mul_le_mul_right _ h1
      rw [Nat.add_mul, Nat.one_mul] at this
      rw [if_neg (by omega)]
      exact g4 i e f x hi hf
    · by_cases h2 : i < k + new.length
      · rw [List.append_assoc, List.getElem?_append_right (by simp; omega), List.length_take, Nat.min_eq_left hk, List.getElem?_append_left (by omega)] at hi
        have hfl := hrl e f x (hn.rows e (List.mem_of_getElem? hi)).1 hf
        obtain ⟨y, hy, hr⟩ := hn.rep _ e f x hi hf
        have e1 : (i - k) * o.es + k * o.es = i * o.es := by rw [← Nat.add_mul]; congr 1; omega
        have hyl := (List.getElem?_eq_some_iff.1 hy).1
        refine ⟨y, ?_, hr⟩
        rw [if_pos (by omega), ← hy]
        congr 1; omega
      · rw [List.getElem?_append_right (by simp; omega)] at hi
        simp only [List.length_append, List.length_take, Nat.min_eq_left hk] at hi
        rw [List.getElem?_drop] at hi
        have e1 : k + new.length + (i - (k + new.length)) = i := by omega
        rw [e1] at hi
        have : (k + new.length) * o.es ≤ i * o.es := Nat.mul_le_mul_right _ (by omega)
        rw [Nat.add_mul] at this
        rw [if_neg (by omega)]
        exact g4 i e f x hi hf

/-- A vector in a new block, with room behind it. -/
theorem new_vec {es cap : Nat} {xs : List (List AV)} {vs : List Value} {tail : Array Value} (hH : Heap w0 O0 D0 w O H) (el : TypeId) (hz : es ≠ 0) (hc : Cells w O es xs vs) (hcap : xs.length ≤ cap) (htl : tail.size = (cap - xs.length) * es) :
    Heap w0 O0 D0 (w.drew.alloc (.cells (vs.toArray ++ tail) el)) (plus O w.heap.size) (H.set w.heap.size ⟨es, xs⟩) ∧ Ext w O none_ (w.drew.alloc (.cells (vs.toArray ++ tail) el)) (plus O w.heap.size) ∧
      Rep (w.drew.alloc (.cells (vs.toArray ++ tail) el)) (plus O w.heap.size) (.ov (some w.heap.size) 0 es xs.length none) (.slice (some ⟨w.heap.size, 0, none⟩) xs.length cap) := by
  have hsz : (vs.toArray ++ tail).size = cap * es := by
    simp only [Array.size_append, List.size_toArray, hc.len, htl, ← Nat.add_mul]
    congr 1; omega
  refine ⟨?_, ?_, ?_⟩
  · refine hH.drew.new el hz ?_ hc.rows ?_
    · rw [hsz]; exact Nat.mul_le_mul_right _ hcap
    · intro i e f x hi hf
      obtain ⟨y, hy, hr⟩ := hc.rep i e f x hi hf
      have hlt := (List.getElem?_eq_some_iff.1 hy).1
      refine ⟨y, ?_, hr.ext (Ext.drew w O) fun b hb => hb.elim⟩
      rw [Array.getElem?_append_left (by simpa using hlt), List.getElem?_toArray]
      exact hy
  · exact (Ext.drew w O).trans (Ext.alloc w.drew O _) fun b _ hd => hd
  · have := Rep.ov (w := w.drew.alloc (.cells (vs.toArray ++ tail) el)) (O := plus O w.heap.size) w.heap.size 0 es xs.length cap none _ el (0, 0) (alloc_new w.drew _) (by rw [hsz]; simp) hcap (by intro k hk; cases hk)
    simpa using this

theorem Rep.inv_ov {b off es m : Nat} {c' : Option Nat} {v : Value} (h : Rep w O (.ov (some b) off es m c') v) :
    ∃ c cells t fr, v = .slice (some ⟨b, off * es, none⟩) m c ∧ w.heap[b]? = some (.cells cells t fr) ∧ (off + c) * es ≤ cells.size ∧ m ≤ c ∧ ∀ k, c' = some k → k = c := by
  cases h with
  | ov b off es n c c' cells t fr hw hc hn hcc => exact ⟨c, cells, t, fr, rfl, hw, hc, hn, hcc⟩

theorem app_ok {ts : Array TypeId} {r : Array Value} {ty : TypeId} {d x : AV} {vd vx : Value} {K : AV → AH → Prop} (h : aapp P ts d x H K) (hd : Rep w O d vd) (hx : Rep w O x vx) (hH : Heap w0 O0 D0 w O H)
    (hr0 : r[0]? = some vd) (hr1 : r[1]? = some vx) : Makes P w0 O0 D0 w O H K (Builtin.append_ ts ty r) := by
  unfold aapp at h
  split at h
  case h_2 => exact h.elim
  rename_i t ht0
  split at h
  case h_2 => exact h.elim
  rename_i el hu
  split at h
  case h_2 => exact h.elim
  rename_i zz u hzz hts1
  obtain ⟨i, z, hi, hz, rfl⟩ := zeros_ok hzz
  split at h
  case h_1 => exact h.elim
  case h_3 => exact h.elim
  rename_i du hnint hu2
  obtain ⟨hzl, hzc, hza, h⟩ := h
  have hes0 : 0 < (z.cells.toList.map AV.v).length := hzl
  obtain ⟨new, ns, h, hnew, hsrc⟩ := src_ok (P := P) hes0 h hx hH.holds
  have hsz : P.cellsOf el = z.cells.size := by simpa using hzc.symm
  have hes : (z.cells.toList.map AV.v).length = z.cells.size := by simp
  have his : i.size = z.cells.size := by rw [← hsz]; simp [Program.cellsOf, hi]
  have hbo : P.bytesOf el = i.bytes := by simp [Program.bytesOf, hi]
  rw [hes] at hnew hsrc h hes0
  have hnint' : ∀ k, du = .int k → False := fun k e => hnint k e
  have hz0 : ∀ k, (Builtin.zeroCells z.cells k).size = k * z.cells.size := fun k => size_zeroCells z.cells k
  have hnz : z.cells.size ≠ 0 := by omega
  rcases h with h | h | h
  · unfold aappD at h
    obtain ⟨old, ob, H', h, hdst⟩ := dst_ok hes0 h hd hH.holds
    obtain ⟨hb47, h63, h⟩ := h
    rw [hbo] at hb47
    cases hdst with
    | nil ad =>
      simp only [List.length_nil, Nat.zero_add, List.nil_append] at h h63 hb47
      by_cases hn : new = []
      · subst hn
        have hns : ns = [] := List.eq_nil_of_length_eq_zero (by simpa using hnew.len)
        subst hns
        have hk := h none (fun b hb => by cases hb) (fun _ => rfl)
        refine ⟨_, _, O, .slice ad 0 0, w, hk, ?_, hH, Ext.refl w O _, .ovn _ _⟩
        exact run_nothing ht0 hts1 hr0 hr1 hu hu2 hnint' hi (hsrc.1 w) (by rw [his]; exact hsrc.2 w rfl)
      · have hlen : 0 < new.length := List.length_pos_iff.2 hn
        have hk := h (some w.heap.size) (fun b hb => by cases hb; exact hH.fresh) (fun e => by cases e)
        have hge := grownCap_ge w (0 + new.length) 0 el
        have hrun := run_moves (P := P) (w := w) (ty := ty) (os := []) ht0 hts1 hr0 hr1 hu hu2 hnint' hi hz (hsrc.1 w) (by rw [his]; exact hsrc.2 w.drew rfl) (by cases ad <;> simp [Builtin.firstCells, loadCells, loadCellsFrom]) (by omega) (by omega) (by rw [Nat.zero_add]; exact hb47)
        have hv := new_vec (cap := grownCap w (0 + new.length) 0 el) (tail := Builtin.zeroCells z.cells (grownCap w (0 + new.length) 0 el - (0 + new.length))) hH el hnz hnew (by omega) (by rw [hz0, Nat.zero_add])
        simp only [Nat.zero_add, List.append_toArray, List.nil_append] at hv hrun
        exact ⟨_, _, plus O w.heap.size, _, _, hk, hrun, hv.1, hv.2.1.mono fun b hb => hb.elim, hv.2.2⟩
    | block b m c o cells t' ho hes' hm hw hc hmc =>
      obtain ⟨cells', t1, g1, g2, g3, g4⟩ := (hH.rep b o ho).rows (by omega)
      have hOb := (hH.dom b o ho).1
      rw [hw] at g1
      cases g1
      rw [hes'] at g2 g3 g4
      have hlen : (o.xs.take m).length = m := by simp; omega
      rw [hlen] at h hb47 h63
      have hmc' : m * z.cells.size ≤ cells.size := Nat.le_trans (Nat.mul_le_mul_right _ hm) g2
      have hold : Cells w O z.cells.size (o.xs.take m) ((cells.toList.drop 0).take (m * z.cells.size)) := by
        have := Cells.of_array (w := w) (O := O) (es := z.cells.size) (o := 0) (xs := o.xs.take m) (cells := cells) (by rw [hlen]; omega)
          (fun e he => g3 e (List.mem_of_mem_take he)) (fun i e f x hi hf => by
            rw [List.getElem?_take] at hi
            split at hi
            · rw [Nat.zero_add]; exact g4 i e f x hi hf
            · cases hi)
        rw [hlen] at this
        exact this
      have hall := hold.append hnew
      by_cases hroom : m + new.length ≤ c
      · have hk := h (some b) (fun q hq => by cases hq; exact AH.del_same H b) (fun e => by cases e)
        obtain ⟨hst, hwr, hext⟩ := write_rows (P := P) (k := m) hH ho hes' hnz hw hnew hm (Nat.le_trans (Nat.mul_le_mul_right _ hroom) hc)
        have hrun := run_fits (P := P) (w := w) (ty := ty) (vs := ns) ht0 hts1 hr0 hr1 hu hu2 hnint' hi (hsrc.1 w) (by rw [his]; exact hsrc.2 w rfl) hroom (by rw [his]; exact hst)
        have hszc : (cells.toList.take (m * z.cells.size) ++ ns ++ cells.toList.drop (m * z.cells.size + ns.length)).toArray.size = cells.size := by
          have hnl := hnew.len
          have : (m + new.length) * z.cells.size ≤ cells.size := Nat.le_trans (Nat.mul_le_mul_right _ hroom) hc
          rw [Nat.add_mul] at this
          simp; omega
        refine ⟨_, _, O, _, _, hk, hrun, ?_, hext, ?_⟩
        · show Heap w0 O0 D0 _ O ((H.del b).set b ⟨z.cells.size, o.xs.take m ++ new⟩)
          rw [set_del]
          exact hwr.short hnz
        · have := Rep.ov (w := w.setRow b (cells.toList.take (m * z.cells.size) ++ ns ++ cells.toList.drop (m * z.cells.size + ns.length)).toArray) (O := O) b 0 z.cells.size (m + new.length) c none _ t' (0, 0)
            (setRow_heap w b cells _ t' (0, 0) hw) (by rw [hszc, Nat.zero_add]; exact hc) hroom (by intro k hk; cases hk)
          simpa using this
      · have hk := h (some w.heap.size) (fun q hq => by
          cases hq
          show (H.del b) w.heap.size = none
          have hne : w.heap.size ≠ b := fun e => by
            have := hH.bound b hOb
            omega
          rw [AH.del_ne _ hne]
          exact hH.fresh) (fun e => by cases e)
        have hge := grownCap_ge w (m + new.length) c el
        have hso := src_block (P := P) (w := w) (es := z.cells.size) (b := b) (o := 0) (m := m) (c := c) hw (by omega)
        have hrun := run_moves (P := P) (w := w) (ty := ty) (os := (cells.toList.drop 0).take (m * z.cells.size)) ht0 hts1 hr0 hr1 hu hu2 hnint' hi hz (hsrc.1 w) (by rw [his]; exact hsrc.2 w.drew rfl) (by rw [his]; exact hso.2 w.drew rfl) hroom h63 hb47
        have hv := new_vec (cap := grownCap w (m + new.length) c el) (tail := Builtin.zeroCells z.cells (grownCap w (m + new.length) c el - (m + new.length))) (hH.del b) el hnz hall (by rw [List.length_append, hlen]; omega) (by rw [hz0, List.length_append, hlen])
        simp only [List.length_append, hlen, List.append_toArray] at hv hrun
        exact ⟨_, _, plus O w.heap.size, _, _, hk, hrun, hv.1, hv.2.1.mono fun b hb => hb.elim, hv.2.2⟩
  · unfold aappP at h
    split at h
    case h_2 => exact h.elim
    rename_i b es' m _
    split at h
    case h_2 => exact h.elim
    rename_i o ho
    obtain ⟨hes', rfl, hm, hb47, h63, k1, k2⟩ := h
    rw [hbo] at hb47
    obtain ⟨cells, t', hw, g2, g3, g4⟩ := (hH.rep b o ho).rows (by omega)
    rw [hes'] at g2 g3 g4
    obtain ⟨c, cells', t, fr, rfl, hw', hc, hn, hcc⟩ := hd.inv_ov
    · rw [hw] at hw'
      cases hw'
      rw [Nat.zero_mul] at hr0
      rw [Nat.zero_add] at hc
      have hlen : (o.xs.take m).length = m := by simp; omega
      have hmc' : m * z.cells.size ≤ cells.size := Nat.le_trans (Nat.mul_le_mul_right _ hm) g2
      have hold : Cells w O z.cells.size (o.xs.take m) ((cells.toList.drop 0).take (m * z.cells.size)) := by
        have := Cells.of_array (w := w) (O := O) (es := z.cells.size) (o := 0) (xs := o.xs.take m) (cells := cells) (by rw [hlen]; omega)
          (fun e he => g3 e (List.mem_of_mem_take he)) (fun i e f x hi hf => by
            rw [List.getElem?_take] at hi
            split at hi
            · rw [Nat.zero_add]; exact g4 i e f x hi hf
            · cases hi)
        rw [hlen] at this
        exact this
      have hall := hold.append hnew
      by_cases hroom : m + new.length ≤ c
      · obtain ⟨hst, hwr, hext⟩ := write_rows (P := P) (k := m) hH ho hes' hnz hw hnew hm (Nat.le_trans (Nat.mul_le_mul_right _ hroom) hc)
        have hrun := run_fits (P := P) (w := w) (ty := ty) (vs := ns) ht0 hts1 hr0 hr1 hu hu2 hnint' hi (hsrc.1 w) (by rw [his]; exact hsrc.2 w rfl) hroom (by rw [his]; exact hst)
        have hszc : (cells.toList.take (m * z.cells.size) ++ ns ++ cells.toList.drop (m * z.cells.size + ns.length)).toArray.size = cells.size := by
          have hnl := hnew.len
          have : (m + new.length) * z.cells.size ≤ cells.size := Nat.le_trans (Nat.mul_le_mul_right _ hroom) hc
          rw [Nat.add_mul] at this
          simp; omega
        refine ⟨_, _, O, _, _, k1, hrun, hwr, hext, ?_⟩
        have := Rep.ov (w := w.setRow b (cells.toList.take (m * z.cells.size) ++ ns ++ cells.toList.drop (m * z.cells.size + ns.length)).toArray) (O := O) b 0 z.cells.size (m + new.length) c none _ t' (0, 0)
          (setRow_heap w b cells _ t' (0, 0) hw) (by rw [hszc, Nat.zero_add]; exact hc) hroom (by intro k hk; cases hk)
        simpa using this
      · have hk := k2 w.heap.size hH.fresh
        have hge := grownCap_ge w (m + new.length) c el
        have hso := src_block (P := P) (w := w) (es := z.cells.size) (b := b) (o := 0) (m := m) (c := c) hw (by omega)
        have hrun := run_moves (P := P) (w := w) (ty := ty) (os := (cells.toList.drop 0).take (m * z.cells.size)) ht0 hts1 hr0 hr1 hu hu2 hnint' hi hz (hsrc.1 w) (by rw [his]; exact hsrc.2 w.drew rfl) (by rw [his]; exact hso.2 w.drew rfl) hroom h63 hb47
        have hv := new_vec (cap := grownCap w (m + new.length) c el) (tail := Builtin.zeroCells z.cells (grownCap w (m + new.length) c el - (m + new.length))) hH el hnz hall (by rw [List.length_append, hlen]; omega) (by rw [hz0, List.length_append, hlen])
        simp only [List.length_append, hlen, List.append_toArray] at hv hrun
        exact ⟨_, _, plus O w.heap.size, _, _, hk, hrun, hv.1, hv.2.1.mono fun b hb => hb.elim, hv.2.2⟩
  · unfold aappI at h
    split at h
    case h_2 => exact h.elim
    rename_i b off es' m c _
    split at h
    case h_2 => exact h.elim
    rename_i o ho
    obtain ⟨hes', rfl, hm, hroom, hk⟩ := h
    obtain ⟨cells, t', hw, g2, g3, g4⟩ := (hH.rep b o ho).rows (by omega)
    obtain ⟨c0, cells', t, fr, rfl, hw', hc, hn, hcc⟩ := hd.inv_ov
    · rw [hw] at hw'
      cases hw'
      have := hcc c rfl
      subst this
      have hcs : (off + m + new.length) * z.cells.size ≤ cells.size := Nat.le_trans (Nat.mul_le_mul_right _ (by omega)) hc
      obtain ⟨hst, hwr, hext⟩ := write_rows (P := P) (k := off + m) hH ho hes' hnz hw hnew hm hcs
      have hrun := run_fits' (P := P) (w := w) (ty := ty) (vs := ns) ht0 hts1 hr0 hr1 hu hu2 hnint' hi (hsrc.1 w) (by rw [his]; exact hsrc.2 w rfl) hroom (by
        rw [add_zero_spot, his, ← Nat.add_mul]; exact hst)
      have hszc : (cells.toList.take ((off + m) * z.cells.size) ++ ns ++ cells.toList.drop ((off + m) * z.cells.size + ns.length)).toArray.size = cells.size := by
        have hnl := hnew.len
        rw [Nat.add_mul] at hcs
        simp; omega
      refine ⟨_, _, O, _, _, hk, hrun, hwr, hext, ?_⟩
      exact Rep.ov (w := w.setRow b (cells.toList.take ((off + m) * z.cells.size) ++ ns ++ cells.toList.drop ((off + m) * z.cells.size + ns.length)).toArray) (O := O) b off z.cells.size (m + new.length) c (some c) _ t' (0, 0)
        (setRow_heap w b cells _ t' (0, 0) hw) (by rw [hszc]; exact hc) hroom (by intro k hk; cases hk; rfl)

end Go.Fw
/- Conversions, copies, sets of texts: each abstract operation is what the model's one does. -/
namespace Go.Fw
set_option maxHeartbeats 8000000
set_option linter.all false
open Go

variable {df : List Deferred} {P : Program} {w w0 : World} {O O0 D0 : Nat → Prop} {H : AH} {s : St} {a : Act} {n : Nat} {t : TypeId}

theorem src_slice {x : AV} {vx : Value} {es : Nat} {K : List (List AV) → Prop} (h : asrc x H es K) (hx : Rep w O x vx) (hns : ∀ s, x ≠ .v (.string s)) : ∃ ad m c, vx = .slice ad m c ∧ (ad = none → m = 0) := by
  unfold asrc at h
  split at h
  · cases hx with
    | imn es ad c => exact ⟨_, _, _, rfl, fun _ => rfl⟩
    | imm es xs b o c cells t fr vals hw hO hc hes h1 h2 => exact ⟨_, _, _, rfl, fun e => by cases e⟩
  · cases hx; exact ⟨_, _, _, rfl, fun _ => rfl⟩
  · exact absurd rfl (hns _)
  · cases hx; exact ⟨_, _, _, rfl, fun _ => rfl⟩
  · split at h
    · obtain ⟨c, _, _, _, rfl, _⟩ := hx.inv_ov
      exact ⟨_, _, _, rfl, fun e => by cases e⟩
    · exact h.elim
  · exact h.elim

theorem bytesOf_rows : ∀ {rows : List (List AV)} {l : List UInt8}, bytesOf rows = some l → ∃ ns : List Int, rows = ns.map (fun z => [AV.v (.int .u8 z)]) ∧ l = ns.map fun z => UInt8.ofNat z.toNat
  | [], l, h => by simp [bytesOf] at h; subst h; exact ⟨[], rfl, rfl⟩
  | r :: rest, l, h => by
    unfold bytesOf at h
    split at h
    · rename_i heq; simp at heq
    · rename_i z rest' heq
      simp only [List.cons.injEq] at heq
      obtain ⟨rfl, rfl⟩ := heq
      cases hq : bytesOf rest with
      | none => rw [hq] at h; cases h
      | some l' =>
        rw [hq] at h
        simp only [Option.map_some, Option.some.injEq] at h
        subst h
        obtain ⟨ns, rfl, rfl⟩ := bytesOf_rows hq
        exact ⟨z :: ns, rfl, rfl⟩
    · cases h

theorem cells_bytes {ns : List Int} {vs : List Value} (h : Cells w O 1 (ns.map fun z => [AV.v (.int .u8 z)]) vs) : vs = ns.map (Value.int .u8) := by
  apply List.ext_getElem?
  intro i
  have hl : vs.length = ns.length := by simpa using h.len
  by_cases hi : i < ns.length
  · obtain ⟨y, h1, h2⟩ := h.rep i [.v (.int .u8 ns[i])] 0 _ (by simp [hi]) rfl
    have := h2.inv_v
    subst this
    simp only [Nat.mul_one, Nat.add_zero] at h1
    rw [h1]
    simp [hi]
  · rw [List.getElem?_eq_none (by omega), List.getElem?_eq_none (by simp; omega)]

theorem push_all (ns : List Int) : ∀ (l : List UInt8), ns.foldl (fun (r : ByteArray) z => r.push (UInt8.ofNat z.toNat)) ⟨l.toArray⟩ = ⟨(l ++ ns.map fun z => UInt8.ofNat z.toNat).toArray⟩ := by
  induction ns with
  | nil => intro l; simp
  | cons z ns ih =>
    intro l
    have e : (⟨l.toArray⟩ : ByteArray).push (UInt8.ofNat z.toNat) = ⟨(l ++ [UInt8.ofNat z.toNat]).toArray⟩ := by
      simp [ByteArray.push]
    rw [List.foldl_cons, e, ih]
    simp

theorem conv_ok {u : TypeId} {x : AV} {vx : Value} {K : AV → Prop} (h : aconv P t u x H K) (hx : Rep w O x vx) (hH : Holds w O H) : Gives P w O K (convert t u vx) := by
  unfold aconv at h
  split at h
  · rename_i h1 h2
    cases hx
    exact ⟨_, _, h, .v _, by simp [convert, run_underlying h1, run_underlying h2, Conv.intToInt]⟩
  · rename_i h1 h2
    cases hx
    refine ⟨_, _, h, .v _, ?_⟩
    rename_i d _ _
    cases d <;> simp [convert, run_underlying h1, run_underlying h2]
  · rename_i q el h1 h2 hns
    obtain ⟨h3, h⟩ := h
    obtain ⟨ad, m, c, rfl, hnil⟩ := src_slice h hx (fun s e => hns s e)
    obtain ⟨rows, vs, ⟨l, hl, hk⟩, hc, hs1, hs2⟩ := src_ok (P := P) (by decide) h hx hH
    obtain ⟨ns, rfl, rfl⟩ := bytesOf_rows hl
    have hv := cells_bytes hc
    subst hv
    refine ⟨_, _, hk, .v _, ?_⟩
    rw [run_convert_bytes_string w t u el ad m c h1 h3 h2]
    have hm : m = ns.length := by
      have := hs1 w
      simp [Builtin.lenOf] at this
      exact this
    cases ad with
    | none =>
      have := hnil rfl
      have hn : ns = [] := List.eq_nil_of_length_eq_zero (by omega)
      subst hn
      simp [Conv.bytesToString]
      rfl
    | some p =>
      have h4 := hs2 w rfl
      have h5 : (loadCells p m).run P w = .ok (ns.map (Value.int .u8)).toArray w := by
        simp only [Builtin.firstCells, List.length_map, Nat.mul_one] at h4
        rw [hm]
        simpa using h4
      rw [run_bytesToString w p m c ns h5]
      have := push_all ns []
      simp only [List.nil_append] at this
      rw [← this]
      rfl
  · exact h.elim

theorem copy_ok {ts : Array TypeId} {r : Array Value} {ty : TypeId} {d x : AV} {vd vx : Value} {K : AV → AH → Prop} (h : acopy P ts d x H K) (hd : Rep w O d vd) (hx : Rep w O x vx) (hH : Heap w0 O0 D0 w O H)
    (hr0 : r[0]? = some vd) (hr1 : r[1]? = some vx) : Makes P w0 O0 D0 w O H K (Builtin.copy_ ts ty r) := by
  unfold acopy at h
  split at h
  case h_2 => exact h.elim
  rename_i t ht0
  split at h
  case h_2 => exact h.elim
  rename_i el hu
  obtain ⟨hz, h⟩ := h
  obtain ⟨new, ns, h, hnew, hs1, hs2⟩ := src_ok (P := P) (by omega) h hx hH.holds
  split at h
  case h_2 => exact h.elim
  rename_i b off es m c _
  split at h
  case h_2 => exact h.elim
  rename_i o ho
  obtain ⟨hes, rfl, hm, hle, hk⟩ := h
  obtain ⟨cells, t', hw, g2, g3, g4⟩ := (hH.rep b o ho).rows (by omega)
  obtain ⟨c0, cells', t2, fr, rfl, hw', hc, hn, hcc⟩ := hd.inv_ov
  rw [hw] at hw'
  cases hw'
  have hbig : (off + new.length) * P.cellsOf el ≤ cells.size := Nat.le_trans (Nat.mul_le_mul_right _ (by omega)) hc
  obtain ⟨hst, hwr, hext⟩ := write_rows (P := P) (k := off) hH ho hes hz hw hnew (by omega) hbig
  refine ⟨_, _, O, _, _, hk, ?_, hwr, hext, .v _⟩
  have hmin : Nat.min new.length m = new.length := Nat.min_eq_left hle
  simp [Builtin.copy_, ht0, hr0, hr1, run_underlying hu, hs1, hmin, run_cells (w := w) (.inl hz), hs2 w rfl, hst, goInt]

theorem clear_ok {ts : Array TypeId} {r : Array Value} {ty : TypeId} {d : AV} {vd : Value} {K : AV → AH → Prop} (h : aclear P ts d H K) (hd : Rep w O d vd) (hH : Heap w0 O0 D0 w O H)
    (hr0 : r[0]? = some vd) : Makes P w0 O0 D0 w O H K (Builtin.clear_ ts ty r) := by
  unfold aclear at h
  split at h
  case h_2 => exact h.elim
  rename_i t ht0
  split at h
  case h_2 => exact h.elim
  rename_i el hu
  split at h
  case h_2 => exact h.elim
  rename_i zz b off es m c hzz
  obtain ⟨i, z, hi, hz, rfl⟩ := zeros_ok hzz
  split at h
  case h_2 => exact h.elim
  rename_i o ho
  obtain ⟨hes, rfl, hzc, hnz, hza, hm, hk⟩ := h
  obtain ⟨cells, t', hw, g2, g3, g4⟩ := (hH.rep b o ho).rows (by omega)
  obtain ⟨c0, cells', t2, fr, rfl, hw', hc, hn, hcc⟩ := hd.inv_ov
  rw [hw] at hw'
  cases hw'
  have hzl : (z.cells.toList.map AV.v).length = z.cells.size := by simp
  rw [hzl] at hes hzc hnz hk hr0 hc
  have hzp : 0 < z.cells.size := by omega
  have hcs : Cells w O z.cells.size (List.replicate m (z.cells.toList.map AV.v)) (Builtin.zeroCells z.cells m).toList := by
    refine ⟨?_, ?_, ?_⟩
    · have := size_zeroCells z.cells m
      rw [Array.length_toList, this]; simp
    · intro e he
      have := List.eq_of_mem_replicate he
      subst this
      exact ⟨hzl, allCell_mem hza⟩
    · intro j e f x hj hf
      obtain ⟨h1, h2, h3⟩ := rep_rows (w := w) (O := O) z.cells m hzp j f e x hj hf
      refine ⟨_, ?_, h3⟩
      rw [Array.getElem?_toList]
      unfold Builtin.zeroCells
      rw [h1]
      exact h2
  have hbig : (off + (List.replicate m (z.cells.toList.map AV.v)).length) * z.cells.size ≤ cells.size := by
    rw [List.length_replicate]
    exact Nat.le_trans (Nat.mul_le_mul_right _ (by omega)) hc
  obtain ⟨hst, hwr, hext⟩ := write_rows (P := P) (k := off) hH ho hes hnz hw hcs (by omega) hbig
  rw [List.length_replicate] at hwr
  have htup : ∀ w', Rep w' O (.tup []) (.tuple #[]) := fun w' => .tup [] [] rfl (fun i x y hx => by simp at hx)
  cases m with
  | zero =>
    have e : H.set b ⟨z.cells.size, o.xs.take off ++ List.replicate 0 (z.cells.toList.map AV.v) ++ o.xs.drop (off + 0)⟩ = H := by
      rw [List.replicate_zero, List.append_nil, Nat.add_zero, List.take_append_drop, ← hes]
      exact AH.set_self H ho
    rw [e] at hk
    exact ⟨_, _, O, _, w, hk, by simp [Builtin.clear_, ht0, hr0, run_underlying hu], hH, Ext.refl w O _, htup _⟩
  | succ m => exact ⟨_, _, O, _, _, hk, by simp [Builtin.clear_, ht0, hr0, run_underlying hu, zeroValue, typeInfo, hi, hz, hst], hwr, hext, htup _⟩

theorem min_ok {x y : AV} {vx vy : Value} {K : AV → Prop} {ts : Array TypeId} {ty : TypeId} {r : Array Value} (h : amin x y K) (hx : Rep w O x vx) (hy : Rep w O y vy) (hr : r.toList = [vx, vy]) : Gives P w O K (Builtin.min_ ts ty r) := by
  unfold amin at h
  split at h
  · cases hx; cases hy
    exact ⟨_, _, h, .v _, by simp [Builtin.min_, hr, Builtin.min2]⟩
  · exact h.elim

theorem concs_ok : ∀ {cs : List AV} {l vs : List Value}, concs cs = some l → cs.length = vs.length → (∀ (i : Nat) x y, cs[i]? = some x → vs[i]? = some y → Rep w O x y) → vs = l
  | [], l, vs, h, hl, _ => by
    simp [concs] at h; subst h
    exact List.eq_nil_of_length_eq_zero hl.symm
  | c :: cs, l, vs, h, hl, hr => by
    match vs, hl with
    | v :: vs, hl =>
      unfold concs at h
      split at h
      · rename_i heq; simp at heq
      · rename_i x r heq
        simp only [List.cons.injEq] at heq
        obtain ⟨rfl, rfl⟩ := heq
        cases hq : concs cs with
        | none => rw [hq] at h; cases h
        | some l' =>
          rw [hq] at h
          simp only [Option.map_some, Option.some.injEq] at h
          subst h
          have h1 := (hr 0 _ _ rfl rfl).inv_v
          subst h1
          have h2 := concs_ok hq (by simpa using hl) (fun i x y hx hy => hr (i + 1) x y (by simpa using hx) (by simpa using hy))
          rw [h2]
      · cases h
theorem conc_ok {x : AV} {v vx : Value} (h : conc x = some v) (hx : Rep w O x vx) : vx = v := by
  unfold conc at h
  split at h
  · cases h; exact hx.inv_v
  · rename_i cs
    cases hq : concs cs with
    | none => rw [hq] at h; cases h
    | some l =>
      rw [hq] at h
      simp only [Option.map_some, Option.some.injEq] at h
      subst h
      cases hx with
      | agg cs vs hl hr => rw [concs_ok hq hl hr]
  · cases h
theorem iface_ok {x : AV} {vx : Value} {K : AV → Prop} (h : aiface P t x K) (hx : Rep w O x vx) : Gives P w O K (Instr.makeInterface t vx) := by
  unfold aiface at h
  split at h
  · exact h.elim
  · rename_i d v hni hd hc
    have := conc_ok hc hx
    subst this
    refine ⟨_, _, h, .v _, ?_⟩
    cases d <;> first
      | exact absurd rfl (hni _)
      | simp [Instr.makeInterface, run_underlying hd]
  · exact h.elim

/-- A new set. -/
theorem map_ok {K : AV → AH → Prop} (h : ∀ b, fresh H b → K (.mp b) (H.set b ⟨0, []⟩)) (hH : Heap w0 O0 D0 w O H) : Makes P w0 O0 D0 w O H K (Instr.makeMap t none) := by
  refine ⟨_, _, plus O w.heap.size, .map (some w.heap.size), w.alloc (.map #[] 0), h _ hH.fresh, ?_, hH.newO _ _ ?_, (Ext.alloc w O _).mono fun b hb => hb.elim, .mp _ (by simp)⟩
  · simp [Instr.makeMap, newObj]; rfl
  · exact SetRep.obj ⟨#[], 0, [], alloc_new w _, rfl, rfl, fun e he => by simp at he⟩ rfl

theorem beq_text (s : ByteArray) (k : List UInt8) : (s == (⟨k.toArray⟩ : ByteArray)) = decide (s.data.toList = k) := by
  show (s.data == k.toArray) = _
  by_cases h : s.data.toList = k
  · rw [decide_eq_true h]
    subst h
    simp
  · rw [decide_eq_false h]
    refine beq_eq_false_iff_ne.2 fun e => h ?_
    rw [e]

theorem find_ok (s : ByteArray) : ∀ (es : List MapEntry) (i : Nat) (ks : List (List UInt8)), es.map (·.key) = ks.map (fun k => Value.string ⟨k.toArray⟩) →
    ∃ r, Instr.findNow .string (.string s) es i = some r ∧ r.isSome = decide (s.data.toList ∈ ks) ∧ ∀ j v, r = some (j, v) → i ≤ j ∧ ∃ e, es[j - i]? = some e ∧ e.key = .string s ∧ e.val = v
  | [], i, ks, h => by
    have : ks = [] := by cases ks <;> simp_all
    subst this
    exact ⟨none, rfl, by simp, fun j v e => by cases e⟩
  | e :: es, i, ks, h => by
    match ks, h with
    | k :: ks, h =>
      simp only [List.map_cons, List.cons.injEq] at h
      obtain ⟨r, h1, h2, h3⟩ := find_ok s es (i + 1) ks h.2
      by_cases hk : s.data.toList = k
      · refine ⟨some (i, e.val), ?_, by simp [hk], fun j v ev => ?_⟩
        · simp only [Instr.findNow, h.1, Instr.sameNow, beq_text, hk, decide_true]
        · simp only [Option.some.injEq, Prod.mk.injEq] at ev
          obtain ⟨rfl, hv⟩ := ev
          refine ⟨Nat.le_refl _, e, by simp, ?_, hv⟩
          rw [h.1, ← hk]
      · refine ⟨r, ?_, ?_, fun j v ev => ?_⟩
        · simp only [Instr.findNow, h.1, Instr.sameNow, beq_text, hk, decide_false]
          exact h1
        · rw [h2]; simp [hk]
        · obtain ⟨g1, e', g2, g3⟩ := h3 j v ev
          refine ⟨by omega, e', ?_, g3⟩
          have : j - i = (j - (i + 1)) + 1 := by omega
          rw [this, List.getElem?_cons_succ]
          exact g2

theorem Rep.inv_mp {b : Nat} {v : Value} (h : Rep w O (.mp b) v) : v = .map (some b) := by cases h; rfl

theorem run_checkKey {P : Program} {kt : TypeId} (w : World) (hk : P.underlying kt = some .string) (e : Bool) (s : ByteArray) : (Instr.checkKey e 10000 kt (.string s)).run P w = .ok () w := by
  have h : ∀ n, (Instr.checkKey e (n + 1) kt (.string s)).run P w = .ok () w := by
    intro n
    simp [Instr.checkKey, run_underlying hk]
  exact h 9999

theorem look_ok {x k : AV} {vx vk : Value} {ok : Bool} {K : AV → Prop} (h : alook P t x k ok H K) (hx : Rep w O x vx) (hk : Rep w O k vk) (hH : Holds w O H) : Gives P w O K (Instr.lookup t vx vk ok) := by
  unfold alook at h
  split at h
  case h_2 => exact h.elim
  rename_i kt et b s hu
  obtain ⟨hks, hz, h⟩ := h
  split at h
  case h_2 => exact h.elim
  rename_i o ho
  obtain ⟨hes, h⟩ := h
  have e1 := hx.inv_mp
  have e2 := hk.inv_v
  subst e1 e2
  obtain ⟨es, clock, ks, hw, hxs, hkeys, hvals⟩ := (hH b o ho).2.set hes
  rw [hxs, keysOf_set] at h
  obtain ⟨r, h1, h2, h3⟩ := find_ok s es.toList 0 ks hkeys
  obtain ⟨i, hi, hiz⟩ := Option.bind_eq_some_iff.1 hz
  have hg := run_getObj_map (P := P) (w := w) b es clock hw
  have hc := run_checkKey (P := P) w hks es.isEmpty s
  cases r with
  | none =>
    simp only [Option.isSome_none] at h2
    rw [← h2] at h
    exact ⟨_, .tuple #[.agg #[], .bool false], h, .tup [.v (.agg #[]), .v (.bool false)] [.agg #[], .bool false] rfl (fun i x y hx hy => by
      match i, hx, hy with
      | 0, hx, hy => simp at hx hy; subst hx; subst hy; exact .v _
      | 1, hx, hy => simp at hx hy; subst hx; subst hy; exact .v _
      | i + 2, hx, hy => simp at hx), by
      simp [Instr.lookup, run_underlying hu, hg, hc, Instr.findKey, run_underlying hks, h1, zeroValue, typeInfo, hi, hiz]⟩
  | some p =>
    simp only [Option.isSome_some] at h2
    rw [← h2] at h
    obtain ⟨j, v⟩ := p
    obtain ⟨_, e, he, _, hev⟩ := h3 j v rfl
    have hv : v = .agg #[] := by rw [← hev]; exact hvals e (List.mem_of_getElem? he)
    subst hv
    exact ⟨_, .tuple #[.agg #[], .bool true], h, .tup [.v (.agg #[]), .v (.bool true)] [.agg #[], .bool true] rfl (fun i x y hx hy => by
      match i, hx, hy with
      | 0, hx, hy => simp at hx hy; subst hx; subst hy; exact .v _
      | 1, hx, hy => simp at hx hy; subst hx; subst hy; exact .v _
      | i + 2, hx, hy => simp at hx), by
      simp [Instr.lookup, run_underlying hu, hg, hc, Instr.findKey, run_underlying hks, h1]⟩

def putMap (w : World) (b : Nat) (es : Array MapEntry) (c : Nat) : World := { w with heap := w.heap.setIfInBounds b (.map es c) }
theorem putMap_same {w : World} {b : Nat} {es es' : Array MapEntry} {c c' : Nat} (hw : w.heap[b]? = some (.map es c)) : (putMap w b es' c').heap[b]? = some (.map es' c') := by
  have := lt_of_heap hw
  simp [putMap, this]
theorem putMap_other {w : World} {b k : Nat} {es' : Array MapEntry} {c' : Nat} (h : k ≠ b) : (putMap w b es' c').heap[k]? = w.heap[k]? := by
  simp only [putMap]
  rw [Array.getElem?_setIfInBounds_ne (fun e => h e.symm)]

theorem Ext.putMap {b : Nat} {es es' : Array MapEntry} {c c' : Nat} (hw : w.heap[b]? = some (.map es c)) : Ext w O (only b) (putMap w b es' c') O where
  os := rfl
  tape := rfl
  output := rfl
  size := by simp [Fw.putMap]
  block := fun k _ hd => putMap_other hd
  cells := fun k d u f hk => by
    have e : k ≠ b := by rintro rfl; rw [hw] at hk; cases hk
    exact ⟨d, f, (putMap_other e).trans hk, rfl⟩
  own := fun _ _ _ => Iff.rfl
  less := fun _ _ h => h

theorem Heap.putMap {b : Nat} {o o' : AObj} {es es' : Array MapEntry} {c c' : Nat} (h : Heap w0 O0 D0 w O H) (ho : H b = some o) (hw : w.heap[b]? = some (.map es c)) (hz : o'.es = 0) (hr : SetRep (putMap w b es' c') b o') :
    Heap w0 O0 D0 (Fw.putMap w b es' c') O (H.set b o') where
  ext := h.ext.trans (Ext.putMap hw) fun k hk hd => by
    have : k = b := hd
    subst this
    exact (h.dom k o ho).2 hk
  bound := fun k hk => by simpa [Fw.putMap] using h.bound k hk
  dom := fun k o1 hk => by
    by_cases e : k = b
    · subst e; exact h.dom k o ho
    · rw [AH.set_ne _ _ e] at hk; exact h.dom k o1 hk
  rep := fun k o1 hk => by
    have hO : ∀ x, only b x → O x := fun x hx => by
      have : x = b := hx
      subst this
      exact (h.dom x o ho).1
    by_cases e : k = b
    · subst e
      rw [AH.set_same] at hk
      cases hk
      exact hr.obj hz
    · rw [AH.set_ne _ _ e] at hk
      exact (h.rep k o1 hk).ext (Ext.putMap hw) hO (putMap_other e)

theorem run_put {P : Program} {b : Nat} {es es' : Array MapEntry} {c c' : Nat} (hw : w.heap[b]? = some (.map es c)) : (setObj b (.map es' c')).run P w = .ok () (putMap w b es' c') := by
  have hl := lt_of_heap hw
  simp [setObj, Sem.run, hw, putMap]

theorem sameBits_text (s : ByteArray) : ∀ n, Instr.sameBits n (.string s) (.string s) = true := by
  intro n
  have h : (s == s) = true := by
    show (s.data == s.data) = true
    simp
  cases n <;> simp [Instr.sameBits, h]

theorem upd_ok {x k v : AV} {vx vk vv : Value} {K : AH → Prop} (h : aupd P t x k v H K) (hx : Rep w O x vx) (hk : Rep w O k vk) (hv : Rep w O v vv) (hH : Heap w0 O0 D0 w O H) :
    ∃ H' w', K H' ∧ (Instr.mapUpdate t vx vk vv).run P w = .ok () w' ∧ Heap w0 O0 D0 w' O H' ∧ Ext w O (Fw.dom H) w' O := by
  unfold aupd at h
  split at h
  case h_2 => exact h.elim
  rename_i kt et b s hu
  obtain ⟨hks, hcv, h⟩ := h
  have hvv := conc_ok hcv hv
  subst hvv
  split at h
  case h_2 => exact h.elim
  rename_i o ho
  obtain ⟨hes, h⟩ := h
  have e1 := hx.inv_mp
  have e2 := hk.inv_v
  subst e1 e2
  obtain ⟨es, clock, ks, hw, hxs, hkeys, hvals⟩ := (hH.rep b o ho).set hes
  rw [hxs, keysOf_set] at h
  obtain ⟨r, h1, h2, h3⟩ := find_ok s es.toList 0 ks hkeys
  have hg := run_getObj_map (P := P) (w := w) b es clock hw
  have hc := run_checkKey (P := P) w hks false s
  have hmono : Ext w O (only b) w O → True := fun _ => trivial
  have hd : ∀ q, only b q → Fw.dom H q := fun q hq => by
    have : q = b := hq
    subst this
    exact ⟨o, ho⟩
  cases r with
  | none =>
    have hn : ¬ s.data.toList ∈ ks := by
      intro hm
      rw [decide_eq_true hm] at h2
      cases h2
    rw [if_neg hn] at h
    refine ⟨_, putMap w b (es.push { key := .string s, val := .agg #[], born := clock }) (clock + 1), h, ?_, hH.putMap ho hw rfl ⟨_, _, ks ++ [s.data.toList], putMap_same hw, ?_, ?_, ?_⟩, (Ext.putMap hw).mono hd⟩
    · simp [Instr.mapUpdate, run_underlying hu, hg, hc, Instr.findKey, run_underlying hks, h1, run_put hw]
    · simp [setRows]
    · simp [hkeys]
    · intro e he
      simp only [Array.toList_push, List.mem_append, List.mem_singleton] at he
      rcases he with he | rfl
      · exact hvals e he
      · rfl
  | some p =>
    obtain ⟨j, v⟩ := p
    have hm : s.data.toList ∈ ks := by
      simp only [Option.isSome_some] at h2
      exact of_decide_eq_true h2.symm
    rw [if_pos hm] at h
    obtain ⟨_, e, he, hek, _⟩ := h3 j v rfl
    rw [Nat.sub_zero, Array.getElem?_toList] at he
    refine ⟨_, putMap w b (es.modify j fun e => { e with key := .string s, val := .agg #[] }) clock, h, ?_, hH.putMap ho hw rfl ⟨_, _, ks, putMap_same hw, rfl, ?_, ?_⟩, (Ext.putMap hw).mono hd⟩
    · simp [Instr.mapUpdate, run_underlying hu, hg, hc, Instr.findKey, run_underlying hks, h1, he, hek, Instr.keyThatStays, sameBits_text, run_put hw]
    · rw [← hkeys]
      apply List.ext_getElem?
      intro i
      simp only [List.getElem?_map, Array.getElem?_toList, Array.getElem?_modify]
      by_cases hij : j = i
      · subst hij
        rw [if_pos rfl, he]
        simp [hek]
      · rw [if_neg hij]
    · intro e' he'
      obtain ⟨i, hi⟩ := List.mem_iff_getElem?.1 he'
      simp only [Array.getElem?_toList, Array.getElem?_modify] at hi
      by_cases hij : j = i
      · subst hij
        rw [if_pos rfl, he] at hi
        simp only [Option.map_some, Option.some.injEq] at hi
        rw [← hi]
      · rw [if_neg hij] at hi
        exact hvals e' (List.mem_of_getElem? (by rw [Array.getElem?_toList]; exact hi))
end Go.Fw
/- A region in the text's order; code; functions: the rules by which a walk goes. -/
namespace Go.Fw
set_option maxHeartbeats 8000000
set_option linter.all false
open Go

variable {df : List Deferred} {P : Program} {w w0 : World} {O O0 D0 : Nat → Prop} {H : AH} {s : St} {a : Act} {n : Nat} {t : TypeId}

theorem Heap.then {w' : World} {O' : Nat → Prop} {H' : AH} (h : Heap w0 O0 D0 w O H) (k : Heap w O (Fw.dom H) w' O' H') : Heap w0 O0 D0 w' O' H' where
  ext := h.ext.trans k.ext fun b hb hd => by
    obtain ⟨o, ho⟩ := hd
    exact (h.dom b o ho).2 hb
  bound := k.bound
  dom := fun b o ho => ⟨(k.dom b o ho).1, fun hb => by
    obtain ⟨o', ho'⟩ := (k.dom b o ho).2 (Nat.lt_of_lt_of_le hb h.ext.size)
    exact (h.dom b o' ho').2 hb⟩
  rep := k.rep

theorem dom_own (h : Heap w0 O0 D0 w O H) (b : Nat) (hb : Fw.dom H b) : O b := by
  obtain ⟨o, ho⟩ := hb
  exact (h.dom b o ho).1

/-- A call of a function by a contract. -/
theorem call_wp {o : Oper} {f : FuncId} {args : List AV} {vs : List Value} {K : AV → AH → Prop} {next : Act → World → Prop} {Q : Exit → Act → World → Prop} {J : Value → AH → Prop} (hH : Heap w0 O0 D0 w O H) (hkn : Kn w O) (hc : CallX P f args H K J)
    (hl : args.length = vs.length) (hr : ∀ (i : Nat) x y, args[i]? = some x → vs[i]? = some y → Rep w O x y) (hrun : (execOp a.eval o).run P w = (callFunc f vs.toArray).run P w)
    (hk : ∀ x H' w' O' y, K x H' → Heap w0 O0 D0 w' O' H' → Ext w O (Fw.dom H) w' O' → Rep w' O' x y → next (a.put o.dst y) w')
    (hj : ∀ x H' w' O', J x H' → Heap w0 O0 D0 w' O' H' → Q (.panic [{ v := x, recovered := false }]) a w') : o.wp P a w next Q := by
  obtain ⟨⟨fn, hfn, hname, hbody⟩, hcall⟩ := hc
  unfold Oper.wp
  rw [hrun]
  have : (callFunc f vs.toArray).run P w = .ok (.enter f vs.toArray) w := by
    have h1 : ¬ (fn.name == "runtime.NumGoroutine") = true := by rw [hname]; exact Bool.false_ne_true
    have h2 : ¬ fn.body.isNone = true := by rw [hbody]; exact Bool.false_ne_true
    simp only [callFunc, Sem.run_bind, run_program, Result.andThen_ok, hfn]
    rw [if_neg h1, if_neg h2]
    rfl
  rw [this, Oper.upon_enter]
  refine (hcall w O vs hkn hH.bound (fun b o hb => ⟨(hH.dom b o hb).1, hH.rep b o hb⟩) hl hr).mono ?_
  rintro e w' (⟨x, H', O', y, rfl, h1, h2, h3⟩ | ⟨x, H', O', rfl, h1, h2⟩)
  · exact hk x H' w' O' y h1 (hH.then h2) h2.ext h3
  · exact hj x H' w' O' h1 (hH.then h2)

theorem gives_wp {o : Oper} {m : Sem Value} {K : AV → Prop} {next : Act → World → Prop} {Q : Exit → Act → World → Prop} (hg : Gives P w O K m) (hex : execOp a.eval o = (do pure (.value (← m))))
    (hk : ∀ x y, K x → Rep w O x y → next (a.put o.dst y) w) : o.wp P a w next Q := by
  obtain ⟨x, y, h1, h2, h3⟩ := hg
  unfold Oper.wp
  rw [hex]
  simp only [Sem.run_bind, h3, Result.andThen_ok, Sem.run_pure, Oper.upon_value]
  exact hk x y h1 h2

theorem makes_wp {o : Oper} {m : Sem Value} {K : AV → AH → Prop} {next : Act → World → Prop} {Q : Exit → Act → World → Prop} (hg : Makes P w0 O0 D0 w O H K m) (hex : execOp a.eval o = (do pure (.value (← m))))
    (hk : ∀ x H' w' O' y, K x H' → Heap w0 O0 D0 w' O' H' → Ext w O (Fw.dom H) w' O' → Rep w' O' x y → next (a.put o.dst y) w') : o.wp P a w next Q := by
  obtain ⟨x, H', O', y, w', h1, h2, h3, h4, h5⟩ := hg
  unfold Oper.wp
  rw [hex]
  simp only [Sem.run_bind, h2, Result.andThen_ok, Sem.run_pure, Oper.upon_value]
  exact hk x H' w' O' y h1 h3 h4 h5

theorem aop_sound {o : Oper} {K : AV → AH → Prop} {J : Value → AH → Prop} {next : Act → World → Prop} {Q : Exit → Act → World → Prop} (hm : Mod df w0 O0 D0 n s H a w O) (h : aop P o.op s H K J)
    (hk : ∀ x H' w' O' y, K x H' → Heap w0 O0 D0 w' O' H' → Ext w O (Fw.dom H) w' O' → Rep w' O' x y → next (a.put o.dst y) w')
    (hj : ∀ x H' w' O', J x H' → Heap w0 O0 D0 w' O' H' → Q (.panic [{ v := x, recovered := false }]) a w') : o.wp P a w next Q := by
  have same : ∀ x y, K x H → Rep w O x y → next (a.put o.dst y) w := fun x y h1 h2 => hk x H w O y h1 hm.heap (Ext.refl w O _) h2
  obtain ⟨dst, op, type, pos, after, guard⟩ := o
  cases op <;> simp only [aop] at h
  case move x => exact gives_wp (Gives.pure (K := (K · H)) h (hm.ev x)) rfl same
  case assign x => exact gives_wp (Gives.pure (K := (K · H)) h (hm.ev x)) rfl same
  case pick c x y => exact gives_wp (pick_ok h (hm.ev c) (hm.ev x) (hm.ev y)) (by simp [execOp]) same
  case nilCheck x =>
    obtain ⟨hk', hv⟩ := nil_ok h (hm.ev x)
    refine gives_wp (m := Pure.pure (a.eval x)) (Gives.pure (K := (K · H)) hk' (hm.ev x)) ?_ same
    rcases hv with ⟨p, hp⟩ | ⟨f, cs, hp⟩ <;> simp [execOp, hp]
  case binOp op t x y yt => exact gives_wp (bin_ok (ox := x) (oy := y) h (hm.ev x) (hm.ev y)) rfl same
  case unOp op t x => exact gives_wp (un_ok h (hm.ev x)) rfl same
  case convert c d x => exact gives_wp (conv_ok h (hm.ev x) hm.heap.holds) rfl same
  case load t x => exact gives_wp (load_ok h (hm.ev x) hm.heap.holds) rfl same
  case store t x y =>
    obtain ⟨H', w', h1, h2, h3, h4⟩ := store_ok (P := P) h (hm.ev x) (hm.ev y) hm.heap
    unfold Oper.wp
    simp only [execOp, Sem.run_bind, h2, Result.andThen_ok, Sem.run_pure, Oper.upon_skip]
    exact hk _ _ _ _ _ h1 h3 h4 (.junk _)
  case fieldAddr t x f => exact gives_wp (fld_ok h (hm.ev x)) rfl same
  case field t x f => exact gives_wp (field_ok h (hm.ev x)) rfl same
  case indexAddr t x i => exact gives_wp (idx_ok h (hm.ev x) (hm.ev i)) rfl same
  case index t x i => exact gives_wp (index_ok h (hm.ev x) (hm.ev i)) rfl same
  case slice t x lo hi mx => exact gives_wp (slice_ok h hm (hm.ev x)) rfl same
  case makeSlice t l c => exact makes_wp (make_ok h (hm.ev l) (hm.ev c) hm.heap) rfl hk
  case build t ps => exact gives_wp (build_ok h hm) rfl same
  case buildSlice t k ps => exact makes_wp (buildS_ok h hm) rfl fun x H' w' O' y hx => by obtain ⟨hx, rfl⟩ := hx; exact hk x _ w' O' y hx
  case box t x => exact makes_wp (box_ok h (hm.ev x) hm.heap) rfl hk
  case alloc t => exact makes_wp (alloc_ok h hm.heap) rfl hk
  case extract x i => exact gives_wp (ext_ok h (hm.ev x)) rfl same
  case makeFunc f first cs =>
    cases f <;> simp only [aop] at h
    rename_i f
    obtain ⟨rfl, h⟩ := h
    refine gives_wp (m := Pure.pure (.func (.func f) #[] (cs.toList.map a.eval).toArray)) (Gives.pure (K := (K · H)) h (.clo f _ _ (by simp) ?_)) (by simp only [execOp, Instr.makeFunc, toArray_map, Array.map_empty]) same
    intro i x y hx hy
    rw [List.getElem?_map] at hx hy
    cases hq : cs.toList[i]? with
    | none => rw [hq] at hx; cases hx
    | some q =>
      rw [hq] at hx hy
      simp only [Option.map_some, Option.some.injEq] at hx hy
      subst hx hy
      exact hm.ev q
  case makeInterface t x => exact gives_wp (iface_ok h (hm.ev x)) rfl same
  case makeMap t r =>
    cases r with
    | none =>
      simp only [aop] at h
      exact makes_wp (map_ok (t := t) h hm.heap) rfl hk
    | some r => simp only [aop] at h
  case lookup t x k ok => exact gives_wp (look_ok h (hm.ev x) (hm.ev k) hm.heap.holds) rfl same
  case mapUpdate t x k v =>
    obtain ⟨H', w', h1, h2, h3, h4⟩ := upd_ok (P := P) (vv := a.eval v) h (hm.ev x) (hm.ev k) (hm.ev v) hm.heap
    unfold Oper.wp
    simp only [execOp, Sem.run_bind, h2, Result.andThen_ok, Sem.run_pure, Oper.upon_skip]
    exact hk _ _ _ _ _ h1 h3 h4 (.junk _)
  case panic x =>
    have hev := hm.ev x
    split at h
    · rename_i u v hx
      rw [hx] at hev
      have := hev.inv_v
      unfold Oper.wp
      have hr : (execOp a.eval (⟨dst, .panic x, type, pos, after, guard⟩ : Oper)).run P w = .halt (.panic (.iface u v)) w := by
        simp [execOp, this, Instr.panic, goPanic]
      rw [hr, Oper.upon_panic]
      exact hj _ H w O h hm.heap
    · exact h.elim
  case call c =>
    obtain ⟨callee, args, ats⟩ := c
    unfold acall at h
    cases callee with
    | value f =>
      simp only at h
      split at h
      · rename_i g cs hg
        have hev := hm.ev f
        rw [hg] at hev
        generalize hvf : a.eval f = vf at hev
        cases hev with
        | clo f' cs' vs hl hr =>
          refine call_wp (vs := args.toList.map a.eval ++ vs) hm.heap hm.kn h (by simp [hl]) ?_ ?_ hk hj
          · intro i x y hx hy
            rw [List.getElem?_append] at hx hy
            simp only [List.length_map] at hx hy
            split at hx
            · rename_i hlt
              rw [if_pos hlt] at hy
              rw [List.getElem?_map] at hx hy
              cases hq : args.toList[i]? with
              | none => rw [hq] at hx; cases hx
              | some q =>
                rw [hq] at hx hy
                simp only [Option.map_some, Option.some.injEq] at hx hy
                subst hx hy
                exact hm.ev q
            · rename_i hge
              rw [if_neg hge] at hy
              exact hr _ _ _ hx hy
          · have harr : args.map a.eval ++ vs.toArray = (args.toList.map a.eval ++ vs).toArray := by
              apply Array.ext'
              simp
            simp [execOp, resolve, hvf, Deferred.ofValue, invoke, harr]
      · exact h.elim
    | invoke r m => exact h.elim
    | builtin b =>
      cases b <;> simp only at h
      case len =>
        split at h
        · rename_i u x hu hx
          exact gives_wp (len_ok (ty := type) (ts := ats) (r := args.map a.eval) h (hm.ev x) hu (by simp [hx])) (by simp [execOp, resolve, invoke, builtin]) same
        · exact h.elim
      case append =>
        split at h
        · rename_i d x hd hx
          exact makes_wp (app_ok (ty := type) (ts := ats) (r := args.map a.eval) h (hm.ev d) (hm.ev x) hm.heap (by simp [hd]) (by simp [hx])) (by simp [execOp, resolve, invoke, builtin]) hk
        · exact h.elim
      case copy =>
        split at h
        · rename_i d x hd hx
          exact makes_wp (copy_ok (ty := type) (ts := ats) (r := args.map a.eval) h (hm.ev d) (hm.ev x) hm.heap (by simp [hd]) (by simp [hx])) (by simp [execOp, resolve, invoke, builtin]) hk
        · exact h.elim
      case clear =>
        split at h
        · rename_i d hd
          exact makes_wp (clear_ok (ty := type) (ts := ats) (r := args.map a.eval) h (hm.ev d) hm.heap (by simp [hd])) (by simp [execOp, resolve, invoke, builtin]) hk
        · exact h.elim
      case min =>
        split at h
        · rename_i x y hxy
          exact gives_wp (min_ok (ty := type) (ts := ats) (r := args.map a.eval) h (hm.ev x) (hm.ev y) (by simp [hxy])) (by simp [execOp, resolve, invoke, builtin]) same
        · exact h.elim

end Go.Fw
/- A region in the text's order; code; functions: the rules by which a walk goes. -/
namespace Go.Fw
set_option maxHeartbeats 8000000
set_option linter.all false
open Go

variable {df : List Deferred} {P : Program} {w w0 : World} {O O0 D0 : Nat → Prop} {H : AH} {s : St} {a : Act} {n : Nat} {t : TypeId}

theorem getD_put (a : Act) (d t : Nat) (v : Value) (hd : d < a.tmps.size) : (a.put (some d) v).tmps.getD t undef = if d = t then v else a.tmps.getD t undef := by
  show (a.tmps.setIfInBounds d v).getD t undef = _
  simp only [Array.getD_eq_getD_getElem?]
  by_cases h : d = t
  · subst h; simp [hd]
  · rw [if_neg h, Array.getElem?_setIfInBounds_ne h]

theorem Mod.put {w' : World} {O' : Nat → Prop} {H' : AH} {dst : Option Nat} {x : AV} {y : Value} (hm : Mod df w0 O0 D0 n s H a w O) (hd : inN n dst) (hH : Heap w0 O0 D0 w' O' H') (hx : Ext w O O w' O') (hr : Rep w' O' x y) :
    Mod df w0 O0 D0 n (s.put dst x) H' (a.put dst y) w' O' := by
  cases dst with
  | none => exact ⟨hH, hm.defers, hm.size, fun t => (hm.tmps t).ext hx fun _ h => h, hm.base, hm.sub⟩
  | some d =>
    have hd' : d < a.tmps.size := by rw [hm.size]; exact hd
    refine ⟨hH, hm.defers, by show (a.tmps.setIfInBounds d y).size = n; simp [hm.size], fun t => ?_, hm.base, hm.sub⟩
    rw [St.get_put, getD_put a d t y hd']
    split
    · exact hr
    · exact (hm.tmps t).ext hx fun _ h => h

theorem Mod.guard {d : Nat} {c : Bool} (hm : Mod df w0 O0 D0 n s H a w O) (hg : s.get d = .v (.bool c)) : a.tmps.getD d undef = .bool c := by
  have h := hm.tmps d
  rw [hg] at h
  exact h.inv_v

theorem areg_sound {ops : Array Oper} {Q : Exit → Act → World → Prop} (r : List Oper) : ∀ (s : St) (H : AH) (a : Act) (w : World) (O : Nat → Prop) (K : St → AH → Prop) (J : Value → AH → Prop), areg P n ops.toList r s H K J → Mod df w0 O0 D0 n s H a w O →
    (∀ s' H' a' w' O', K s' H' → Mod df w0 O0 D0 n s' H' a' w' O' → Q .normal a' w') → (∀ x H' a' w' O', J x H' → Mod df w0 O0 D0 n [] H' a' w' O' → Q (.panic [{ v := x, recovered := false }]) a' w') → wpList P ops Q r a w := by
  induction r with
  | nil => intro s H a w O K J h hm hk _; exact hk s H a w O h hm
  | cons o r ih =>
    intro s H a w O K J h hm hk hj
    simp only [areg] at h
    obtain ⟨hd, h⟩ := h
    have go : ∀ s, Mod df w0 O0 D0 n s H a w O → aop P o.op s H (fun x H' => Hide (areg P n ops.toList r (s.put o.dst x) H' K J)) J → Region.wanted o (yielded ops a.tmps) = true → wpList P ops Q (o :: r) a w := by
      intro s hm hop hwant
      unfold wpList
      rw [if_pos hwant]
      exact .inl (aop_sound hm hop (fun x H' w' O' y hx hH hext hr => ih _ _ _ _ _ K J hx.out (hm.put hd hH (hext.mono (dom_own hm.heap)) hr) hk hj) fun x H' w' O' hx hH => hj x H' a w' O' hx ⟨hH, hm.defers, hm.size, fun t => .junk _, hm.base, hm.sub⟩)
    cases hg : o.guard with
    | none =>
      rw [hg] at h
      exact go s hm h (by simp [Region.wanted, hg])
    | some jw =>
      obtain ⟨j, want⟩ := jw
      rw [hg] at h
      simp only at h
      cases hgs : gslot ops.toList j with
      | none => rw [hgs] at h; exact h.elim
      | some d =>
        rw [hgs] at h
        simp only at h
        have hdst : (ops[j]?).bind (·.dst) = some d := by
          unfold gslot at hgs
          simpa using hgs
        split at h
        · rename_i c hc
          have hval := hm.guard hc
          have hget : a.tmps[d]? = some (.bool c) := by
            rw [Array.getD_eq_getD_getElem?] at hval
            cases hq : a.tmps[d]? with
            | none => rw [hq] at hval; cases hval
            | some v => rw [hq] at hval; simp at hval; rw [hval]
          have hy : yielded ops a.tmps j = some c := by
            unfold yielded
            rw [hdst]
            simp [hget]
          by_cases hcw : c = want
          · subst hcw
            exact go _ hm (h.1 rfl) (by simp [Region.wanted, hg, hy])
          · have hcw' : c = !want := by cases c <;> cases want <;> simp_all
            have h2 := (h.2 hcw').out
            unfold wpList
            rw [if_neg (by simp [Region.wanted, hg, hy, hcw])]
            exact ih _ _ _ _ _ K J h2 (hm.put hd hm.heap (Ext.refl w O O) (.v _)) hk hj
        · rename_i q hc
          have hval := hm.tmps d
          rw [hc] at hval
          have hval := hval.inv_v
          have hy : yielded ops a.tmps j = none := by
            unfold yielded
            rw [hdst]
            simp only [Option.bind_some]
            rw [Array.getD_eq_getD_getElem?] at hval
            cases hq : a.tmps[d]? with
            | none => rfl
            | some v => rw [hq] at hval; simp at hval; rw [hval]
          unfold wpList
          rw [if_neg (by simp [Region.wanted, hg, hy])]
          exact ih _ _ _ _ _ K J h.out (hm.put hd hm.heap (Ext.refl w O O) (.v _)) hk hj
        · exact h.elim

/-- What a code comes to, told of abstract states. -/
def Lift (df : List Deferred) (w0 : World) (O0 D0 : Nat → Prop) (n : Nat) (K : Exit → St → AH → Prop) (e : Exit) (a : Act) (w : World) : Prop :=
  ∃ s H O, K e s H ∧ Mod df w0 O0 D0 n s H a w O

/-- From such a state the code comes to K. -/
structure W (P : Program) (n : Nat) (c : Code) (s : St) (H : AH) (K : Exit → St → AH → Prop) : Prop where
  run : ∀ (df : List Deferred) (w0 : World) (O0 D0 : Nat → Prop) (a : Act) (w : World) (O : Nat → Prop), Mod df w0 O0 D0 n s H a w O → c.wp P (Lift df w0 O0 D0 n K) a w

theorem W.mono {c : Code} {K K' : Exit → St → AH → Prop} (h : W P n c s H K) (hk : ∀ e s H, K e s H → K' e s H) : W P n c s H K' :=
  ⟨fun df w0 O0 D0 a w O hm => wp_mono (h.run df w0 O0 D0 a w O hm) fun e a w ⟨s, H, O, h1, h2⟩ => ⟨s, H, O, hk _ _ _ h1, h2⟩⟩

theorem Mod.keep (hm : Mod df w0 O0 D0 n s H a w O) (l : List Nat) : Mod df w0 O0 D0 n (s.keep l) H a w O := by
  refine ⟨hm.heap, hm.defers, hm.size, fun t => ?_, hm.base, hm.sub⟩
  rcases St.get_keep s l t with h | h
  · rw [h]; exact hm.tmps t
  · rw [h]; exact .junk _

/-- Slots that are read no more are forgotten. -/
theorem W_keep {c : Code} {K : Exit → St → AH → Prop} (l : List Nat) (h : W P n c (s.keep l) H K) : W P n c s H K :=
  ⟨fun df w0 O0 D0 a w O hm => h.run df w0 O0 D0 a w O (hm.keep l)⟩

/-- A region in the text's order, from here on. -/
def Reg (P : Program) (n : Nat) (all r : List Oper) (s : St) (H : AH) (K : St → AH → Prop) (J : Value → AH → Prop) : Prop := Hide (areg P n all r s H K J)

/-- What a panic comes to. -/
def panK (K : Exit → St → AH → Prop) (x : Value) (H : AH) : Prop := K (.panic [{ v := x, recovered := false }]) [] H

def seqK (P : Program) (n : Nat) (c : Code) (K : Exit → St → AH → Prop) : Exit → St → AH → Prop
  | .normal, s, H => W P n c s H K
  | e, s, H => K e s H

theorem W_seq {c d : Code} {K : Exit → St → AH → Prop} (h : W P n c s H (seqK P n d K)) : W P n (.seq c d) s H K := by
  refine ⟨fun df w0 O0 D0 a w O hm => ?_⟩
  refine wp_seq (wp_mono (h.run df w0 O0 D0 a w O hm) ?_)
  rintro e a w ⟨s, H, O, h1, h2⟩
  cases e <;> first
    | exact h1.run df w0 O0 D0 a w O h2
    | exact ⟨s, H, O, h1, h2⟩

def blockK (id : Nat) (K : Exit → St → AH → Prop) : Exit → St → AH → Prop
  | .exit i, s, H => if i = id then K .normal s H else K (.exit i) s H
  | e, s, H => K e s H

theorem W_block {c : Code} {id : Nat} {K : Exit → St → AH → Prop} (h : W P n c s H (blockK id K)) : W P n (.block id c) s H K := by
  refine ⟨fun df w0 O0 D0 a w O hm => ?_⟩
  refine wp_block (wp_mono (h.run df w0 O0 D0 a w O hm) ?_)
  rintro e a w ⟨s, H, O, h1, h2⟩
  cases e with
  | exit i =>
    simp only [blockK] at h1
    simp only [Exit.inBlock]
    split
    · rename_i hi; rw [if_pos hi] at h1; exact ⟨s, H, O, h1, h2⟩
    · rename_i hi; rw [if_neg hi] at h1; exact ⟨s, H, O, h1, h2⟩
  | _ => exact ⟨s, H, O, h1, h2⟩

theorem W_skip {K : Exit → St → AH → Prop} (h : K .normal s H) : W P n .skip s H K := ⟨fun _ _ _ _ _ _ O hm => wp_skip ⟨s, H, O, h, hm⟩⟩
theorem W_ret {K : Exit → St → AH → Prop} (h : K .ret s H) : W P n .ret s H K := ⟨fun _ _ _ _ _ _ O hm => wp_ret ⟨s, H, O, h, hm⟩⟩
theorem W_exit {id : Nat} {K : Exit → St → AH → Prop} (h : K (.exit id) s H) : W P n (.exit id) s H K := ⟨fun _ _ _ _ _ _ O hm => wp_exit ⟨s, H, O, h, hm⟩⟩

theorem W_cond {t : Nat} {c : Bool} {x y : Code} {K : Exit → St → AH → Prop} (hc : s.get t = .v (.bool c)) (h1 : c = true → W P n x s H K) (h2 : c = false → W P n y s H K) : W P n (.cond (.tmp t) x y) s H K := by
  refine ⟨fun df w0 O0 D0 a w O hm => ?_⟩
  have hv := hm.tmps t
  rw [hc] at hv
  have hv := hv.inv_v
  exact wp_cond_split hv (fun e => (h1 e).run df w0 O0 D0 a w O hm) (fun e => (h2 e).run df w0 O0 D0 a w O hm)

theorem W_cond_lit {c : Bool} {x y : Code} {K : Exit → St → AH → Prop} (h : W P n (if c then x else y) s H K) : W P n (.cond (.const (.bool c)) x y) s H K := by
  refine ⟨fun df w0 O0 D0 a w O hm => ?_⟩
  exact wp_cond (t := c) rfl (h.run df w0 O0 D0 a w O hm)

theorem W_region {id : Nat} {ops : Array Oper} {K : Exit → St → AH → Prop} (h : Reg P n ops.toList ops.toList s H (fun s' H' => K .normal s' H') (panK K)) : W P n (.region id ops false) s H K := by
  refine ⟨fun df w0 O0 D0 a w O hm => ?_⟩
  exact wp_region_list (areg_sound (Q := Lift df w0 O0 D0 n K) ops.toList s H a w O _ _ h.out hm (fun s' H' a' w' O' h1 h2 => ⟨s', H', O', h1, h2⟩) fun x H' a' w' O' h1 h2 => ⟨[], H', O', h1, h2⟩)

def loopK (I : Nat → St → AH → Prop) (l : List Nat) (m : Nat) (K : Exit → St → AH → Prop) : Exit → St → AH → Prop
  | .normal, s, H => ∃ m', m' < m ∧ I m' (s.keep l) H
  | e, s, H => K e s H

/-- A loop: what holds at every round's head, of the slots l, with a number that every round lowers. -/
theorem W_loop {c : Code} {K : Exit → St → AH → Prop} (l : List Nat) (I : Nat → St → AH → Prop) (m0 : Nat) (h0 : I m0 (s.keep l) H) (round : ∀ m s H, I m s H → W P n c s H (loopK I l m K)) : W P n (.loop c) s H K := by
  refine ⟨fun df w0 O0 D0 a w O hm => ?_⟩
  refine wp_loop_ghost (fun m a w => ∃ s H O, I m s H ∧ Mod df w0 O0 D0 n s H a w O) m0 ⟨_, H, O, h0, hm.keep l⟩ ?_
  rintro m a w ⟨s, H, O, hI, hm⟩
  refine wp_mono ((round m s H hI).run df w0 O0 D0 a w O hm) ?_
  rintro e a w ⟨s, H, O, h1, h2⟩
  cases e <;> first
    | (obtain ⟨m', hlt, h1⟩ := h1
       exact ⟨m', hlt, _, H, O, h1, h2.keep l⟩)
    | exact ⟨s, H, O, h1, h2⟩

/-- A fact on the heap may be had at any point: an owned block is another than a fresh one. -/
theorem W_scope {c : Code} {K : Exit → St → AH → Prop} (h : W P n c s H (fun e s H => (∀ l, e ≠ .goto l) ∧ K e s H)) : W P n (.scope c) s H K := by
  refine ⟨fun df w0 O0 D0 a w O hm => ?_⟩
  refine wp_scope_straight (wp_mono (h.run df w0 O0 D0 a w O hm) ?_)
  rintro e a w ⟨s, H, O, ⟨h0, h1⟩, h2⟩
  cases e <;> first
    | exact ⟨s, H, O, h1, h2⟩
    | exact absurd rfl (h0 _)

end Go.Fw
/- Functions: a contract out of the body. -/
namespace Go.Fw
set_option maxHeartbeats 8000000
set_option linter.all false
open Go

variable {df : List Deferred} {P : Program} {w w0 : World} {O O0 D0 : Nat → Prop} {H : AH} {s : St} {a : Act} {n : Nat} {t : TypeId}

def argSt : Nat → List AV → St
  | _, [] => []
  | k, x :: r => (k, x) :: argSt (k + 1) r

theorem argSt_get : ∀ (l : List AV) (k t : Nat), (argSt k l).get t = if k ≤ t ∧ t < k + l.length then (l[t - k]?).getD .junk else .junk
  | [], k, t => by
    rw [if_neg (by simp; try omega)]; rfl
  | x :: r, k, t => by
    show (if k = t then x else (argSt (k + 1) r).get t) = _
    rw [argSt_get r (k + 1) t]
    simp only [List.length_cons]
    by_cases h : k = t
    · subst h; rw [if_pos rfl, if_pos (by omega)]; simp
    · rw [if_neg h]
      by_cases h2 : k + 1 ≤ t ∧ t < k + 1 + r.length
      · rw [if_pos h2, if_pos (by omega)]
        have : t - k = (t - (k + 1)) + 1 := by omega
        rw [this, List.getElem?_cons_succ]
      · rw [if_neg h2, if_neg (by omega)]

def ares (P : Program) : List ResultVar → St → AH → (List AV → Prop) → Prop
  | [], _, _, K => K []
  | .tmp t :: r, s, H, K => ares P r s H fun l => K (s.get t :: l)
  | .cell b t :: r, s, H, K => aload P t (s.get b) H fun x => ares P r s H fun l => K (x :: l)

def pack : List AV → AV
  | [x] => x
  | l => .tup l

def retK (P : Program) (rs : List ResultVar) (K : AV → AH → Prop) (J : Value → AH → Prop) : Exit → St → AH → Prop
  | .normal, s, H => ares P rs s H fun l => K (pack l) H
  | .ret, s, H => ares P rs s H fun l => K (pack l) H
  | .panic ch, _, H => ∃ x, ch = [{ v := x, recovered := false }] ∧ J x H
  | _, _, _ => False

def resOf (tmps : Array Value) : ResultVar → Sem Value
  | .tmp t => pure (tmps.getD t undef)
  | .cell a t => do loadVar t (← asAddr (tmps.getD a undef))

theorem ares_ok (hm : Mod df w0 O0 D0 n s H a w O) : ∀ (rs : List ResultVar) (K : List AV → Prop), ares P rs s H K → ∃ l vs, K l ∧ l.length = vs.length ∧ l.length = rs.length ∧ (∀ (i : Nat) x y, l[i]? = some x → vs[i]? = some y → Rep w O x y) ∧ (rs.mapM (m := Sem) (resOf a.tmps)).run P w = .ok vs w
  | [], K, h => ⟨[], [], h, rfl, rfl, fun i x y hx => by simp at hx, rfl⟩
  | .tmp t :: r, K, h => by
    obtain ⟨l, vs, h1, h2, h3, h4, h5⟩ := ares_ok hm r _ h
    refine ⟨_, a.tmps.getD t undef :: vs, h1, by simp [h2], by simp [h3], ?_, ?_⟩
    · intro i x y hx hy
      match i with
      | 0 =>
        simp only [List.getElem?_cons_zero, Option.some.injEq] at hx hy
        subst hx hy; exact hm.tmps t
      | i + 1 => exact h4 i x y (by simpa using hx) (by simpa using hy)
    · simp only [List.mapM_cons, resOf, Sem.run_bind, Sem.run_pure, Result.andThen_ok, h5]
  | .cell b u :: r, K, h => by
    obtain ⟨e, f, bl, off, hk, hv, ⟨rw_⟩⟩ := row_ok h (hm.tmps b) hm.heap.holds
    obtain ⟨x, y, h1, h2, h3⟩ := cut_load hk rw_
    obtain ⟨l, vs, g1, g2, g3, g4, g5⟩ := ares_ok hm r _ h1
    refine ⟨_, y :: vs, g1, by simp [g2], by simp [g3], ?_, ?_⟩
    · intro i p q hp hq
      match i with
      | 0 => simp at hp hq; subst hp hq; exact h2
      | i + 1 => exact g4 i p q (by simpa using hp) (by simpa using hq)
    · simp only [List.mapM_cons, resOf, Sem.run_bind, hv, asAddr, Sem.run_pure, Result.andThen_ok, h3, g5]

theorem results_ok {fn : Func} {K : AV → Prop} (hm : Mod df w0 O0 D0 n s H a w O) (h : ares P fn.results.toList s H fun l => K (pack l)) : Gives P w O K (results fn a.tmps) := by
  obtain ⟨l, vs, h1, h2, h3, h4, h5⟩ := ares_ok hm _ _ h
  have hrun : (results fn a.tmps).run P w = .ok (if h : vs.toArray.size = 1 then vs.toArray[0] else .tuple vs.toArray) w := by
    have he : results fn a.tmps = (do let vs ← fn.results.mapM (m := Sem) (resOf a.tmps); pure (if h : vs.size = 1 then vs[0] else .tuple vs)) := by
      unfold results
      congr 2
    rw [he, Array.mapM_eq_mapM_toList, map_eq_pure_bind]
    simp only [Sem.run_bind, h5]
    rfl
  refine ⟨_, _, h1, ?_, hrun⟩
  clear hrun h5 h1 h3
  match l, vs, h2, h4 with
  | [], [], _, h4 => exact .tup [] [] rfl h4
  | [x], [y], _, h4 => exact h4 0 x y rfl rfl
  | x :: x' :: l, y :: y' :: vs, h2, h4 =>
    have := Rep.tup (w := w) (O := O) (x :: x' :: l) (y :: y' :: vs) h2 h4
    simpa [pack] using this

theorem CallX.of_body {f : FuncId} {fn : Func} {c : Code} {args : List AV} {K : AV → AH → Prop} {J : Value → AH → Prop} (hf : P.funcs[f]? = some fn) (hname : (fn.name == "runtime.NumGoroutine") = false) (hb : fn.body = some c)
    (h : W P (args.length + (fn.ntmps - args.length)) c (argSt 0 args) H (retK P fn.results.toList K J)) : CallX P f args H K J := by
  refine ⟨⟨fn, hf, hname, by rw [hb]; rfl⟩, fun w O vs hkn hO hH hl hr => ?_⟩
  refine calls_of_wp hf hb ?_
  have hm : Mod [] w O (dom H) (args.length + (fn.ntmps - args.length)) (argSt 0 args) H { tmps := vs.toArray ++ Array.replicate (fn.ntmps - vs.toArray.size) undef, defers := [] } w O := by
    refine ⟨⟨Ext.refl w O _, hO, fun b o hb => ⟨(hH b o hb).1, fun _ => ⟨o, hb⟩⟩, fun b o hb => (hH b o hb).2⟩, rfl, by simp [hl], fun t => ?_, hkn, fun b hb => by obtain ⟨o, ho⟩ := hb; exact (hH b o ho).1⟩
    rw [argSt_get, Nat.zero_add]
    split
    · rename_i ht
      have hx : args[t - 0]? = some (args[t]'ht.2) := List.getElem?_eq_getElem ht.2
      have hy : vs[t]? = some (vs[t]'(by omega)) := List.getElem?_eq_getElem (by omega)
      rw [hx, Option.getD_some]
      have hq : (vs.toArray ++ Array.replicate (fn.ntmps - vs.toArray.size) undef).getD t undef = vs[t]'(by omega) := by
        rw [Array.getD_eq_getD_getElem?, Array.getElem?_append_left (by simp; omega), List.getElem?_toArray, hy]
        rfl
      rw [hq]
      exact hr t _ _ (List.getElem?_eq_getElem ht.2) hy
    · exact .junk _
  refine wp_mono (h.run [] w O (dom H) _ w O hm) ?_
  rintro e a w' ⟨s, H', O', h1, h2⟩
  have fin : ∀ (h1 : ares P fn.results.toList s H' fun l => K (pack l) H'), a.defers = [] ∧ ∃ v, (results fn a.tmps).run P w' = .ok v w' ∧ Ends w O (dom H) K J (.returned v) w' := by
    intro h1
    obtain ⟨x, y, g1, g2, g3⟩ := results_ok (K := fun x => K x H') h2 h1
    exact ⟨h2.defers, y, g3, .inl ⟨x, H', O', y, rfl, g1, h2.heap, g2⟩⟩
  cases e <;> simp only [retK] at h1
  · exact fin h1
  · exact fin h1
  · obtain ⟨x, rfl, hj⟩ := h1
    exact ⟨h2.defers, .inr ⟨x, H', O', rfl, hj, h2.heap⟩⟩

end Go.Fw
/- Stepping through a region, one operation at a time. -/
namespace Go.Fw
set_option maxHeartbeats 8000000
set_option linter.all false
open Go

variable {P : Program} {n : Nat} {all r : List Oper} {o : Oper} {s : St} {H : AH} {K : St → AH → Prop} {J : Value → AH → Prop}

def inB (n : Nat) : Option Nat → Bool
  | none => true
  | some d => decide (d < n)

theorem inN_of {d : Option Nat} (h : inB n d = true) : inN n d := by
  cases d with
  | none => trivial
  | some d => exact of_decide_eq_true (p := d < n) h

theorem Reg.nil (h : K s H) : Reg P n all [] s H K J := ⟨h⟩

theorem Reg.cons (hd : inB n o.dst = true) (hg : o.guard = none) (h : aop P o.op s H (fun x H' => Reg P n all r (s.put o.dst x) H' K J) J) : Reg P n all (o :: r) s H K J := by
  refine ⟨?_⟩
  simp only [areg, hg]
  exact ⟨inN_of hd, h⟩

theorem Reg.guard {j d : Nat} {want c : Bool} (hd : inB n o.dst = true) (hg : o.guard = some (j, want)) (hs : gslot all j = some d) (hc : s.get d = .v (.bool c))
    (h1 : c = want → Reg P n all (⟨o.dst, o.op, o.type, o.pos, o.after, none⟩ :: r) s H K J) (h2 : c = !want → Reg P n all r (s.put o.dst (.v undef)) H K J) : Reg P n all (o :: r) s H K J := by
  refine ⟨?_⟩
  simp only [areg, hg, hs, hc]
  exact ⟨inN_of hd, fun e => (h1 e).out.2, h2⟩

theorem Reg.guard_run {j d : Nat} {want : Bool} (hd : inB n o.dst = true) (hg : o.guard = some (j, want)) (hs : gslot all j = some d) (hc : s.get d = .v (.bool want))
    (h : aop P o.op s H (fun x H' => Reg P n all r (s.put o.dst x) H' K J) J) : Reg P n all (o :: r) s H K J := by
  refine ⟨?_⟩
  simp only [areg, hg, hs, hc]
  refine ⟨inN_of hd, fun _ => h, ?_⟩
  cases want <;> simp

theorem Reg.guard_skip {j d : Nat} {want : Bool} (hd : inB n o.dst = true) (hg : o.guard = some (j, want)) (hs : gslot all j = some d) (hc : s.get d = .v (.bool !want))
    (h : Reg P n all r (s.put o.dst (.v undef)) H K J) : Reg P n all (o :: r) s H K J := by
  refine ⟨?_⟩
  simp only [areg, hg, hs, hc]
  refine ⟨inN_of hd, ?_, fun _ => h⟩
  cases want <;> simp

/-- The operation that is looked at did not run itself. -/
theorem Reg.guard_none {j d : Nat} {want : Bool} {q : Array Value} (hd : inB n o.dst = true) (hg : o.guard = some (j, want)) (hs : gslot all j = some d) (hc : s.get d = .v (.tuple q))
    (h : Reg P n all r (s.put o.dst (.v undef)) H K J) : Reg P n all (o :: r) s H K J := by
  refine ⟨?_⟩
  simp only [areg, hg, hs, hc]
  exact ⟨inN_of hd, h⟩

section
variable {c d : Code} {J : Exit → St → AH → Prop} {id i : Nat}
theorem seqK_normal (h : W P n c s H J) : seqK P n c J .normal s H := h
theorem seqK_ret (h : J .ret s H) : seqK P n c J .ret s H := h
theorem seqK_exit (h : J (.exit i) s H) : seqK P n c J (.exit i) s H := h
theorem blockK_normal (h : J .normal s H) : blockK id J .normal s H := h
theorem blockK_ret (h : J .ret s H) : blockK id J .ret s H := h
theorem blockK_same (h : J .normal s H) : blockK id J (.exit id) s H := by simp only [blockK, if_true]; exact h
theorem blockK_other (hne : (i == id) = false) (h : J (.exit i) s H) : blockK id J (.exit i) s H := by
  have : ¬ i = id := by simpa using hne
  simp only [blockK]
  rw [if_neg this]
  exact h
theorem loopK_ret {I : Nat → St → AH → Prop} {l : List Nat} {m : Nat} (h : J .ret s H) : loopK I l m J .ret s H := h
theorem loopK_exit {I : Nat → St → AH → Prop} {l : List Nat} {m : Nat} (h : J (.exit i) s H) : loopK I l m J (.exit i) s H := h
theorem W_cond_true {t : Nat} {x y : Code} (hc : s.get t = .v (.bool true)) (h : W P n x s H J) : W P n (.cond (.tmp t) x y) s H J := W_cond hc (fun _ => h) (fun e => by cases e)
theorem W_cond_false {t : Nat} {x y : Code} (hc : s.get t = .v (.bool false)) (h : W P n y s H J) : W P n (.cond (.tmp t) x y) s H J := W_cond hc (fun e => by cases e) (fun _ => h)
theorem AH.set_none {H : AH} {b c : Nat} {o : AObj} (h : fresh (H.set b o) c) : c ≠ b ∧ fresh H c := by
  unfold fresh at h ⊢
  simp only [AH.set] at h
  by_cases e : c = b
  · rw [if_pos e] at h; cases h
  · rw [if_neg e] at h; exact ⟨e, h⟩
theorem AH.fresh_ne {H : AH} {b c : Nat} {o : AObj} (h : fresh H c) (hb : H b = some o) : c ≠ b := by
  rintro rfl
  unfold fresh at h
  rw [h] at hb; cases hb
end

end Go.Fw
/- A region whose order Go leaves open: one order is walked; what may come up elsewhere is asked there, too. Definitions; what an operation looks at. -/
namespace Go.Fw
set_option maxHeartbeats 8000000
set_option linter.all false
open Go

variable {df : List Deferred} {P : Program} {w w0 : World} {O O0 D0 : Nat → Prop} {H : AH} {s : St} {a : Act} {n : Nat} {t : TypeId}

/-- An operation that computes or reads, and what it yields is fixed. -/
def asyncOp (P : Program) : Op → Bool
  | .move _ => true
  | .pick _ _ _ => true
  | .nilCheck _ => true
  | .binOp op t _ _ _ => (match op with
    | .eql => (match P.underlying t with | some (.slice _) => false | _ => true)
    | .neq => (match P.underlying t with | some (.slice _) => false | _ => true)
    | _ => true)
  | .unOp _ _ _ => true
  | .convert _ _ _ => true
  | .load _ _ => true
  | .fieldAddr _ _ _ => true
  | .field _ _ _ => true
  | .indexAddr _ _ _ => true
  | .index _ _ _ => true
  | .slice _ _ _ _ _ => true
  | .build _ _ => true
  | .buildSlice _ _ _ => true
  | .extract _ _ => true
  | .makeFunc _ _ _ => true
  | .makeInterface _ _ => true
  | .lookup _ _ _ _ => true
  | .call { callee := .builtin .len, .. } => true
  | .call { callee := .builtin .min, .. } => true
  | _ => false

/-- K of one value alone, under what else is asked. -/
def Det (J : (AV → Prop) → Prop) : Prop := ∀ K, J K → ∃ x, K x ∧ ∀ K' : AV → Prop, K' x → J K'

theorem Det.here (x : AV) : Det fun K => K x := fun K h => ⟨x, h, fun _ h => h⟩
theorem Det.and {p : Prop} {J : (AV → Prop) → Prop} (h : Det J) : Det fun K => p ∧ J K := fun K hk => by
  obtain ⟨x, h1, h2⟩ := h K hk.2
  exact ⟨x, h1, fun K' h' => ⟨hk.1, h2 K' h'⟩⟩
theorem Det.two {p q : Prop} {J : (AV → Prop) → Prop} (h : Det J) : Det fun K => p ∧ q ∧ J K := Det.and (Det.and h)
theorem Det.no : Det fun _ => False := fun _ h => h.elim

theorem det_pick (c x y : AV) : Det fun K => apick c x y K := by
  intro K h
  unfold apick at h ⊢
  split at h
  · rename_i t
    cases t with
    | true => exact ⟨x, h.1 rfl, fun K' h' => ⟨fun _ => h', fun e => by cases e⟩⟩
    | false => exact ⟨y, h.2 rfl, fun K' h' => ⟨(fun e => by cases e), fun _ => h'⟩⟩
  · exact h.elim

theorem det_nil (x : AV) : Det fun K => anil x K := by
  intro K h
  unfold anil at h ⊢
  split at h <;> first | exact ⟨_, h, fun _ h => h⟩ | exact h.elim

theorem det_int (op : BinOp) (k : IntKind) (x y : Int) : Det fun K => aint op k x y K := by
  intro K h
  unfold aint at h ⊢
  cases op <;> first | exact ⟨_, h, fun _ h => h⟩ | exact ⟨_, h.2, fun _ h' => ⟨h.1, h'⟩⟩ | exact h.elim

theorem det_str (op : BinOp) (x y : ByteArray) : Det fun K => astr op x y K := by
  intro K h
  unfold astr at h ⊢
  cases op <;> first | exact ⟨_, h, fun _ h => h⟩ | exact ⟨_, h.2, fun _ h' => ⟨h.1, h'⟩⟩ | exact h.elim

theorem det_eq (neg : Bool) (x y : AV) (hns : ∀ e, P.underlying t ≠ some (.slice e)) : Det fun K => aeq P t neg x y K := by
  intro K h
  unfold aeq at h ⊢
  split at h <;> first
    | exact h.elim
    | exact absurd (by assumption) (hns _)
    | exact ⟨_, h, fun _ h => h⟩
    | exact ⟨_, h.2, fun _ h' => ⟨h.1, h'⟩⟩

theorem det_bin (op : BinOp) (x y : AV) (hns : (op = .eql ∨ op = .neq) → ∀ e, P.underlying t ≠ some (.slice e)) : Det fun K => abin P op t x y K := by
  intro K h
  unfold abin at h ⊢
  split at h
  · exact ⟨_, h.2, fun _ h' => ⟨h.1, h'⟩⟩
  · exact ⟨_, h.2, fun _ h' => ⟨h.1, h'⟩⟩
  · obtain ⟨z, h1, h2⟩ := det_int _ _ _ _ K h.2
    exact ⟨z, h1, fun K' h' => ⟨h.1, h2 K' h'⟩⟩
  · exact det_str _ _ _ K h
  · exact det_eq false _ _ (hns (.inl rfl)) K h
  · exact det_eq true _ _ (hns (.inr rfl)) K h
  · exact h.elim

theorem det_un (op : UnOp) (x : AV) : Det fun K => aun op x K := by
  intro K h
  unfold aun at h ⊢
  split at h <;> first | exact ⟨_, h, fun _ h => h⟩ | exact det_int _ _ _ _ K h | exact h.elim

theorem det_src (x : AV) (es : Nat) {J : List (List AV) → (AV → Prop) → Prop} (hJ : ∀ xs, Det (J xs)) : Det fun K => asrc x H es fun xs => J xs K := by
  intro K h
  unfold asrc at h ⊢
  split at h
  · obtain ⟨h1, h2⟩ := h
    obtain ⟨z, h3, h4⟩ := hJ _ K h2
    exact ⟨z, h3, fun K' h' => ⟨h1, h4 K' h'⟩⟩
  · exact hJ _ K h
  · obtain ⟨h1, h2⟩ := h
    obtain ⟨z, h3, h4⟩ := hJ _ K h2
    exact ⟨z, h3, fun K' h' => ⟨h1, h4 K' h'⟩⟩
  · exact hJ _ K h
  · split at h
    · obtain ⟨h1, h2, h3, h4⟩ := h
      obtain ⟨z, h5, h6⟩ := hJ _ K h4
      exact ⟨z, h5, fun K' h' => ⟨h1, h2, h3, h6 K' h'⟩⟩
    · exact h.elim
  · exact h.elim

theorem det_conv (u : TypeId) (x : AV) : Det fun K => aconv P t u x H K := by
  intro K h
  unfold aconv at h ⊢
  split at h
  · exact ⟨_, h, fun _ h => h⟩
  · exact ⟨_, h, fun _ h => h⟩
  · obtain ⟨h1, h⟩ := h
    obtain ⟨z, h2, h3⟩ := det_src (H := H) _ 1 (J := fun rows K => ∃ l, bytesOf rows = some l ∧ K (.v (.string ⟨l.toArray⟩))) (fun rows K h => by
      obtain ⟨l, g1, g2⟩ := h
      exact ⟨_, g2, fun _ h' => ⟨l, g1, h'⟩⟩) K h
    exact ⟨z, h2, fun K' h' => ⟨h1, h3 K' h'⟩⟩
  · exact h.elim

theorem det_look (x k : AV) (ok : Bool) : Det fun K => alook P t x k ok H K := by
  intro K h
  unfold alook at h ⊢
  split at h
  · obtain ⟨h1, h2, h⟩ := h
    split at h
    · exact ⟨_, h.2, fun _ h' => ⟨h1, h2, h.1, h'⟩⟩
    · exact h.elim
  · exact h.elim

theorem det_iface (x : AV) : Det fun K => aiface P t x K := by
  intro K h
  unfold aiface at h ⊢
  split at h <;> first | exact ⟨_, h, fun _ h => h⟩ | exact h.elim

theorem det_min (x y : AV) : Det fun K => amin x y K := by
  intro K h
  unfold amin at h ⊢
  split at h <;> first | exact ⟨_, h, fun _ h => h⟩ | exact h.elim

theorem det_cut (e : List AV) (f : Nat) : Det fun K => acut P t e f K := by
  intro K h
  unfold acut at h ⊢
  split at h
  · split at h
    · rename_i hag
      exact ⟨_, h.2, fun _ h' => by simp only [hag, if_true]; exact ⟨h.1, h'⟩⟩
    · rename_i hag
      obtain ⟨c, hc, hk⟩ := h
      exact ⟨c, hk, fun _ h' => by simp only [hag]; exact ⟨c, hc, h'⟩⟩
  · exact h.elim

theorem det_load (x : AV) (H : AH) : Det fun K => aload P t x H K := by
  intro K h
  unfold aload arow at h ⊢
  split at h
  · split at h
    · obtain ⟨h1, h0, e, h2, h3⟩ := h
      obtain ⟨z, h4, h5⟩ := det_cut _ _ K h3
      exact ⟨z, h4, fun K' h' => ⟨h1, h0, e, h2, h5 K' h'⟩⟩
    · exact h.elim
  · exact det_cut _ _ K h
  · exact h.elim

theorem det_fld (x : AV) (f : Nat) : Det fun K => afld P t x f K := by
  intro K h
  unfold afld at h ⊢
  split at h
  · split at h
    · obtain ⟨h1, h⟩ := h
      split at h <;> first | exact ⟨_, h, fun _ h' => ⟨h1, h'⟩⟩ | exact h.elim
    · exact h.elim
  · exact h.elim

theorem det_field (x : AV) (f : Nat) : Det fun K => afield P t x f K := by
  intro K h
  unfold afield at h ⊢
  split at h
  · split at h
    · split at h <;> first | exact det_cut _ _ K h | exact h.elim
    · exact h.elim
  · exact h.elim

theorem det_idx (x i : AV) : Det fun K => aidx P t x i K := by
  intro K h
  unfold aidx at h ⊢
  split at h
  · split at h
    · obtain ⟨h1, h2, h3, h4, h5⟩ := h
      exact ⟨_, h5, fun _ h' => ⟨h1, h2, h3, h4, h'⟩⟩
    · obtain ⟨h1, h2, h3, e, h4, h5⟩ := h
      exact ⟨_, h5, fun _ h' => ⟨h1, h2, h3, e, h4, h'⟩⟩
    · exact h.elim
  · split at h
    · obtain ⟨h1, h2, h3, h5⟩ := h
      exact ⟨_, h5, fun _ h' => ⟨h1, h2, h3, h'⟩⟩
    · exact h.elim
  · exact h.elim

theorem det_index (x i : AV) : Det fun K => aindex P t x i K := by
  intro K h
  unfold aindex at h ⊢
  split at h
  · obtain ⟨h1, c, h2, h3⟩ := h
    exact ⟨_, h3, fun _ h' => ⟨h1, c, h2, h'⟩⟩
  · exact h.elim

theorem det_ext (x : AV) (i : Nat) : Det fun K => aext x i K := by
  intro K h
  unfold aext at h ⊢
  split at h
  · obtain ⟨c, h2, h3⟩ := h
    exact ⟨_, h3, fun _ h' => ⟨c, h2, h'⟩⟩
  · obtain ⟨c, h2, h3⟩ := h
    exact ⟨_, h3, fun _ h' => ⟨c, h2, h'⟩⟩
  · exact h.elim

theorem det_len (x : AV) : Det fun K => alen P t x K := by
  intro K h
  unfold alen at h ⊢
  split at h <;> first | exact ⟨_, h, fun _ h => h⟩ | exact h.elim

theorem det_bnd (x : Option Operand) (dflt hi : Nat) {J : Nat → (AV → Prop) → Prop} (hJ : ∀ k, Det (J k)) : Det fun K => abnd s x dflt hi fun k => J k K := by
  intro K h
  unfold abnd at h ⊢
  split at h
  · exact hJ _ K h
  · split at h
    · obtain ⟨h1, h2, h3⟩ := h
      obtain ⟨z, h4, h5⟩ := hJ _ K h3
      exact ⟨z, h4, fun K' h' => ⟨h1, h2, h5 K' h'⟩⟩
    · exact h.elim

theorem Det.cond (c : Prop) [Decidable c] (x y : AV) : Det fun K => if c then K x else K y := by
  intro K h
  by_cases hc : c
  · simp only [if_pos hc] at h ⊢
    exact ⟨x, h, fun _ h => h⟩
  · simp only [if_neg hc] at h ⊢
    exact ⟨y, h, fun _ h => h⟩

theorem Det.cut1 {lo : Option Operand} {n l h : Nat} {c : Option Nat} {x y : AV} : Det fun K => acut1 lo n l h c (K x) (K y) := by
  intro K h
  rcases h with ⟨h1, h2⟩ | ⟨h1, h2⟩
  · exact ⟨x, h2, fun _ h => .inl ⟨h1, h⟩⟩
  · exact ⟨y, h2, fun _ h => .inr ⟨h1, h⟩⟩

theorem det_slice (x : AV) (lo hi mx : Option Operand) (s : St) : Det fun K => aslice P t x lo hi mx s K := by
  intro K h
  unfold aslice at h ⊢
  split at h
  · split at h
    · exact det_bnd _ _ _ (fun _ => det_bnd _ _ _ fun _ => Det.here _) K h
    · exact h.elim
  · split at h
    · exact Det.two (det_bnd _ _ _ fun _ => det_bnd _ _ _ fun _ => Det.cut1) K h
    · exact Det.two (det_bnd _ _ _ fun _ => det_bnd _ _ _ fun _ => Det.here _) K h
    · exact Det.and (det_bnd _ _ _ fun _ => det_bnd _ _ _ fun _ => Det.here _) K h
    · exact Det.and (det_bnd _ _ _ fun _ => det_bnd _ _ _ fun _ => Det.here _) K h
    · exact h.elim
  · obtain ⟨h1, h2, h⟩ := h
    split at h
    · obtain ⟨h3, h⟩ := h
      obtain ⟨z, h4, h5⟩ := det_bnd _ _ _ (fun m => det_bnd _ _ _ fun h => det_bnd _ _ _ fun l => Det.cond (l < m) _ _) K h
      exact ⟨z, h4, fun K' h' => ⟨h1, h2, h3, h5 K' h'⟩⟩
    · obtain ⟨z, h4, h5⟩ := det_bnd _ _ _ (fun _ => det_bnd _ _ _ fun _ => det_bnd _ _ _ fun _ => Det.here _) K h
      exact ⟨z, h4, fun K' h' => ⟨h1, h2, h5 K' h'⟩⟩
    · obtain ⟨z, h4, h5⟩ := Det.and (det_bnd _ _ _ fun _ => det_bnd _ _ _ fun _ => det_bnd _ _ _ fun _ => Det.here _) K h
      exact ⟨z, h4, fun K' h' => ⟨h1, h2, h5 K' h'⟩⟩
    · obtain ⟨z, h4, h5⟩ := det_bnd _ _ _ (fun _ => det_bnd _ _ _ fun _ => det_bnd _ _ _ fun _ => Det.here _) K h
      exact ⟨z, h4, fun K' h' => ⟨h1, h2, h5 K' h'⟩⟩
    · exact h.elim
  · exact h.elim

end Go.Fw
/- What an operation looks at: it hangs on its operands alone; what is fixed of it. -/
namespace Go.Fw
set_option maxHeartbeats 8000000
set_option linter.all false
open Go

variable {df : List Deferred} {P : Program} {w w0 : World} {O O0 D0 : Nat → Prop} {H : AH} {s s' : St} {a : Act} {n : Nat} {t : TypeId}

theorem det_build (ps : Array (Nat × Operand)) (s : St) : Det fun K => abuild P t ps s K := by
  intro K h
  unfold abuild at h ⊢
  split at h
  · obtain ⟨h1, h2, h⟩ := h
    split at h
    · rename_i cs hcs
      exact ⟨_, h, fun K' h' => ⟨h1, h2, h'⟩⟩
    · exact h.elim
  · obtain ⟨h1, h2, h⟩ := h
    split at h
    · rename_i cs hcs
      exact ⟨_, h, fun K' h' => ⟨h1, h2, h'⟩⟩
    · exact h.elim
  · exact h.elim

theorem det_buildS (k : Nat) (ps : Array (Nat × Operand)) (s : St) : Det fun K => abuildS P t k ps s K := by
  intro K h
  unfold abuildS at h ⊢
  split at h
  · split at h
    · obtain ⟨h1, h2, h3, h4, h⟩ := h
      split at h
      · rename_i xs hxs
        obtain ⟨z, h5, h6⟩ := Det.cond (k = 0) _ _ K h
        exact ⟨z, h5, fun K' h' => ⟨h1, h2, h3, h4, h6 K' h'⟩⟩
      · exact h.elim
    · exact h.elim
  · exact h.elim

theorem async_det {op : Op} (ha : asyncOp P op = true) {K : AV → AH → Prop} {J : Value → AH → Prop} (h : aop P op s H K J) : ∃ x, K x H ∧ ∀ (K' : AV → AH → Prop) (J' : Value → AH → Prop), K' x H → aop P op s H K' J' := by
  have lift : ∀ {L : (AV → Prop) → Prop}, Det L → L (K · H) → ∃ x, K x H ∧ ∀ (K' : AV → AH → Prop) (_ : Value → AH → Prop), K' x H → L (K' · H) := by
    intro L hJ hk
    obtain ⟨x, h1, h2⟩ := hJ _ hk
    exact ⟨x, h1, fun K' _ h' => h2 (K' · H) h'⟩
  cases op <;> simp only [asyncOp, Bool.false_eq_true] at ha <;> simp only [aop] at h ⊢
  case move x => exact ⟨_, h, fun _ _ h => h⟩
  case pick c x y => exact lift (det_pick _ _ _) h
  case nilCheck x => exact lift (det_nil _) h
  case binOp op u x y v =>
    refine lift (det_bin _ _ _ ?_) h
    rintro (rfl | rfl) e he <;> simp [he] at ha
  case unOp op u x => exact lift (det_un _ _) h
  case convert c d x => exact lift (det_conv _ _) h
  case load u x => exact lift (det_load _ _) h
  case fieldAddr u x f => exact lift (det_fld _ _) h
  case field u x f => exact lift (det_field _ _) h
  case indexAddr u x i => exact lift (det_idx _ _) h
  case index u x i => exact lift (det_index _ _) h
  case slice u x lo hi mx => exact lift (det_slice _ _ _ _ _) h
  case build u ps => exact lift (det_build _ _) h
  case buildSlice u k ps => exact lift (det_buildS _ _ _) h
  case extract x i => exact lift (det_ext _ _) h
  case makeFunc f first cs =>
    cases f <;> simp only [aop] at h ⊢
    exact ⟨_, h.2, fun _ _ h' => ⟨h.1, h'⟩⟩
  case makeInterface u x => exact lift (det_iface _) h
  case lookup u x k ok => exact lift (det_look _ _ _) h
  case call c =>
    obtain ⟨callee, args, ats⟩ := c
    cases callee with
    | builtin b =>
      cases b <;> simp only [Bool.false_eq_true] at ha <;> unfold acall at h ⊢ <;> simp only at h ⊢
      · split at h
        · exact lift (det_len _) h
        · exact h.elim
      · split at h
        · exact lift (det_min _ _) h
        · exact h.elim
    | value f => cases ha
    | invoke r m => cases ha

theorem map_ev {l : List Operand} (h : ∀ x ∈ l, ev s x = ev s' x) : l.map (ev s) = l.map (ev s') := List.map_congr_left h

theorem fill_congr (fs : Array Field) : ∀ (ps : List (Nat × Operand)) (cs : List AV), (∀ p ∈ ps, ev s p.2 = ev s' p.2) → afill P fs s ps cs = afill P fs s' ps cs
  | [], _, _ => rfl
  | (i, x) :: ps, cs, h => by
    simp only [afill]
    rw [h (i, x) (by simp)]
    split
    · split
      · exact fill_congr fs ps _ fun p hp => h p (by simp [hp])
      · rfl
    · rfl

theorem fillA_congr (es : Nat) : ∀ (ps : List (Nat × Operand)) (cs : List AV), (∀ p ∈ ps, ev s p.2 = ev s' p.2) → afillA es s ps cs = afillA es s' ps cs
  | [], _, _ => rfl
  | (i, x) :: ps, cs, h => by
    simp only [afillA]
    rw [h (i, x) (by simp)]
    split
    · exact fillA_congr es ps _ fun p hp => h p (by simp [hp])
    · rfl

theorem fillS_congr (es : Nat) : ∀ (ps : List (Nat × Operand)) (cs : List (List AV)), (∀ p ∈ ps, ev s p.2 = ev s' p.2) → afillS es s ps cs = afillS es s' ps cs
  | [], _, _ => rfl
  | (i, x) :: ps, cs, h => by
    simp only [afillS]
    rw [h (i, x) (by simp)]
    split
    · exact fillS_congr es ps _ fun p hp => h p (by simp [hp])
    · rfl

theorem bnd_congr (x : Option Operand) (dflt hi : Nat) (K : Nat → Prop) (h : ∀ y ∈ x.toList, ev s y = ev s' y) : abnd s x dflt hi K = abnd s' x dflt hi K := by
  cases x with
  | none => rfl
  | some y => unfold abnd; simp only [h y (by simp)]

theorem slice_congr (x : AV) (lo hi mx : Option Operand) (K : AV → Prop) (h1 : ∀ y ∈ lo.toList, ev s y = ev s' y) (h2 : ∀ y ∈ hi.toList, ev s y = ev s' y) (h3 : ∀ y ∈ mx.toList, ev s y = ev s' y) :
    aslice P t x lo hi mx s K = aslice P t x lo hi mx s' K := by
  have b1 : ∀ d k J, abnd s lo d k J = abnd s' lo d k J := fun d k J => bnd_congr lo d k J h1
  have b2 : ∀ d k J, abnd s hi d k J = abnd s' hi d k J := fun d k J => bnd_congr hi d k J h2
  cases mx with
  | none =>
    cases hu : P.underlying t with
    | none => simp only [aslice, hu]
    | some d => cases d <;> simp only [aslice, hu, b1, b2]
  | some m =>
    have b3 : ∀ d k J, abnd s (some m) d k J = abnd s' (some m) d k J := fun d k J => bnd_congr (some m) d k J h3
    cases hu : P.underlying t with
    | none => simp only [aslice, hu]
    | some d => cases d <;> simp only [aslice, hu, b1, b2, b3]

theorem aop_congr {op : Op} {K : AV → AH → Prop} {J : Value → AH → Prop} (h : ∀ x ∈ op.operands.toList, ev s x = ev s' x) : aop P op s H K J = aop P op s' H K J := by
  cases op <;> simp only [Op.operands] at h
  case move x => simp only [aop, h x (by simp)]
  case assign x => simp only [aop, h x (by simp)]
  case pick c x y => simp only [aop, h c (by simp), h x (by simp), h y (by simp)]
  case nilCheck x => simp only [aop, h x (by simp)]
  case binOp op u x y v => simp only [aop, h x (by simp), h y (by simp)]
  case unOp op u x => simp only [aop, h x (by simp)]
  case convert c d x => simp only [aop, h x (by simp)]
  case load u x => simp only [aop, h x (by simp)]
  case store u x y => simp only [aop, h x (by simp), h y (by simp)]
  case fieldAddr u x f => simp only [aop, h x (by simp)]
  case field u x f => simp only [aop, h x (by simp)]
  case indexAddr u x i => simp only [aop, h x (by simp), h i (by simp)]
  case index u x i => simp only [aop, h x (by simp), h i (by simp)]
  case slice u x lo hi mx =>
    simp only [aop, h x (by simp)]
    exact slice_congr _ lo hi mx _ (fun y hy => h y (by cases lo <;> simp_all)) (fun y hy => h y (by cases hi <;> simp_all)) (fun y hy => h y (by cases mx <;> simp_all))
  case makeSlice u l c => simp only [aop, h l (by simp), h c (by simp)]
  case build u ps =>
    have hp : ∀ p ∈ ps.toList, ev s p.2 = ev s' p.2 := fun p hp => h p.2 (by simp; exact ⟨p.1, by simpa using hp⟩)
    simp only [aop, abuild]
    cases P.underlying u with
    | none => rfl
    | some d => cases d <;> simp only [fill_congr _ ps.toList _ hp, fillA_congr _ ps.toList _ hp]
  case buildSlice u k ps =>
    have hp : ∀ p ∈ ps.toList, ev s p.2 = ev s' p.2 := fun p hp => h p.2 (by simp; exact ⟨p.1, by simpa using hp⟩)
    simp only [aop, abuildS, fillS_congr _ ps.toList _ hp]
  case box u x => simp only [aop, h x (by simp)]
  case makeInterface u x => simp only [aop, h x (by simp)]
  case makeMap u r => cases r <;> rfl
  case lookup u x k ok => simp only [aop, h x (by simp), h k (by simp)]
  case mapUpdate u x k v => simp only [aop, h x (by simp), h k (by simp), h v (by simp)]
  case panic x => simp only [aop, h x (by simp)]
  case alloc u => simp only [aop]
  case extract x i => simp only [aop, h x (by simp)]
  case makeFunc f first cs =>
    cases f <;> simp only [aop]
    rw [map_ev fun x hx => h x (by simp at hx ⊢; exact .inr hx)]
  case call c =>
    obtain ⟨callee, args, ats⟩ := c
    simp only [Call.operands] at h
    have ha : ∀ x ∈ args.toList, ev s x = ev s' x := fun x hx => h x (by simp at hx ⊢; exact .inr hx)
    cases callee with
    | value f =>
      have hf : ev s f = ev s' f := h f (by simp)
      simp only [aop, acall, hf, map_ev ha]
    | invoke r m => rfl
    | builtin b =>
      cases b <;> simp only [aop, acall]
      case len =>
        cases h0 : args[0]? with
        | none => cases ats[0]? <;> rfl
        | some x =>
          have hx := ha x (by simpa using List.mem_of_getElem? (l := args.toList) (i := 0) (by simpa using h0))
          cases ats[0]? <;> simp only [hx]
      case append =>
        cases h0 : args[0]? with
        | none => rfl
        | some x =>
          have hx := ha x (by simpa using List.mem_of_getElem? (l := args.toList) (i := 0) (by simpa using h0))
          cases h1 : args[1]? with
          | none => rfl
          | some y =>
            have hy := ha y (by simpa using List.mem_of_getElem? (l := args.toList) (i := 1) (by simpa using h1))
            simp only [hx, hy]
      case copy =>
        cases h0 : args[0]? with
        | none => rfl
        | some x =>
          have hx := ha x (by simpa using List.mem_of_getElem? (l := args.toList) (i := 0) (by simpa using h0))
          cases h1 : args[1]? with
          | none => rfl
          | some y =>
            have hy := ha y (by simpa using List.mem_of_getElem? (l := args.toList) (i := 1) (by simpa using h1))
            simp only [hx, hy]
      case clear =>
        cases h0 : args[0]? with
        | none => rfl
        | some x =>
          have hx := ha x (by simpa using List.mem_of_getElem? (l := args.toList) (i := 0) (by simpa using h0))
          simp only [hx]
      case min =>
        match hl : args.toList with
        | [x, y] => simp only [ha x (by rw [hl]; simp), ha y (by rw [hl]; simp)]
        | [] => rfl
        | [x] => rfl
        | x :: y :: z :: r => rfl
  all_goals rfl

end Go.Fw
/- A region whose order Go leaves open: one order is walked; what may come up elsewhere is asked there, too. -/
namespace Go.Fw
set_option maxHeartbeats 8000000
set_option linter.all false
open Go

variable {df : List Deferred} {P : Program} {w w0 : World} {O O0 D0 : Nat → Prop} {H : AH} {s s' : St} {a : Act} {n : Nat} {t : TypeId}

/-- What an operation looks at: its operands' slots, its guard's slot. -/
def looks (all : List Oper) (o : Oper) : List Nat :=
  (o.op.operands.toList.filterMap fun | .tmp t => some t | _ => none) ++ (match o.guard with
    | some (g, _) => (gslot all g).toList
    | none => [])

inductive Item where
  | a (i : Nat)
  | e (i : Nat) (chk : List Nat)
  | f (i : Nat)

def Item.i : Item → Nat
  | .a i => i
  | .e i _ => i
  | .f i => i

def gon (all : List Oper) (o : Oper) (s : St) : Option Bool :=
  match o.guard with
  | none => some true
  | some (j, want) => (match gslot all j with
    | some d => (match s.get d with
      | .v (.bool c) => some (c == want)
      | _ => none)
    | none => none)

/-- An operation that was walked already may also come up here: it yields the same. -/
def fit (P : Program) (all : List Oper) (s : St) (H : AH) (q : Nat) : Prop :=
  match all[q]? with
  | some o => ∃ g, gon all o s = some g ∧ (g = true → aop P o.op s H (fun x _ => ∀ d, o.dst = some d → s.get d = x) noJ) ∧ (g = false → ∀ d, o.dst = some d → s.get d = .junk)
  | none => False

def fits (P : Program) (all : List Oper) (s : St) (H : AH) : List Nat → Prop
  | [] => True
  | q :: l => fit P all s H q ∧ fits P all s H l

theorem fits_mem {l : List Nat} {all : List Oper} (h : fits P all s H l) : ∀ q ∈ l, fit P all s H q := by
  induction l with
  | nil => intro q hq; cases hq
  | cons x l ih =>
    intro q hq
    rcases List.mem_cons.1 hq with rfl | hq
    · exact h.1
    · exact ih h.2 q hq

def aregD (P : Program) (n : Nat) (all : List Oper) : List Item → St → AH → (St → AH → Prop) → (Value → AH → Prop) → Prop
  | [], s, H, K, _ => K s H
  | .a i :: r, s, H, K, J => (match all[i]? with
    | some o => inN n o.dst ∧ ∃ g, gon all o s = some g ∧ (g = true → aop P o.op s H (fun x _ => Hide (aregD P n all r (s.put o.dst x) H K J)) J) ∧ (g = false → Hide (aregD P n all r (s.put o.dst .junk) H K J))
    | none => False)
  | .e i chk :: r, s, H, K, J => (match all[i]? with
    | some o => inN n o.dst ∧ ∃ g, gon all o s = some g ∧ (g = true → aop P o.op s H (fun x H' => fits P all (s.put o.dst x) H' chk ∧ Hide (aregD P n all r (s.put o.dst x) H' K J)) J) ∧ (g = false → Hide (aregD P n all r (s.put o.dst .junk) H K J))
    | none => False)
  | .f i :: r, s, H, K, J => (match all[i]? with
    | some o => inN n o.dst ∧ aop P o.op s H (fun x H' => Hide (aregD P n all r (s.put o.dst x) H' K J)) J
    | none => False)

def edges (o : Oper) : List Nat := (o.after.toList.filter (Region.binds .any)).map (·.on)

/-- The masks of what comes ahead of each operation. -/
def maskOk (all : List Oper) (M : List Nat) : Bool :=
  (List.range all.length).all fun i => (match all[i]? with
    | some o => M.getD i 0 == (edges o).foldl (fun s k => s ||| 2 ^ k ||| M.getD k 0) 0
    | none => true)

def ok1 (all : List Oper) : List Nat → List Item → Bool
  | _, [] => true
  | seen, it :: r => (match all[it.i]? with | some o => (edges o).all fun k => seen.contains k | none => false) && ok1 all (it.i :: seen) r

def after (M : List Nat) (lasts : List Nat) (i : Nat) : Bool := lasts.all fun e => (M.getD i 0).testBit e

def ok2 (M : List Nat) : List Nat → List Nat → List Item → Bool
  | _, _, [] => true
  | lasts, asy, .a i :: r => after M lasts i && ok2 M lasts (i :: asy) r
  | lasts, asy, .e i chk :: r => after M lasts i && (asy.all fun q => (M.getD i 0).testBit q || chk.contains q) && ok2 M [i] asy r
  | lasts, asy, .f i :: r => ok2 M (i :: lasts) asy r

def names (all : List Oper) (o : Oper) (d : Nat) : Bool := (looks all o).contains d || o.dst == some d

def ok3 (P : Program) (n : Nat) (all : List Oper) (M : List Nat) : Item → Bool
  | .a i => (match all[i]? with
    | some o => asyncOp P o.op && (match o.dst with
      | some d => decide (d < n) && !(looks all o).contains d && (List.range all.length).all fun j => j == i || !((all[j]?).any fun p => names all p d) || (M.getD j 0).testBit i
      | none => false)
    | none => false)
  | .e i _ => (match all[i]? with
    | some o => (match o.dst with
      | some d => (List.range all.length).all fun j => j == i || !((all[j]?).any fun p => names all p d) || (M.getD j 0).testBit i || (M.getD i 0).testBit j
      | none => true)
    | none => false)
  | .f i => (match all[i]? with
    | some o => (edges o).isEmpty && o.guard.isNone && (match o.op, o.dst with
      | .alloc t, some d => ((zeros P t).any fun cs => decide (cs.length ≠ 0)) && decide (d < n) && (List.range all.length).all fun j => j == i || !((all[j]?).any fun p => names all p d) || (M.getD j 0).testBit i
      | _, _ => false)
    | none => false)

def planOk (P : Program) (n : Nat) (all : List Oper) (M : List Nat) (plan : List Item) : Bool :=
  maskOk all M && decide ((plan.map Item.i).Nodup) && ((List.range all.length).all fun i => (plan.map Item.i).contains i) && ok1 all [] plan && ok2 M [] [] plan && plan.all (ok3 P n all M)

end Go.Fw
