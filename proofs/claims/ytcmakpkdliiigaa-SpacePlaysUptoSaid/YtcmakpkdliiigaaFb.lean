/- The abstract operations of the walks: what each operation of a region does to abstract values and heaps. Definitions alone. -/
import Derived.Test.YtcmakpkdliiigaaFa
namespace Go.Fw
set_option maxHeartbeats 8000000
set_option linter.all false
open Go

abbrev St := List (Nat × AV)
def St.get : St → Nat → AV
  | [], _ => .junk
  | (u, x) :: r, t => if u = t then x else St.get r t
def St.put (s : St) (d : Option Nat) (x : AV) : St := match d with | none => s | some d => (d, x) :: s
def St.keep (s : St) : List Nat → St
  | [] => []
  | t :: l => (t, s.get t) :: St.keep s l

def ev (s : St) : Operand → AV
  | .tmp t => s.get t
  | .const c => .v c
  | .global g => .v (.pointer (some ⟨g, 0, none⟩))
  | .func f => .clo f []

/-- The cells of a value. -/
def AV.cells : AV → List AV
  | .agg cs => cs
  | .v (.agg a) => a.toList.map AV.v
  | x => [x]

def allCell : List AV → Bool
  | [] => true
  | x :: r => x.cell && allCell r

def isAggD : TypeDesc → Bool
  | .struct _ => true
  | .array _ _ => true
  | _ => false

def apick (c a b : AV) (K : AV → Prop) : Prop :=
  match c with
  | .v (.bool t) => (t = true → K a) ∧ (t = false → K b)
  | _ => False

def anil (x : AV) (K : AV → Prop) : Prop :=
  match x with
  | .ptr b es i f => K (.ptr b es i f)
  | .ip e f => K (.ip e f)
  | .clo f cs => K (.clo f cs)
  | .v (.pointer (some a)) => K (.v (.pointer (some a)))
  | _ => False

def aint (op : BinOp) (k : IntKind) (a b : Int) (K : AV → Prop) : Prop :=
  match op with
  | .add => K (.v (.int k (k.wrap (a + b))))
  | .sub => K (.v (.int k (k.wrap (a - b))))
  | .mul => K (.v (.int k (k.wrap (a * b))))
  | .quo => b ≠ 0 ∧ K (.v (.int k (k.wrap (a.tdiv b))))
  | .rem => b ≠ 0 ∧ K (.v (.int k (a.tmod b)))
  | .and => K (.v (.int k (k.wrap (BitVec.ofInt k.bits a &&& BitVec.ofInt k.bits b).toNat)))
  | .or => K (.v (.int k (k.wrap (BitVec.ofInt k.bits a ||| BitVec.ofInt k.bits b).toNat)))
  | .xor => K (.v (.int k (k.wrap (BitVec.ofInt k.bits a ^^^ BitVec.ofInt k.bits b).toNat)))
  | .eql => K (.v (.bool (a == b)))
  | .neq => K (.v (.bool (a != b)))
  | .lss => K (.v (.bool (decide (a < b))))
  | .leq => K (.v (.bool (decide (a ≤ b))))
  | .gtr => K (.v (.bool (decide (a > b))))
  | .geq => K (.v (.bool (decide (a ≥ b))))
  | _ => False

def astr (op : BinOp) (a b : ByteArray) (K : AV → Prop) : Prop :=
  match op with
  | .add => a.size + b.size ≤ 9223372036854775807 ∧ K (.v (.string (a ++ b)))
  | .eql => K (.v (.bool (a.toList == b.toList)))
  | .neq => K (.v (.bool (!(a.toList == b.toList))))
  | .lss => K (.v (.bool (Op.bytesLess a.toList b.toList)))
  | .leq => K (.v (.bool (Op.bytesLess a.toList b.toList || a.toList == b.toList)))
  | .gtr => K (.v (.bool (!(Op.bytesLess a.toList b.toList || a.toList == b.toList))))
  | .geq => K (.v (.bool (!(Op.bytesLess a.toList b.toList))))
  | _ => False

/-- Is it a pointer that is surely not nil? -/
def AV.isPtr : AV → Bool
  | .ptr _ _ _ _ => true
  | .ip _ _ => true
  | _ => false

def aeq (P : Program) (t : TypeId) (neg : Bool) (x y : AV) (K : AV → Prop) : Prop :=
  match P.underlying t, x, y with
  | some .bool, .v (.bool a), .v (.bool b) => K (.v (.bool ((a == b) != neg)))
  | some (.pointer _), .v (.pointer none), .v (.pointer none) => K (.v (.bool (!neg)))
  | some (.pointer _), x, .v (.pointer none) => x.isPtr = true ∧ K (.v (.bool neg))
  | some (.pointer _), .v (.pointer none), y => y.isPtr = true ∧ K (.v (.bool neg))
  | some (.slice _), .v (.slice none 0 0), .v (.slice none 0 0) => K (.v (.bool (!neg)))
  | some (.slice _), .ov (some _) _ _ _ _, .v (.slice none 0 0) => K (.v (.bool neg))
  | some (.slice _), .ov none _ _ _ _, .v (.slice none 0 0) => K (.v (.bool true)) ∧ K (.v (.bool false))
  | some (.slice _), .imm _ xs, .v (.slice none 0 0) => K (.v (.bool neg)) ∧ (xs = [] → K (.v (.bool (!neg))))
  | _, _, _ => False

def abin (P : Program) (op : BinOp) (t : TypeId) (x y : AV) (K : AV → Prop) : Prop :=
  match op, x, y with
  | .shl, .v (.int k a), .v (.int _ n) => 0 ≤ n ∧ K (.v (.int k (k.wrap (a * 2 ^ (min n.toNat k.bits)))))
  | .shr, .v (.int k a), .v (.int _ n) => 0 ≤ n ∧ K (.v (.int k (a.fdiv (2 ^ (min n.toNat k.bits)))))
  | op, .v (.int k a), .v (.int k' b) => k = k' ∧ aint op k a b K
  | op, .v (.string a), .v (.string b) => astr op a b K
  | .eql, x, y => aeq P t false x y K
  | .neq, x, y => aeq P t true x y K
  | _, _, _ => False

def aun (op : UnOp) (x : AV) (K : AV → Prop) : Prop :=
  match op, x with
  | .not, .v (.bool b) => K (.v (.bool (!b)))
  | .neg, .v (.int k n) => K (.v (.int k (k.wrap (0 - n))))
  | .xor, .v (.int k n) => aint .xor k (if k.signed then -1 else k.max) n K
  | _, _ => False

/-- The row of cells that a pointer points into, and where. -/
def arow (x : AV) (H : AH) (K : List AV → Nat → Prop) : Prop :=
  match x with
  | .ptr b es i f => match H b with
    | some o => o.es = es ∧ ∃ e, o.xs[i]? = some e ∧ K e f
    | none => False
  | .ip e f => K e f
  | _ => False

def acut (P : Program) (t : TypeId) (e : List AV) (f : Nat) (K : AV → Prop) : Prop :=
  match P.underlying t with
  | some d => if isAggD d = true then f + P.cellsOf t ≤ e.length ∧ K (.agg ((e.drop f).take (P.cellsOf t))) else ∃ c, e[f]? = some c ∧ K c
  | none => False

def aload (P : Program) (t : TypeId) (x : AV) (H : AH) (K : AV → Prop) : Prop :=
  arow x H fun e f => acut P t e f K

def splice (e : List AV) (f : Nat) (cs : List AV) : List AV := e.take f ++ cs ++ e.drop (f + cs.length)

def astore (P : Program) (t : TypeId) (x y : AV) (H : AH) (K : AH → Prop) : Prop :=
  match x with
  | .ptr b es i f => match H b with
    | some o => o.es = es ∧ P.cellsOf t ≠ 0 ∧ ∃ e, o.xs[i]? = some e ∧ y.cells.length = P.cellsOf t ∧ f + P.cellsOf t ≤ e.length ∧ allCell y.cells = true ∧ K (H.set b ⟨es, o.xs.set i (splice e f y.cells)⟩)
    | none => False
  | _ => False

def afld (P : Program) (t : TypeId) (x : AV) (f : Nat) (K : AV → Prop) : Prop :=
  match P.underlying t with
  | some (.struct fs) => match fs[f]? with
    | some fd => P.cellsOf fd.type ≠ 0 ∧ (match x with
      | .ptr b es i g => K (.ptr b es i (g + fd.offset))
      | .ip e g => K (.ip e (g + fd.offset))
      | _ => False)
    | none => False
  | _ => False

def afield (P : Program) (t : TypeId) (x : AV) (f : Nat) (K : AV → Prop) : Prop :=
  match P.underlying t with
  | some (.struct fs) => match fs[f]? with
    | some fd => (match x with
      | .agg cs => acut P fd.type cs fd.offset K
      | .v (.agg a) => acut P fd.type (a.toList.map AV.v) fd.offset K
      | _ => False)
    | none => False
  | _ => False

def aidx (P : Program) (t : TypeId) (x i : AV) (K : AV → Prop) : Prop :=
  match P.underlying t with
  | some (.slice el) => (match x, i with
    | .ov (some b) off es n _, .v (.int _ k) => es = P.cellsOf el ∧ P.cellsOf el ≠ 0 ∧ 0 ≤ k ∧ k < n ∧ K (.ptr b es (off + k.toNat) 0)
    | .imm es xs, .v (.int _ k) => es = P.cellsOf el ∧ P.cellsOf el ≠ 0 ∧ 0 ≤ k ∧ ∃ e, xs[k.toNat]? = some e ∧ K (.ip e 0)
    | _, _ => False)
  | some (.array n el) => (match x, i with
    | .ptr b es j f, .v (.int _ k) => P.cellsOf el ≠ 0 ∧ 0 ≤ k ∧ k < n ∧ K (.ptr b es j (f + k.toNat * P.cellsOf el))
    | _, _ => False)
  | _ => False

def aindex (P : Program) (t : TypeId) (x i : AV) (K : AV → Prop) : Prop :=
  match P.underlying t, x, i with
  | some .string, .v (.string s), .v (.int _ k) => 0 ≤ k ∧ ∃ c, s[k.toNat]? = some c ∧ K (.v (.int .u8 c.toNat))
  | _, _, _ => False

/-- A bound of a cut: not given, or a number. -/
def abnd (s : St) (x : Option Operand) (dflt : Nat) (hi : Nat) (K : Nat → Prop) : Prop :=
  match x with
  | none => K dflt
  | some o => match ev s o with
    | .v (.int _ k) => 0 ≤ k ∧ k ≤ hi ∧ K k.toNat
    | _ => False

def aslice (P : Program) (t : TypeId) (x : AV) (lo hi mx : Option Operand) (s : St) (K : AV → Prop) : Prop :=
  match P.underlying t, mx with
  | some .string, none => (match x with
    | .v (.string c) => abnd s hi c.size c.size fun h => abnd s lo 0 h fun l => K (.v (.string (c.extract l h)))
    | _ => False)
  | some (.slice el), none => (match x with
    | .ov (some b) off es n c => es = P.cellsOf el ∧ P.cellsOf el ≠ 0 ∧ abnd s hi n (c.getD n) fun h => abnd s lo 0 h fun l => (lo = none ∨ l < n ∨ (∃ k, c = some k ∧ l < k)) ∧ K (.ov (some b) (off + l) es (h - l) (c.map (· - l)))
    | .imm es xs => es = P.cellsOf el ∧ P.cellsOf el ≠ 0 ∧ abnd s hi xs.length xs.length fun h => abnd s lo 0 h fun l => K (.imm es ((xs.take h).drop l))
    | .ov none _ es _ _ => P.cellsOf el ≠ 0 ∧ abnd s hi 0 0 fun h => abnd s lo 0 h fun _ => K (.ov none 0 es 0 none)
    | .v (.slice none 0 0) => P.cellsOf el ≠ 0 ∧ abnd s hi 0 0 fun h => abnd s lo 0 h fun _ => K (.v (.slice none 0 0))
    | _ => False)
  | some (.slice el), some m => P.cellsOf el ≠ 0 ∧ hi ≠ none ∧ (match x with
    | .ov (some b) off es n _ => es = P.cellsOf el ∧ abnd s (some m) n n fun m => abnd s hi n m fun h => abnd s lo 0 h fun l => if l < m then K (.ov (some b) (off + l) es (h - l) (some (m - l))) else K (.ov none 0 es 0 none)
    | .ov none _ es _ _ => abnd s (some m) 0 0 fun m => abnd s hi 0 m fun h => abnd s lo 0 h fun _ => K (.ov none 0 es 0 none)
    | .imm es xs => es = P.cellsOf el ∧ abnd s (some m) xs.length xs.length fun m => abnd s hi xs.length m fun h => abnd s lo 0 h fun l => K (.imm es ((xs.take h).drop l))
    | .v (.slice none 0 0) => abnd s (some m) 0 0 fun m => abnd s hi 0 m fun h => abnd s lo 0 h fun _ => K (.v (.slice none 0 0))
    | _ => False)
  | _, _ => False

def zeros (P : Program) (t : TypeId) : Option (List AV) := ((P.info? t).bind (·.zero)).map fun z => z.cells.toList.map AV.v

def fresh (H : AH) (b : Nat) : Prop := H b = none

def abox (x : AV) (H : AH) (K : AV → AH → Prop) : Prop :=
  allCell x.cells = true ∧ ∀ b, fresh H b → K (.ptr b x.cells.length 0 0) (H.set b ⟨x.cells.length, [x.cells]⟩)

def aalloc (P : Program) (t : TypeId) (H : AH) (K : AV → AH → Prop) : Prop :=
  match zeros P t with
  | some cs => allCell cs = true ∧ ∀ b, fresh H b → K (.ptr b cs.length 0 0) (H.set b ⟨cs.length, [cs]⟩)
  | none => False

def amake (P : Program) (t : TypeId) (l c : AV) (H : AH) (K : AV → AH → Prop) : Prop :=
  match P.underlying t, l, c with
  | some (.slice el), .v (.int .i64 n), .v (.int .i64 m) => (match zeros P el with
    | some z => 0 ≤ n ∧ n ≤ m ∧ m * P.bytesOf el ≤ 281474976710656 ∧ m ≤ 9223372036854775807 ∧ 0 < z.length ∧ z.length = P.cellsOf el ∧ allCell z = true ∧
        ∀ b, fresh H b → K (.ov (some b) 0 (P.cellsOf el) n.toNat (some m.toNat)) (H.set b ⟨P.cellsOf el, List.replicate m.toNat z⟩)
    | none => False)
  | _, _, _ => False

def sizedF (P : Program) : List Field → Prop
  | [] => True
  | f :: r => P.cellsOf f.type ≠ 0 ∧ sizedF P r

def afill (P : Program) (fs : Array Field) (s : St) : List (Nat × Operand) → List AV → Option (List AV)
  | [], cs => some cs
  | (i, x) :: r, cs =>
    match fs[i]? with
    | some fd => let y := (ev s x).cells
      if y.length = P.cellsOf fd.type ∧ fd.offset + y.length ≤ cs.length ∧ allCell y = true then afill P fs s r (splice cs fd.offset y) else none
    | none => none

def afillA (es : Nat) (s : St) : List (Nat × Operand) → List AV → Option (List AV)
  | [], cs => some cs
  | (i, x) :: r, cs =>
    let y := (ev s x).cells
    if y.length = es ∧ i * es + y.length ≤ cs.length ∧ allCell y = true then afillA es s r (splice cs (i * es) y) else none

def abuild (P : Program) (t : TypeId) (ps : Array (Nat × Operand)) (s : St) (K : AV → Prop) : Prop :=
  match P.underlying t, zeros P t with
  | some (.struct fs), some z => sizedF P fs.toList ∧ allCell z = true ∧ (match afill P fs s ps.toList z with
    | some cs => K (.agg cs)
    | none => False)
  | some (.array _ el), some z => P.cellsOf el ≠ 0 ∧ allCell z = true ∧ (match afillA (P.cellsOf el) s ps.toList z with
    | some cs => K (.agg cs)
    | none => False)
  | _, _ => False

def afillS (es : Nat) (s : St) : List (Nat × Operand) → List (List AV) → Option (List (List AV))
  | [], cs => some cs
  | (i, x) :: r, cs =>
    let y := (ev s x).cells
    if y.length = es ∧ i < cs.length ∧ allCell y = true then afillS es s r (cs.set i y) else none

def abuildS (P : Program) (t : TypeId) (n : Nat) (ps : Array (Nat × Operand)) (s : St) (K : AV → Prop) : Prop :=
  match P.underlying t with
  | some (.slice el) => (match zeros P el with
    | some z => 0 < z.length ∧ z.length = P.cellsOf el ∧ allCell z = true ∧ n * z.length ≤ 16777216 ∧ (match afillS z.length s ps.toList (List.replicate n z) with
      | some xs => if n = 0 then K (.ov none 0 z.length 0 none) else K (.imm z.length xs)
      | none => False)
    | none => False)
  | _ => False

def aext (x : AV) (i : Nat) (K : AV → Prop) : Prop :=
  match x with
  | .tup cs => ∃ c, cs[i]? = some c ∧ K c
  | .v (.tuple a) => ∃ c, a[i]? = some c ∧ K (.v c)
  | _ => False

def alen (P : Program) (t : TypeId) (x : AV) (K : AV → Prop) : Prop :=
  match P.underlying t, x with
  | some .string, .v (.string s) => K (.v (.int .i64 s.size))
  | some (.slice _), .ov _ _ _ n _ => K (.v (.int .i64 n))
  | some (.slice _), .imm _ xs => K (.v (.int .i64 xs.length))
  | some (.slice _), .v (.slice _ n _) => K (.v (.int .i64 n))
  | some (.array n _), _ => K (.v (.int .i64 n))
  | _, _ => False

def AH.own (H : AH) (b : Option Nat) (o : AObj) : AH := match b with | none => H | some b => H.set b o

/-- The elements that are appended. -/
def asrc (x : AV) (H : AH) (es : Nat) (K : List (List AV) → Prop) : Prop :=
  match x with
  | .imm es' xs => es' = es ∧ K xs
  | .v (.slice none 0 0) => K []
  | .v (.string s) => es = 1 ∧ K (s.toList.map fun c => [.v (.int .u8 c.toNat)])
  | .ov none _ _ _ _ => K []
  | .ov (some b) off es' n _ => (match H b with
    | some o => o.es = es' ∧ es' = es ∧ off + n ≤ o.xs.length ∧ K ((o.xs.drop off).take n)
    | none => False)
  | _ => False

/-- Where what is appended to is given up: a vector that begins at its block's head. -/
def adst (x : AV) (H : AH) (es : Nat) (K : List (List AV) → Option Nat → AH → Prop) : Prop :=
  match x with
  | .v (.slice none 0 0) => K [] none H
  | .ov none _ _ _ _ => K [] none H
  | .ov (some b) 0 es' n _ => (match H b with
    | some o => o.es = es' ∧ es' = es ∧ n ≤ o.xs.length ∧ K (o.xs.take n) (some b) (H.del b)
    | none => False)
  | _ => False

def aapp (P : Program) (ts : Array TypeId) (d x : AV) (H : AH) (K : AV → AH → Prop) : Prop :=
  match ts[0]? with
  | some t => (match P.underlying t with
    | some (.slice el) => (match zeros P el, ts[1]? with
      | some z, some u => (match P.underlying u with
        | some (.int _) => False
        | some _ => 0 < z.length ∧ z.length = P.cellsOf el ∧ allCell z = true ∧ asrc x H z.length fun new => adst d H z.length fun old _ H' =>
            (old.length + new.length) * P.bytesOf el ≤ 140737488355328 ∧ old.length + new.length ≤ 9223372036854775807 ∧
            ∀ ob, (∀ b, ob = some b → fresh H' b) → (ob = none → old ++ new = []) →
              K (.ov ob 0 z.length (old.length + new.length) none) (H'.own ob ⟨z.length, old ++ new⟩)
        | none => False)
      | _, _ => False)
    | _ => False)
  | none => False

def acall (P : Program) (c : Call) (s : St) (H : AH) (K : AV → AH → Prop) : Prop :=
  match c.callee with
  | .value f => (match ev s f with
    | .clo g cs => CallOK P g (c.args.toList.map (ev s) ++ cs) H K
    | _ => False)
  | .builtin .len => (match c.argTypes[0]?, c.args[0]? with
    | some t, some x => alen P t (ev s x) (K · H)
    | _, _ => False)
  | .builtin .append => (match c.args[0]?, c.args[1]? with
    | some d, some x => aapp P c.argTypes (ev s d) (ev s x) H K
    | _, _ => False)
  | _ => False

def aconv (P : Program) (a b : TypeId) (x : AV) (K : AV → Prop) : Prop :=
  match P.underlying a, P.underlying b, x with
  | some _, some (.int k), .v (.int _ n) => K (.v (.int k (k.wrap n)))
  | some _, some .string, .v (.string s) => K (.v (.string s))
  | _, _, _ => False

def aop (P : Program) (op : Op) (s : St) (H : AH) (K : AV → AH → Prop) : Prop :=
  match op with
  | .move x => K (ev s x) H
  | .assign x => K (ev s x) H
  | .pick c a b => apick (ev s c) (ev s a) (ev s b) (K · H)
  | .nilCheck x => anil (ev s x) (K · H)
  | .binOp op t x y _ => abin P op t (ev s x) (ev s y) (K · H)
  | .unOp op _ x => aun op (ev s x) (K · H)
  | .convert a b x => aconv P a b (ev s x) (K · H)
  | .load t x => aload P t (ev s x) H (K · H)
  | .store t x y => astore P t (ev s x) (ev s y) H (K .junk)
  | .fieldAddr t x f => afld P t (ev s x) f (K · H)
  | .field t x f => afield P t (ev s x) f (K · H)
  | .indexAddr t x i => aidx P t (ev s x) (ev s i) (K · H)
  | .index t x i => aindex P t (ev s x) (ev s i) (K · H)
  | .slice t x lo hi mx => aslice P t (ev s x) lo hi mx s (K · H)
  | .makeSlice t l c => amake P t (ev s l) (ev s c) H K
  | .build t ps => abuild P t ps s (K · H)
  | .buildSlice t n ps => abuildS P t n ps s (K · H)
  | .box _ x => abox (ev s x) H K
  | .alloc t => aalloc P t H K
  | .extract x i => aext (ev s x) i (K · H)
  | .makeFunc (.func f) first cs => first = #[] ∧ K (.clo f (cs.toList.map (ev s))) H
  | .call c => acall P c s H K
  | _ => False

/-- The slot of the operation that a guard looks at. -/
def gslot (all : List Oper) (j : Nat) : Option Nat := (all[j]?).bind (·.dst)

def inN (n : Nat) : Option Nat → Prop
  | none => True
  | some d => d < n

/-- A statement that is looked into only where it is asked to be. -/
structure Hide (p : Prop) : Prop where
  out : p

/-- A region in the text's order. -/
def areg (P : Program) (n : Nat) (all : List Oper) : List Oper → St → AH → (St → AH → Prop) → Prop
  | [], s, H, K => K s H
  | o :: r, s, H, K =>
    inN n o.dst ∧
    (match o.guard with
     | none => aop P o.op s H fun x H' => Hide (areg P n all r (s.put o.dst x) H' K)
     | some (j, want) => (match gslot all j with
       | some d => (match s.get d with
         | .v (.bool c) =>
           (c = want → aop P o.op s H fun x H' => Hide (areg P n all r (s.put o.dst x) H' K)) ∧
           (c = !want → Hide (areg P n all r (s.put o.dst .junk) H K))
         | _ => False)
       | none => False))

end Go.Fw
