/- A region whose order Go leaves open: one order is walked; what may come up elsewhere is asked there, too. -/
import Derived.Test.YtcmakpkdliiigaaFn
namespace Go.Fw
set_option maxHeartbeats 8000000
set_option linter.all false
open Go

variable {P : Program} {w w0 : World} {O O0 D0 : Nat → Prop} {H : AH} {s s' : St} {a : Act} {n : Nat} {t : TypeId}

/-- What an operation looks at: its operands' slots, its guard's slot. -/
def looks (all : List Oper) (o : Oper) : List Nat :=
  (o.op.operands.toList.filterMap fun | .tmp t => some t | _ => none) ++ (match o.guard with
    | some (g, _) => (gslot all g).toList
    | none => [])

inductive Item where
  | a (i : Nat)
  | e (i : Nat) (chk : List Nat)

def Item.i : Item → Nat
  | .a i => i
  | .e i _ => i

def gon (all : List Oper) (o : Oper) (s : St) : Option Bool :=
  match o.guard with
  | none => some true
  | some (j, want) => (match gslot all j with
    | some d => (match s.get d with
      | .v (.bool c) => some (c == want)
      | _ => none)
    | none => none)

/-- An operation that was walked already may also come up here: it yields the same. -/
def fit (P : Program) (all : List Oper) (s : St) (H : AH) (q : Nat) : Prop :=
  match all[q]? with
  | some o => ∃ g, gon all o s = some g ∧ (g = true → aop P o.op s H fun x _ => ∀ d, o.dst = some d → s.get d = x) ∧ (g = false → ∀ d, o.dst = some d → s.get d = .junk)
  | none => False

def fits (P : Program) (all : List Oper) (s : St) (H : AH) : List Nat → Prop
  | [] => True
  | q :: l => fit P all s H q ∧ fits P all s H l

theorem fits_mem {l : List Nat} {all : List Oper} (h : fits P all s H l) : ∀ q ∈ l, fit P all s H q := by
  induction l with
  | nil => intro q hq; cases hq
  | cons x l ih =>
    intro q hq
    rcases List.mem_cons.1 hq with rfl | hq
    · exact h.1
    · exact ih h.2 q hq

def aregD (P : Program) (n : Nat) (all : List Oper) : List Item → St → AH → (St → AH → Prop) → Prop
  | [], s, H, K => K s H
  | .a i :: r, s, H, K => (match all[i]? with
    | some o => inN n o.dst ∧ ∃ g, gon all o s = some g ∧ (g = true → aop P o.op s H fun x _ => Hide (aregD P n all r (s.put o.dst x) H K)) ∧ (g = false → Hide (aregD P n all r (s.put o.dst .junk) H K))
    | none => False)
  | .e i chk :: r, s, H, K => (match all[i]? with
    | some o => inN n o.dst ∧ ∃ g, gon all o s = some g ∧ (g = true → aop P o.op s H fun x H' => fits P all (s.put o.dst x) H' chk ∧ Hide (aregD P n all r (s.put o.dst x) H' K)) ∧ (g = false → Hide (aregD P n all r (s.put o.dst .junk) H K))
    | none => False)

def edges (o : Oper) : List Nat := (o.after.toList.filter (Region.binds .any)).map (·.on)

/-- The masks of what comes ahead of each operation. -/
def maskOk (all : List Oper) (M : List Nat) : Bool :=
  (List.range all.length).all fun i => (match all[i]? with
    | some o => M.getD i 0 == (edges o).foldl (fun s k => s ||| 2 ^ k ||| M.getD k 0) 0
    | none => true)

def ok1 (all : List Oper) : List Nat → List Item → Bool
  | _, [] => true
  | seen, it :: r => (match all[it.i]? with | some o => (edges o).all fun k => seen.contains k | none => false) && ok1 all (it.i :: seen) r

def after (M : List Nat) (last : Option Nat) (i : Nat) : Bool := match last with
  | none => true
  | some e => (M.getD i 0).testBit e

def ok2 (M : List Nat) : Option Nat → List Nat → List Item → Bool
  | _, _, [] => true
  | last, asy, .a i :: r => after M last i && ok2 M last (i :: asy) r
  | last, asy, .e i chk :: r => after M last i && (asy.all fun q => (M.getD i 0).testBit q || chk.contains q) && ok2 M (some i) asy r

def names (all : List Oper) (o : Oper) (d : Nat) : Bool := (looks all o).contains d || o.dst == some d

def ok3 (P : Program) (n : Nat) (all : List Oper) (M : List Nat) : Item → Bool
  | .a i => (match all[i]? with
    | some o => asyncOp P o.op && (match o.dst with
      | some d => decide (d < n) && !(looks all o).contains d && (List.range all.length).all fun j => j == i || !((all[j]?).any fun p => names all p d) || (M.getD j 0).testBit i
      | none => false)
    | none => false)
  | .e i _ => (match all[i]? with
    | some o => (match o.dst with
      | some d => (List.range all.length).all fun j => j == i || !((all[j]?).any fun p => names all p d) || (M.getD j 0).testBit i || (M.getD i 0).testBit j
      | none => true)
    | none => false)

def planOk (P : Program) (n : Nat) (all : List Oper) (M : List Nat) (plan : List Item) : Bool :=
  maskOk all M && decide ((plan.map Item.i).Nodup) && ((List.range all.length).all fun i => (plan.map Item.i).contains i) && ok1 all [] plan && ok2 M none [] plan && plan.all (ok3 P n all M)

end Go.Fw
