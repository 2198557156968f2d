/- Symbolic execution of the model's code, first text: values with named blocks, what they stand for, states, and the evaluator (a function that turns code into what is left to be shown). No program in sight. -/
import Derived.Calls
import Derived.Orders
namespace Go.Proofs.YtaeoibnbbpgajaaDoor.Sx

/-- A value as the evaluator sees it: its form is open, its numbers and texts are any terms. 'p n o': the cell o of the block that bears the name n. 'el A o': a cell of memory that stays. 'rw r len': the first len elements of the own row r. -/
inductive SV where
  | b (x : Bool)
  | i (k : IntKind) (n : Int)
  | s (x : ByteArray)
  | p (n o : Nat)
  | pj (n o j : Nat)
  | el (A : Option Addr) (o : Nat)
  | np
  | rw (r len : Nat)
  | sl (A : Option Addr) (len cap : Nat)
  | g (cs : List SV)
  | gi (n : Nat) (k : IntKind) (f : Nat → Int)
  | t (vs : List SV)
  | e (ty : TypeId) (x : SV)
  | ne
  | fn (f : FuncId) (first caught : List SV)
  | v (x : Value)
  deriving Inhabited

/-- Where a name's block or row lies: the address, a row's capacity, the block that is owned. -/
structure Place where
  A : Option Addr
  cap : Nat
  own : Option Nat
  deriving Inhabited
abbrev Names := Nat → Place

def ints (n : Nat) (k : IntKind) (f : Nat → Int) : List Value := (List.range n).map fun j => .int k (f j)

/-- The cells that a part takes: a row of numbers has as many as it counts. -/
def pc (x : SV) (v : Value) : List Value := match x with
  | .gi n k f => ints n k f
  | _ => [v]

mutual
def den (η : Names) : SV → Value
  | .b x => .bool x
  | .i k n => .int k n
  | .s x => .string x
  | .p n o => .pointer ((η n).A.map (·.add o))
  | .pj n o j => .pointer ((η n).A.map (·.add (o + j)))
  | .el A o => .pointer (A.map (·.add o))
  | .np => .pointer none
  | .rw r len => .slice (η r).A len (η r).cap
  | .sl A len cap => .slice A len cap
  | .g cs => .agg (dens η cs).toArray
  | .gi n k f => .agg (ints n k f).toArray
  | .t vs => .tuple (dent η vs).toArray
  | .e ty x => .iface ty (den η x)
  | .ne => .nilIface
  | .fn f first caught => .func (.func f) (dent η first).toArray (dent η caught).toArray
  | .v x => x
/-- The cells of a struct's parts, one behind the other; a row of numbers counts as many cells. -/
def dens (η : Names) : List SV → List Value
  | [] => []
  | x :: r => pc x (den η x) ++ dens η r
def dent (η : Names) : List SV → List Value
  | [] => []
  | x :: r => den η x :: dent η r
end

/-- A block of memory that is at the call's own disposal: known whole, or a row of which the first n elements (z cells each) are known. -/
inductive Ck where
  | st (e : TypeId) (cs : List SV)
  | row (e : TypeId) (z n : Nat) (xs : List Value)
  deriving Inhabited

/-- Memory that stays as it is from now on. -/
abbrev Mem := Nat → Option Obj

structure Slot where
  k : Nat
  tag : List (Nat × Bool)
  x : SV

structure St where
  sz : Nat
  t : List Slot
  gs : List (Nat × Bool × List (Nat × Bool))
  h : List (Nat × Ck)
  nx : Nat

/-- What the evaluator knows of a type. -/
structure TI where
  d : TypeDesc
  size : Nat
  bytes : Nat
  z : SV
  q : Bool

abbrev Tbl := List (TypeId × TI)
def Tbl.at : Tbl → TypeId → Option TI
  | [], _ => none
  | (u, i) :: r, t => match Nat.beq u t with
    | true => some i
    | false => Tbl.at r t

/-! ### looking up -/
def look : List Slot → Nat → Option (List (Nat × Bool) × SV)
  | [], _ => none
  | ⟨n, tag, x⟩ :: r, k => match Nat.beq n k with
    | true => some (tag, x)
    | false => look r k
def lookH : List (Nat × Ck) → Nat → Option Ck
  | [], _ => none
  | (n, c) :: r, k => match Nat.beq n k with
    | true => some c
    | false => lookH r k
def lookG : List (Nat × Bool × List (Nat × Bool)) → Nat → Option (Bool × List (Nat × Bool))
  | [], _ => none
  | (n, c) :: r, k => match Nat.beq n k with
    | true => some c
    | false => lookG r k

/-- How many cells a part takes. -/
def wid : SV → Nat
  | .gi n _ _ => n
  | _ => 1

/-! ### names -/
mutual
def ok (nx : Nat) : SV → Bool
  | .p n _ => Nat.blt n nx
  | .pj n _ _ => Nat.blt n nx
  | .rw n _ => Nat.blt n nx
  | .g cs => oks nx cs
  | .t cs => oks nx cs
  | .e _ x => ok nx x
  | .fn _ a c => oks nx a && oks nx c
  | _ => true
def oks (nx : Nat) : List SV → Bool
  | [] => true
  | x :: r => ok nx x && oks nx r
end
def okT (nx : Nat) : List Slot → Bool
  | [] => true
  | s :: r => ok nx s.x && okT nx r
def okC (nx : Nat) : Ck → Bool
  | .st _ cs => oks nx cs
  | .row .. => true
def okH (nx : Nat) : List (Nat × Ck) → Bool
  | [] => true
  | (n, c) :: r => Nat.blt n nx && okC nx c && okH nx r

/-! ### forcing: the evaluator goes on with the value's own form -/
def force (x : SV) (K : SV → Prop) : Prop := match x with
  | .b x => K (.b x)
  | .i k n => K (.i k n)
  | .s x => K (.s x)
  | .p n o => K (.p n o)
  | .pj n o j => K (.pj n o j)
  | .el A o => K (.el A o)
  | .np => K .np
  | .rw r l => K (.rw r l)
  | .sl A l c => K (.sl A l c)
  | .g cs => K (.g cs)
  | .gi n k f => K (.gi n k f)
  | .t vs => K (.t vs)
  | .e ty x => K (.e ty x)
  | .ne => K .ne
  | .fn f a c => K (.fn f a c)
  | .v x => K (.v x)
theorem force_eq (x : SV) (K : SV → Prop) : force x K = K x := by cases x <;> rfl

def forceN (n : Nat) (K : Nat → Prop) : Prop := match n with
  | 0 => K 0
  | k + 1 => K (k + 1)
theorem forceN_eq (n : Nat) (K : Nat → Prop) : forceN n K = K n := by cases n <;> rfl

/-- A constant as the evaluator sees it. -/
def ofV : Value → SV
  | .bool x => .b x
  | .int k n => .i k n
  | .string x => .s x
  | .pointer none => .np
  | .slice A l c => .sl A l c
  | .nilIface => .ne
  | x => .v x
theorem den_ofV (η : Names) (x : Value) : den η (ofV x) = x := by
  cases x <;> first | rfl | (rename_i a; cases a <;> rfl)

/-! ### parts of a list of parts -/
/-- The part that begins at cell o, forced; nothing if no part begins there. -/
def partAt : List SV → Nat → (SV → Prop) → Prop
  | [], _, _ => False
  | x :: r, o, K => match Nat.beq o 0 with
    | true => force x K
    | false => match Nat.ble (wid x) o with
      | true => partAt r (o - wid x) K
      | false => False
/-- The parts of the n cells from o on. -/
def takeN : List SV → Nat → (List SV → Prop) → Prop
  | _, 0, K => K []
  | [], _ + 1, _ => False
  | x :: r, n + 1, K => match Nat.ble (wid x) (n + 1) with
    | true => force x fun x => takeN r (n + 1 - wid x) fun l => K (x :: l)
    | false => False
def dropN : List SV → Nat → (List SV → Prop) → Prop
  | l, 0, K => K l
  | [], _ + 1, _ => False
  | x :: r, n + 1, K => match Nat.ble (wid x) (n + 1) with
    | true => dropN r (n + 1 - wid x) K
    | false => False
end Go.Proofs.YtaeoibnbbpgajaaDoor.Sx
