/- Symbolic execution of the model's code, first text: values with named blocks, what they stand for, states, and the evaluator (a function that turns code into what is left to be shown). No program in sight. Then: Symbolic execution, second text: the evaluator of operations. Each function hands what comes out to its continuation, in open form; a condition is laid ahead of it. Symbolic execution, third text: operations that make or write memory, calls, regions, code. Symbolic execution, fourth text: regions and code. Symbolic execution, fifth text: what holds of a state, and that what looks at no more than memory is evaluated rightly. Symbolic execution, sixth text: the quiet operations are evaluated rightly, part one: operands, arithmetic, parts. Symbolic execution, seventh text: the quiet operations are evaluated rightly, part two: parts of blocks, loads, addresses. Symbolic execution, eighth text: the quiet operations are evaluated rightly, part three: loads, addresses, slices, built-ins. Symbolic execution, ninth text: the quiet operations are evaluated rightly, part four. Symbolic execution, tenth text: literals of structs and arrays; every quiet operation is evaluated rightly. Symbolic execution: equality of structs and arrays, and of a slice with nil, is evaluated rightly. Symbolic execution, eleventh text: every quiet operation is evaluated rightly. Symbolic execution, twelfth text: new names, new blocks, stores: what holds behind them. Symbolic execution, thirteenth text: new blocks and stores, as operations. Symbolic execution, fourteenth text: rows: make, literals of slices, append. -/
import Derived.Calls
import Derived.Orders
import Derived.Laws.Entries
import Derived.WalkKit
import Derived.ChangeKeysEq
import Derived.Laws.StructEq
import Derived.Lib.LazyBuf
import Derived.Laws.IdiomStrings
import Derived.Laws.BytesArg
namespace Go.Proofs.Ytjpjiniclibgkaa.Sx

/-- A value as the evaluator sees it: its form is open, its numbers and texts are any terms. 'p n o': the cell o of the block that bears the name n. 'el A o': a cell of memory that stays. 'rw r len': the first len elements of the own row r. -/
inductive SV where
  | b (x : Bool)
  | i (k : IntKind) (n : Int)
  | s (x : ByteArray)
  | p (n o : Nat)
  | pj (n o j : Nat)
  | el (A : Option Addr) (o : Nat)
  | np
  | rw (r len : Nat)
  | sl (A : Option Addr) (len cap : Nat)
  | g (cs : List SV)
  | gi (n : Nat) (k : IntKind) (f : Nat → Int)
  | t (vs : List SV)
  | e (ty : TypeId) (x : SV)
  | ne
  | fn (f : FuncId) (first caught : List SV)
  | v (x : Value)
  | kb (x : Bool)
  | ud
  deriving Inhabited

/-- Where a name's block or row lies: the address, a row's capacity, the block that is owned. -/
structure Place where
  A : Option Addr
  cap : Nat
  own : Option Nat
  deriving Inhabited
abbrev Names := Nat → Place

def ints (n : Nat) (k : IntKind) (f : Nat → Int) : List Value := (List.range n).map fun j => .int k (f j)

/-- The cells that a part takes: a row of numbers has as many as it counts. -/
def pc (x : SV) (v : Value) : List Value := match x with
  | .gi n k f => ints n k f
  | _ => [v]

mutual
def den (η : Names) : SV → Value
  | .b x => .bool x
  | .i k n => .int k n
  | .s x => .string x
  | .p n o => .pointer ((η n).A.map (·.add o))
  | .pj n o j => .pointer ((η n).A.map (·.add (o + j)))
  | .el A o => .pointer (A.map (·.add o))
  | .np => .pointer none
  | .rw r len => .slice (η r).A len (η r).cap
  | .sl A len cap => .slice A len cap
  | .g cs => .agg (dens η cs).toArray
  | .gi n k f => .agg (ints n k f).toArray
  | .t vs => .tuple (dent η vs).toArray
  | .e ty x => .iface ty (den η x)
  | .ne => .nilIface
  | .fn f first caught => .func (.func f) (dent η first).toArray (dent η caught).toArray
  | .v x => x
  | .kb x => .bool x
  | .ud => undef
/-- The cells of a struct's parts, one behind the other; a row of numbers counts as many cells. -/
def dens (η : Names) : List SV → List Value
  | [] => []
  | x :: r => pc x (den η x) ++ dens η r
def dent (η : Names) : List SV → List Value
  | [] => []
  | x :: r => den η x :: dent η r
end

/-- A block of memory that is at the call's own disposal: known whole, or a row of which the first n elements (z cells each) are known. -/
inductive Ck where
  | st (e : TypeId) (cs : List SV)
  | row (e : TypeId) (z n : Nat) (xs : List Value)
  deriving Inhabited

/-- Memory that stays as it is from now on. -/
abbrev Mem := Nat → Option Obj

structure Slot where
  k : Nat
  tag : List (Nat × Bool)
  x : SV

structure St where
  sz : Nat
  t : List Slot
  gs : List (Nat × Bool × List (Nat × Bool))
  h : List (Nat × Ck)
  nx : Nat

/-- What the evaluator knows of a type. -/
structure TI where
  d : TypeDesc
  size : Nat
  bytes : Nat
  z : SV
  q : Bool

abbrev Tbl := List (TypeId × TI)
def Tbl.at : Tbl → TypeId → Option TI
  | [], _ => none
  | (u, i) :: r, t => match Nat.beq u t with
    | true => some i
    | false => Tbl.at r t

/-! ### looking up -/
def look : List Slot → Nat → Option (List (Nat × Bool) × SV)
  | [], _ => none
  | ⟨n, tag, x⟩ :: r, k => match Nat.beq n k with
    | true => some (tag, x)
    | false => look r k
def lookH : List (Nat × Ck) → Nat → Option Ck
  | [], _ => none
  | (n, c) :: r, k => match Nat.beq n k with
    | true => some c
    | false => lookH r k
def lookG : List (Nat × Bool × List (Nat × Bool)) → Nat → Option (Bool × List (Nat × Bool))
  | [], _ => none
  | (n, c) :: r, k => match Nat.beq n k with
    | true => some c
    | false => lookG r k

/-- How many cells a part takes. -/
def wid : SV → Nat
  | .gi n _ _ => n
  | _ => 1

/-! ### names -/
mutual
def ok (nx : Nat) : SV → Bool
  | .p n _ => Nat.blt n nx
  | .pj n _ _ => Nat.blt n nx
  | .rw n _ => Nat.blt n nx
  | .g cs => oks nx cs
  | .t cs => oks nx cs
  | .e _ x => ok nx x
  | .fn _ a c => oks nx a && oks nx c
  | _ => true
def oks (nx : Nat) : List SV → Bool
  | [] => true
  | x :: r => ok nx x && oks nx r
end
def okT (nx : Nat) : List Slot → Bool
  | [] => true
  | s :: r => ok nx s.x && okT nx r
def okC (nx : Nat) : Ck → Bool
  | .st _ cs => oks nx cs
  | .row .. => true
def okH (nx : Nat) : List (Nat × Ck) → Bool
  | [] => true
  | (n, c) :: r => Nat.blt n nx && okC nx c && okH nx r

/-! ### forcing: the evaluator goes on with the value's own form -/
def force (x : SV) (K : SV → Prop) : Prop := match x with
  | .b x => K (.b x)
  | .i k n => K (.i k n)
  | .s x => K (.s x)
  | .p n o => K (.p n o)
  | .pj n o j => K (.pj n o j)
  | .el A o => K (.el A o)
  | .np => K .np
  | .rw r l => K (.rw r l)
  | .sl A l c => K (.sl A l c)
  | .g cs => K (.g cs)
  | .gi n k f => K (.gi n k f)
  | .t vs => K (.t vs)
  | .e ty x => K (.e ty x)
  | .ne => K .ne
  | .fn f a c => K (.fn f a c)
  | .v x => K (.v x)
  | .kb x => K (.kb x)
  | .ud => K .ud
theorem force_eq (x : SV) (K : SV → Prop) : force x K = K x := by cases x <;> rfl

def forceN (n : Nat) (K : Nat → Prop) : Prop := match n with
  | 0 => K 0
  | k + 1 => K (k + 1)
theorem forceN_eq (n : Nat) (K : Nat → Prop) : forceN n K = K n := by cases n <;> rfl

/-- A constant as the evaluator sees it. -/
def ofV : Value → SV
  | .bool x => .b x
  | .int k n => .i k n
  | .string x => .s x
  | .pointer none => .np
  | .slice A l c => .sl A l c
  | .nilIface => .ne
  | x => .v x
theorem den_ofV (η : Names) (x : Value) : den η (ofV x) = x := by
  cases x <;> first | rfl | (rename_i a; cases a <;> rfl)

/-! ### parts of a list of parts -/
/-- The part that begins at cell o, forced; nothing if no part begins there. -/
def partAt : List SV → Nat → (SV → Prop) → Prop
  | [], _, _ => False
  | x :: r, o, K => match Nat.beq o 0 with
    | true => force x K
    | false => match Nat.ble (wid x) o with
      | true => partAt r (o - wid x) K
      | false => False
/-- The parts of the n cells from o on. -/
def takeN : List SV → Nat → (List SV → Prop) → Prop
  | _, 0, K => K []
  | [], _ + 1, _ => False
  | x :: r, n + 1, K => match Nat.ble (wid x) (n + 1) with
    | true => force x fun x => takeN r (n + 1 - wid x) fun l => K (x :: l)
    | false => False
def dropN : List SV → Nat → (List SV → Prop) → Prop
  | l, 0, K => K l
  | [], _ + 1, _ => False
  | x :: r, n + 1, K => match Nat.ble (wid x) (n + 1) with
    | true => dropN r (n + 1 - wid x) K
    | false => False
end Go.Proofs.Ytjpjiniclibgkaa.Sx

namespace Go.Proofs.Ytjpjiniclibgkaa.Sx

abbrev Tag := List (Nat × Bool)
abbrev Gs := List (Nat × Bool × Tag)

/-- Whether a tag's tests all came out as the tag says. -/
def tagB (gs : Gs) : Tag → Bool
  | [] => true
  | (j, w) :: r => (match lookG gs j with
    | some (g, _) => g == w
    | none => false) && tagB gs r
/-- A condition under a tag. -/
def gc (gs : Gs) (tag : Tag) (c : Prop) : Prop := match tag with
  | [] => c
  | t :: r => tagB gs (t :: r) = true → c
def memT (j : Nat) (w : Bool) : Tag → Bool
  | [] => false
  | (i, u) :: r => match Nat.beq i j with
    | true => match u, w with
      | true, true => true
      | false, false => true
      | _, _ => memT j w r
    | false => memT j w r
def subT : Tag → Tag → Bool
  | [], _ => true
  | (j, w) :: r, tag => match memT j w tag with
    | true => subT r tag
    | false => false

/-- A byte of a text. -/
def sb (s : ByteArray) (i : Int) : Int := ((s.data.toList.getD i.toNat 0).toNat : Int)

def mcell (m : Mem) (a : Addr) : Option Value := match m a.block with
  | some (.cells c _ _) => if a.spot.isSome then none else c[a.off]?
  | _ => none
/-- n cells of lasting memory, from cell o behind A on. -/
def rdM (m : Mem) (A : Option Addr) (o n : Nat) (vs : List Value) : Prop :=
  ∃ a, A = some a ∧ vs.length = n ∧ ∀ (j : Nat) (u : Value), vs[j]? = some u → mcell m (a.add (o + j)) = some u

/-! ### values without names -/
mutual
def cl : SV → Bool
  | .p _ _ => false
  | .pj _ _ _ => false
  | .rw _ _ => false
  | .g cs => cls cs
  | .t cs => cls cs
  | .e _ x => cl x
  | .fn _ a c => cls a && cls c
  | _ => true
def cls : List SV → Bool
  | [] => true
  | x :: r => cl x && cls r
end
def η0 : Names := fun _ => default
/-- The cells of a value without names. -/
def cellsV (x : SV) : List Value := match x with
  | .g cs => dens η0 cs
  | x => [den η0 x]
def isG : SV → Bool
  | .g _ => true
  | _ => false
def isGi : SV → Bool
  | .gi _ _ _ => true
  | _ => false
def plainB : SV → Bool
  | .g _ => false
  | .gi _ _ _ => false
  | .t _ => false
  | .v x => x.oneCell'
  | .ud => false
  | _ => true

/-- Parts that are cells each. -/
def plains : List SV → Bool
  | [] => true
  | x :: r => (plainB x || isGi x) && plains r
def isGp : SV → Bool
  | .g cs => plains cs
  | _ => false
/-- A value that can be stored into a variable of a type that is (or isn't) a struct or an array. -/
def fitsB (agg : Bool) (x : SV) : Bool := match agg with
  | true => isGp x
  | false => plainB x

def aggD : TypeDesc → Bool
  | .struct _ => true
  | .array _ _ => true
  | _ => false

/-! ### operands -/
/-- A test that is decided is a test. -/
def normB (x : SV) (K : SV → Prop) : Prop := match x with
  | .kb b => K (.b b)
  | x => K x
theorem normB_out {x : SV} {K : SV → Prop} (h : normB x K) : ∃ y, K y ∧ ∀ η, den η y = den η x := by
  cases x <;> exact ⟨_, h, fun _ => rfl⟩
def argAt (t : List Slot) (tag : Tag) (x : Operand) (K : SV → Prop) : Prop := match x with
  | .tmp k => match look t k with
    | some (tg, x) => match subT tg tag with
      | true => normB x K
      | false => False
    | none => False
  | .const v => force (ofV v) K
  | .global g => K (.el (some ⟨g, 0, none⟩) 0)
  | .func f => K (.fn f [] [])
def argsAt (t : List Slot) (tag : Tag) : List Operand → (List SV → Prop) → Prop
  | [], K => K []
  | x :: r, K => argAt t tag x fun v => argsAt t tag r fun l => K (v :: l)

/-! ### arithmetic -/
def intOp (op : BinOp) (k : IntKind) (a b : Int) (C : Prop → Prop) (K : SV → Prop) : Prop := match op with
  | .add => K (.i k (k.wrap (a + b)))
  | .sub => K (.i k (k.wrap (a - b)))
  | .mul => K (.i k (k.wrap (a * b)))
  | .quo => C (b ≠ 0) ∧ K (.i k (k.wrap (a.tdiv b)))
  | .rem => C (b ≠ 0) ∧ K (.i k (a.tmod b))
  | .and => K (.i k (bits .and k a b))
  | .or => K (.i k (bits .or k a b))
  | .xor => K (.i k (bits .xor k a b))
  | .andNot => K (.i k (bits .andNot k a b))
  | .eql => K (.b (a == b))
  | .neq => K (.b (a != b))
  | .lss => K (.b (decide (a < b)))
  | .leq => K (.b (decide (a ≤ b)))
  | .gtr => K (.b (decide (a > b)))
  | .geq => K (.b (decide (a ≥ b)))
  | _ => False
def strOp (op : BinOp) (x y : ByteArray) (C : Prop → Prop) (K : SV → Prop) : Prop := match op with
  | .add => C (x.size + y.size ≤ 9223372036854775807) ∧ K (.s (x ++ y))
  | .eql => K (.b (x.toList == y.toList))
  | .neq => K (.b (!(x.toList == y.toList)))
  | .lss => K (.b (Op.bytesLess x.toList y.toList))
  | .leq => K (.b (Op.bytesLess x.toList y.toList || x.toList == y.toList))
  | .gtr => K (.b (!(Op.bytesLess x.toList y.toList || x.toList == y.toList)))
  | .geq => K (.b (!(Op.bytesLess x.toList y.toList)))
  | _ => False
def sameKind : IntKind → IntKind → Bool
  | .i8, .i8 => true | .i16, .i16 => true | .i32, .i32 => true | .i64, .i64 => true
  | .u8, .u8 => true | .u16, .u16 => true | .u32, .u32 => true | .u64, .u64 => true
  | _, _ => false
def shiftOp (op : BinOp) (k : IntKind) (a b : Int) (C : Prop → Prop) (K : SV → Prop) : Prop := match op with
  | .shl => C (0 ≤ b) ∧ K (.i k (k.wrap (a * 2 ^ (min b.toNat k.bits))))
  | .shr => C (0 ≤ b) ∧ K (.i k (a.fdiv (2 ^ (min b.toNat k.bits))))
  | _ => False
def isShift : BinOp → Bool
  | .shl => true
  | .shr => true
  | _ => false
def binOpV (h : List (Nat × Ck)) (d : TypeDesc) (op : BinOp) (x y : SV) (C : Prop → Prop) (K : SV → Prop) : Prop := match x, y with
  | .i k a, .i k' b => match isShift op with
    | true => shiftOp op k a b C K
    | false => match sameKind k k' with
      | true => intOp op k a b C K
      | false => False
  | .s a, .s b => strOp op a b C K
  | .b a, .b b => match d, op with
    | .bool, .eql => K (.b (a == b))
    | .bool, .neq => K (.b (!(a == b)))
    | _, _ => False
  | .p n _, .np => match lookH h n, d, op with
    | some (.st _ _), .pointer _, .eql => K (.b false)
    | some (.st _ _), .pointer _, .neq => K (.b true)
    | _, _, _ => False
  | .np, .np => match d, op with
    | .pointer _, .eql => K (.b true)
    | .pointer _, .neq => K (.b false)
    | _, _ => False
  | _, _ => False

def unOpV (op : UnOp) (x : SV) (K : SV → Prop) : Prop := match op, x with
  | .not, .b a => K (.b (!a))
  | .neg, .i k n => K (.i k (k.wrap (0 - n)))
  | .xor, .i k n => K (.i k (bits .xor k (if k.signed then -1 else k.max) n))
  | _, _ => False

/-! ### lists -/
def nth : List SV → Nat → (SV → Prop) → Prop
  | [], _, _ => False
  | x :: _, 0, K => K x
  | _ :: r, n + 1, K => nth r n K
def fieldOf : List Field → Nat → Option Field
  | [], _ => none
  | f :: _, 0 => some f
  | _ :: r, n + 1 => fieldOf r n
def appK : List SV → List SV → (List SV → Prop) → Prop
  | [], l, K => K l
  | x :: r, l, K => appK r l fun l' => K (x :: l')
def widL : List SV → Nat
  | [] => 0
  | x :: r => wid x + widL r
/-- The same, counted up in numbers without variables. -/
def widK : List SV → Nat → (Nat → Prop) → Prop
  | [], a, K => K a
  | x :: r, a, K => forceN (wid x) fun w => widK r (a + w) K
/-- The n cells from o on are put anew. -/
def putAt (cs : List SV) (o n : Nat) (new : List SV) (K : List SV → Prop) : Prop :=
  widK new 0 fun w => match Nat.beq w n with
  | true => takeN cs o fun a => dropN cs (o + n) fun b => appK new b fun nb => appK a nb K
  | false => False
/-- The parts of a value that is put into cells. -/
def parts (x : SV) (K : List SV → Prop) : Prop := match x with
  | .g cs => K cs
  | x => K [x]
/-- A part's place: from o on, n cells: as a value of a type that is (or isn't) a struct or an array. -/
def getAt (cs : List SV) (agg : Bool) (o n : Nat) (K : SV → Prop) : Prop := match agg with
  | true => dropN cs o fun l => takeN l n fun l' => K (.g l')
  | false => partAt cs o fun x => match plainB x with
    | true => K x
    | false => False

/-- Whether every field's type is known. -/
def fieldsOk (T : Tbl) : List Field → Bool
  | [] => true
  | f :: r => match T.at f.type with
    | some _ => fieldsOk T r
    | none => false
/-- The fields of a literal, laid into the zero value. -/
def fill (T : Tbl) (fs : List Field) : List (Nat × SV) → List SV → (List SV → Prop) → Prop
  | [], cs, K => K cs
  | (i, x) :: r, cs, K => match fieldOf fs i with
    | some f => match T.at f.type, (isG x || plainB x) with
      | some ti, true => parts x fun new => putAt cs f.offset ti.size new fun cs' => fill T fs r cs' K
      | _, _ => False
    | none => False
def fillA (z : Nat) : List (Nat × SV) → List SV → (List SV → Prop) → Prop
  | [], cs, K => K cs
  | (i, x) :: r, cs, K => match (isG x || plainB x) with
    | true => parts x fun new => putAt cs (i * z) z new fun cs' => fillA z r cs' K
    | false => False

def pairs (t : List Slot) (tag : Tag) : List (Nat × Operand) → (List (Nat × SV) → Prop) → Prop
  | [], K => K []
  | (i, x) :: r, K => argAt t tag x fun v => pairs t tag r fun l => K ((i, v) :: l)

/-! ### equality of structs and arrays -/
/-- The fields, one behind the other. -/
def eqFs (T : Tbl) (ev : TypeId → SV → SV → (Prop → Prop) → Prop) : List Field → List SV → List SV → (Prop → Prop) → Prop
  | [], _, _, K => K True
  | f :: r, cs, ds, K => match T.at f.type with
    | some tf => getAt cs (aggD tf.d) f.offset tf.size fun x => getAt ds (aggD tf.d) f.offset tf.size fun y => ev f.type x y fun p => eqFs T ev r cs ds fun q => K (p ∧ q)
    | none => False
def eqV (T : Tbl) : Nat → TypeId → SV → SV → (Prop → Prop) → Prop
  | 0, _, _, _, _ => False
  | n + 1, t, x, y, K => match T.at t with
    | none => False
    | some ti => match ti.d, x, y with
      | .int _, .i k a, .i k' b => match sameKind k k' with
        | true => K (a = b)
        | false => False
      | .bool, .b a, .b b => K (a = b)
      | .string, .s a, .s b => K (a = b)
      | .struct fs, .g cs, .g ds => match ti.q with
        | true => eqFs T (eqV T n) fs.toList cs ds K
        | false => False
      | .array len e, .g [.gi n1 k1 f], .g [.gi n2 k2 g] => match ti.q, T.at e with
        | true, some te => match te.d, te.size with
          | .int _, 1 => match Nat.beq len n1 && Nat.beq len n2 && sameKind k1 k2, n with
            | true, _ + 1 => K (∀ j, j < len → f j = g j)
            | _, _ => False
          | _, _ => False
        | _, _ => False
      | _, _, _ => False
noncomputable def yes (p : Prop) : Bool := @decide p (Classical.propDecidable p)
theorem yes_true {p : Prop} : yes p = true ↔ p := by unfold yes; exact @decide_eq_true_iff p (Classical.propDecidable p)
theorem yes_false {p : Prop} : yes p = false ↔ ¬ p := by unfold yes; exact @decide_eq_false_iff_not p (Classical.propDecidable p)
def eqOp (T : Tbl) (t : TypeId) (op : BinOp) (x y : SV) (K : SV → Prop) : Prop := match op with
  | .eql => eqV T 9 t x y fun p => K (.b (yes p))
  | .neq => eqV T 9 t x y fun p => K (.b (!(yes p)))
  | _ => False
/-- A slice beside the nil slice. -/
def nilOp (op : BinOp) (x y : SV) (K : SV → Prop) : Prop := match op, x, y with
  | .eql, .sl A _ _, .sl none 0 0 => K (.b A.isNone)
  | .neq, .sl A _ _, .sl none 0 0 => K (.b (!A.isNone))
  | _, _, _ => False
def binV (T : Tbl) (h : List (Nat × Ck)) (t : TypeId) (op : BinOp) (x y : SV) (C : Prop → Prop) (K : SV → Prop) : Prop := match T.at t with
  | some ti => match ti.d with
    | .struct _ => eqOp T t op x y K
    | .array _ _ => eqOp T t op x y K
    | .slice _ => nilOp op x y K
    | d => binOpV h d op x y C K
  | none => False

/-! ### reading and addresses -/
def loadV (T : Tbl) (h : List (Nat × Ck)) (m : Mem) (C : Prop → Prop) (t : TypeId) (x : SV) (K : SV → Prop) : Prop := match T.at t with
  | none => False
  | some ti => match x with
    | .p n o => match lookH h n with
      | some (.st _ cs) => getAt cs (aggD ti.d) o ti.size K
      | some (.row _ _ _ xs) => ∃ x : SV, (cl x = true ∧ isG x = aggD ti.d ∧ Nat.blt 0 ti.size = true ∧ C (o + ti.size ≤ xs.length ∧ cellsV x = (xs.drop o).take ti.size)) ∧ K x
      | none => False
    | .pj n o j => match lookH h n with
      | some (.st _ cs) => match ti.d with
        | .int _ => partAt cs o fun x => match x with
          | .gi k kd f => C (j < k) ∧ K (.i kd (f j))
          | _ => False
        | _ => False
      | _ => False
    | .el A o => ∃ x : SV, (cl x = true ∧ isG x = aggD ti.d ∧ C (rdM m A o ti.size (cellsV x))) ∧ K x
    | _ => False

/-- The name's block is there (a row has an element at least). -/
def live (h : List (Nat × Ck)) (C : Prop → Prop) (n : Nat) (K : Prop) : Prop := match lookH h n with
  | some (.st _ _) => K
  | some (.row _ _ k _) => C (0 < k) ∧ K
  | none => False
def fieldAddrV (T : Tbl) (h : List (Nat × Ck)) (C : Prop → Prop) (t : TypeId) (x : SV) (f : Nat) (K : SV → Prop) : Prop := match T.at t with
  | some ti => match ti.d with
    | .struct fs => match fieldOf fs.toList f with
      | some fl => match T.at fl.type with
        | some tf => match tf.size with
          | 0 => False
          | _ + 1 => match x with
            | .p n o => live h C n (K (.p n (o + fl.offset)))
            | .el A o => C (A.isSome = true) ∧ K (.el A (o + fl.offset))
            | _ => False
        | none => False
      | none => False
    | _ => False
  | none => False
def indexAddrV (T : Tbl) (h : List (Nat × Ck)) (t : TypeId) (x ix : SV) (C : Prop → Prop) (K : SV → Prop) : Prop := match ix with
  | .i _ i => match T.at t with
    | some ti => match ti.d with
      | .slice e => match T.at e with
        | some te => match x with
          | .sl A len _ => C (0 ≤ i ∧ i < (len : Int) ∧ A.isSome = true) ∧ K (.el A (i.toNat * te.size))
          | .rw r len => match lookH h r with
            | some (.row _ _ k _) => C (0 ≤ i ∧ i < (len : Int) ∧ len ≤ k) ∧ K (.p r (i.toNat * te.size))
            | _ => False
          | _ => False
        | none => False
      | .array n e => match T.at e with
        | some te => match x with
          | .p b o => match te.size with
            | 1 => live h C b (C (0 ≤ i ∧ i < (n : Int)) ∧ K (.pj b o i.toNat))
            | _ => False
          | .el A o => C (0 ≤ i ∧ i < (n : Int) ∧ A.isSome = true) ∧ K (.el A (o + i.toNat * te.size))
          | _ => False
        | none => False
      | _ => False
    | none => False
  | _ => False
def indexV (T : Tbl) (t : TypeId) (x ix : SV) (C : Prop → Prop) (K : SV → Prop) : Prop := match ix with
  | .i _ i => match T.at t with
    | some ti => match ti.d, x with
      | .string, .s s => C (0 ≤ i ∧ i < (s.size : Int)) ∧ K (.i .u8 (sb s i))
      | .array n e, .g [.gi k kd f] => match Nat.beq n k, T.at e with
        | true, some te => match te.d, te.size with
          | .int _, 1 => C (0 ≤ i ∧ i < (n : Int)) ∧ K (.i kd (f i.toNat))
          | _, _ => False
        | _, _ => False
      | _, _ => False
    | none => False
  | _ => False
def fieldV (T : Tbl) (t : TypeId) (x : SV) (f : Nat) (K : SV → Prop) : Prop := match T.at t with
  | some ti => match ti.d with
    | .struct fs => match fieldOf fs.toList f with
      | some fl => match T.at fl.type with
        | some tf => match x with
          | .g cs => getAt cs (aggD tf.d) fl.offset tf.size K
          | _ => False
        | none => False
      | none => False
    | _ => False
  | none => False

/-- A bound of a slice expression: the term, or what stands for it where it is left out. -/
def bnd (x : Option SV) (dflt : Nat) (top : Nat) (C : Prop → Prop) (K : Nat → Prop) : Prop := match x with
  | none => K dflt
  | some (.i _ i) => C (0 ≤ i ∧ i ≤ (top : Int)) ∧ K i.toNat
  | some _ => False
def sliceV (T : Tbl) (h0 : List (Nat × Ck)) (t : TypeId) (x : SV) (lo hi : Option SV) (C : Prop → Prop) (K : SV → Prop) : Prop := match T.at t with
  | some ti => match ti.d, x with
    | .string, .s s => bnd hi s.size s.size C fun h => bnd lo 0 h C fun l => K (.s (s.extract l h))
    | .slice e, .sl A len cap => match T.at e with
      | some te => bnd hi len cap C fun h => bnd lo 0 h C fun l => match lo with
        | none => match hi with
          | none => K (.sl A len cap)
          | some _ => K (.sl A h cap)
        | some _ => K (.sl (if cap = l then A else A.map (·.add (l * te.size))) (h - l) (cap - l))
      | none => False
    | .slice e, .rw r len => match lo, T.at e with
      | none, some _ => match lookH h0 r with
        | some (.row _ _ k _) => C (len ≤ k) ∧ bnd hi len len C fun h => K (.rw r h)
        | _ => False
      | _, _ => False
    | _, _ => False
  | none => False

def convV (T : Tbl) (a b : TypeId) (x : SV) (K : SV → Prop) : Prop := match T.at a, T.at b with
  | some ta, some tb => match x with
    | .i _ n => match tb.d with
      | .int k => match ta.d with
        | .int _ => K (.i k (k.wrap n))
        | _ => False
      | _ => False
    | .s s => match tb.d, ta.d with
      | .string, .string => K (.s s)
      | _, _ => False
    | _ => False
  | _, _ => False

def foldK (f : SV → SV → (SV → Prop) → Prop) : SV → List SV → (SV → Prop) → Prop
  | a, [], K => K a
  | a, x :: r, K => f a x fun y => foldK f y r K
def minV (x y : SV) (K : SV → Prop) : Prop := match x, y with
  | .i .i64 a, .i .i64 b => K (.i .i64 (if b < a then b else a))
  | _, _ => False
def maxV (x y : SV) (K : SV → Prop) : Prop := match x, y with
  | .i .i64 a, .i .i64 b => K (.i .i64 (if a < b then b else a))
  | _, _ => False
/-- What a call of a built-in that looks at no more than its operands answers. -/
def builtinV (T : Tbl) (b : Builtin) (ts : List TypeId) (xs : List SV) (K : SV → Prop) : Prop := match b, ts, xs with
  | .len, [t], [x] => match T.at t with
    | some ti => match ti.d, x with
      | .string, .s s => K (.i .i64 (s.size : Int))
      | .slice _, .sl _ n _ => K (.i .i64 (n : Int))
      | .slice _, .rw _ n => K (.i .i64 (n : Int))
      | _, _ => False
    | none => False
  | .min, _, x :: r => foldK minV x r K
  | .max, _, x :: r => foldK maxV x r K
  | _, _, _ => False
end Go.Proofs.Ytjpjiniclibgkaa.Sx

namespace Go.Proofs.Ytjpjiniclibgkaa.Sx

/-- How a piece of code is left. -/
inductive Ex where
  | normal
  | exit (id : Nat)
  | ret
  | panic (x : SV)

/-- A call's end: a value, or a panic with a value. -/
inductive Out where
  | ret (x : SV)
  | pan (x : SV)

abbrev Heap := List (Nat × Ck)

def setHK : Heap → Nat → Ck → (Heap → Prop) → Prop
  | [], _, _, _ => False
  | (n, c) :: r, k, c', K => match Nat.beq n k with
    | true => K ((n, c') :: r)
    | false => setHK r k c' fun r' => K ((n, c) :: r')
def delHK : Heap → Nat → (Heap → Prop) → Prop
  | [], _, K => K []
  | (n, c) :: r, k, K => match Nat.beq n k with
    | true => delHK r k K
    | false => delHK r k fun r' => K ((n, c) :: r')

def okSt (st : St) : Bool := okT st.nx st.t && okH st.nx st.h

def withH (st : St) (h : Heap) (K : St → Prop) : Prop := match st with
  | ⟨sz, t, gs, _, nx⟩ => K ⟨sz, t, gs, h, nx⟩
def withT (st : St) (t : List Slot) (gs : Gs) (K : St → Prop) : Prop := match st with
  | ⟨sz, _, _, h, nx⟩ => K ⟨sz, t, gs, h, nx⟩
/-- A new block, known whole. -/
def newSt (st : St) (e : TypeId) (cs : List SV) (K : SV → St → Prop) : Prop :=
  match okSt st && oks st.nx cs with
  | true => (match st with | ⟨sz, t, gs, h, nx⟩ => forceN (nx + 1) fun nx1 => K (.p nx 0) ⟨sz, t, gs, (nx, .st e cs) :: h, nx1⟩)
  | false => False
/-- A new row. -/
def newRow (st : St) (e : TypeId) (z n : Nat) (xs : List Value) (K : SV → St → Prop) : Prop :=
  match okSt st with
  | true => (match st with | ⟨sz, t, gs, h, nx⟩ => forceN (nx + 1) fun nx1 => K (.rw nx n) ⟨sz, t, gs, (nx, .row e z n xs) :: h, nx1⟩)
  | false => False
/-- A row in another's place. -/
def moveRow (st : St) (r : Nat) (e : TypeId) (z n : Nat) (xs : List Value) (K : SV → St → Prop) : Prop :=
  match okSt st with
  | true => delHK st.h r fun h => (match st with | ⟨sz, t, gs, _, nx⟩ => forceN (nx + 1) fun nx1 => K (.rw nx n) ⟨sz, t, gs, (nx, .row e z n xs) :: h, nx1⟩)
  | false => False

def storeE (T : Tbl) (st : St) (t : TypeId) (a x : SV) (K : St → Prop) : Prop := match T.at t with
  | none => False
  | some ti => match a with
    | .p n o => match lookH st.h n with
      | some (.st e cs) => match Nat.blt 0 ti.size, fitsB (aggD ti.d) x with
        | true, true => parts x fun new => putAt cs o ti.size new fun cs' => setHK st.h n (.st e cs') fun h => withH st h K
        | _, _ => False
      | some (.row e z k xs) => match cl x && Nat.blt 0 ti.size, fitsB (aggD ti.d) x with
        | true, true => (o + ti.size ≤ xs.length ∧ (cellsV x).length = ti.size) ∧ setHK st.h n (.row e z k (xs.take o ++ (cellsV x ++ xs.drop (o + ti.size)))) fun h => withH st h K
        | _, _ => False
      | none => False
    | .pj n o j => match lookH st.h n, x with
      | some (.st e cs), .i kd v => match ti.d, ti.size with
        | .int _, 1 => partAt cs o fun y => match y with
          | .gi k kd' f => match sameKind kd kd' with
            | true => (j < k) ∧ putAt cs o k [.gi k kd' fun i => if i = j then v else f i] fun cs' => setHK st.h n (.st e cs') fun h => withH st h K
            | false => False
          | _ => False
        | _, _ => False
      | _, _ => False
    | _ => False

def repl (n : Nat) (zs : List Value) : List Value := (List.replicate n zs).flatten

def makeE (T : Tbl) (st : St) (t : TypeId) (l c : SV) (K : SV → St → Prop) : Prop := match T.at t, l, c with
  | some ti, .i .i64 a, .i .i64 b => match ti.d with
    | .slice e => match T.at e with
      | some te => match fitsB (aggD te.d) te.z with
        | true => (0 ≤ a ∧ a ≤ b ∧ b * te.bytes ≤ 140737488355328 ∧ b ≤ 140737488355328) ∧ newRow st e te.size a.toNat (repl a.toNat (cellsV te.z)) K
        | false => False
      | none => False
    | _ => False
  | _, _, _ => False

def buildSliceE (T : Tbl) (st : St) (t : TypeId) (n : Nat) (ps : List (Nat × SV)) (K : SV → St → Prop) : Prop := match T.at t with
  | some ti => match ti.d with
    | .slice e => match T.at e with
      | some te => match fitsB (aggD te.d) te.z with
        | true => parts te.z fun zs => repK n zs [] fun zz => fillA te.size ps zz fun cs => match cls cs && plains cs, Nat.ble (n * te.size) 16777216 && Nat.ble n 16777216 with
          | true, true => newRow st e te.size n (dens η0 cs) K
          | _, _ => False
        | false => False
      | none => False
    | _ => False
  | none => False
where
  repK : Nat → List SV → List SV → (List SV → Prop) → Prop
    | 0, _, acc, K => K acc
    | n + 1, zs, acc, K => appK zs acc fun acc' => repK n zs acc' K

/-- What the source of an append or a copy holds: n elements of z cells. -/
def srcV (h : Heap) (m : Mem) (e : TypeId) (z : Nat) (x : SV) (K : Nat → List Value → Prop) : Prop := match x with
  | .rw r n => match lookH h r with
    | some (.row e' z' k xs) => match Nat.beq z z' && Nat.beq e e' with
      | true => (n ≤ k) ∧ K n (xs.take (n * z))
      | false => False
    | _ => False
  | .sl A n _ => ∃ vs : List Value, (vs.length = n * z ∧ (∀ u ∈ vs, u.oneCell' = true) ∧ (0 < n → rdM m A 0 (n * z) vs)) ∧ K n vs
  | .s s => match Nat.beq z 1 with
    | true => K s.size (s.data.toList.map fun b => .int .u8 (b.toNat : Int))
    | false => False
  | _ => False

def appendE (T : Tbl) (st : St) (m : Mem) (t : TypeId) (s x : SV) (K : SV → St → Prop) : Prop := match T.at t with
  | some ti => match ti.d with
    | .slice e => match T.at e with
      | some te => srcV st.h m e te.size x fun n vs => match s with
        | .rw r len => match lookH st.h r with
          | some (.row e' z k xs) => match Nat.beq z te.size && Nat.beq e e' with
            | true => (len ≤ k ∧ (len + n) * te.bytes ≤ 140737488355328 ∧ len + n ≤ 140737488355328) ∧ moveRow st r e te.size (len + n) (xs.take (len * te.size) ++ vs) K
            | false => False
          | _ => False
        | .sl _ len cap => (len = 0 ∧ cap = 0 ∧ n * te.bytes ≤ 140737488355328 ∧ n ≤ 140737488355328) ∧ newRow st e te.size n vs K
        | _ => False
      | none => False
    | _ => False
  | none => False

/-! ### slots -/
def dstOf : List Oper → Nat → Option Nat
  | [], _ => none
  | o :: _, 0 => o.dst
  | _ :: r, n + 1 => dstOf r n
/-- No test that others look at lies in this slot. -/
def gsFree (ops : List Oper) (d : Nat) : Gs → Bool
  | [] => true
  | (j, _) :: r => (match dstOf ops j with
    | some k => !(Nat.beq k d)
    | none => false) && gsFree ops d r
def putS (ops : List Oper) (st : St) (d : Option Nat) (tag : Tag) (x : SV) (K : St → Prop) : Prop := match d with
  | none => K st
  | some d => match Nat.blt d st.sz && gsFree ops d st.gs with
    | true => (match st with | ⟨sz, t, gs, h, nx⟩ => K ⟨sz, ⟨d, tag, x⟩ :: t, gs, h, nx⟩)
    | false => False

def memN (k : Nat) : List Nat → Bool
  | [] => false
  | n :: r => match Nat.beq n k with
    | true => true
    | false => memN k r
/-- Behind a region: what is read later stays, each slot once. -/
def clean (lv : List Nat) : List Nat → List Slot → (List Slot → Prop) → Prop
  | _, [], K => K []
  | seen, s :: r, K => match memN s.k seen with
    | true => clean lv seen r K
    | false => match memN s.k lv, s.tag with
      | true, [] => clean lv (s.k :: seen) r fun l => K (s :: l)
      | _, _ => clean lv (s.k :: seen) r K

/-! ### rows that stay from now on -/
/-- What is known of a row that stays from now on: the memory that stays is more than before, and holds the row's cells. -/
structure Sealed0 (m m' : Mem) (A : Option Addr) (cap n z : Nat) (xs : List Value) : Prop where
  ext : ∀ b o, m b = some o → m' b = some o
  len : xs.length = n * z
  one : ∀ u ∈ xs, u.oneCell' = true
  le : n ≤ cap
  rd : 0 < n → rdM m' A 0 (n * z) xs
/-- And where it lies: in a block that the memory lacked before. -/
structure Sealed (m m' : Mem) (A : Option Addr) (cap n z : Nat) (xs : List Value) : Prop extends Sealed0 m m' A cap n z xs where
  obj : (n = 0 ∧ cap = 0 ∧ m' = m) ∨ ∃ b cur e, A = some ⟨b, 0, none⟩ ∧ m b = none ∧ m' = (fun k => if k = b then some (.cells cur e (0, 0)) else m k) ∧ cur.size = cap * z ∧ cur.toList.take (n * z) = xs

mutual
/-- A row's name is replaced by where it lies. -/
def sbV (r : Nat) (A : Option Addr) (cap : Nat) : SV → (SV → Prop) → Prop
  | .rw n l, K => match Nat.beq n r with
    | true => K (.sl A l cap)
    | false => K (.rw n l)
  | .p n o, K => match Nat.beq n r with
    | true => K (.el A o)
    | false => K (.p n o)
  | .pj n o j, K => match Nat.beq n r with
    | true => False
    | false => K (.pj n o j)
  | .g cs, K => sbVs r A cap cs fun cs => K (.g cs)
  | .t cs, K => sbVs r A cap cs fun cs => K (.t cs)
  | .e ty x, K => sbV r A cap x fun x => K (.e ty x)
  | .fn f a c, K => sbVs r A cap a fun a => sbVs r A cap c fun c => K (.fn f a c)
  | .b x, K => K (.b x)
  | .i k n, K => K (.i k n)
  | .s x, K => K (.s x)
  | .el B o, K => K (.el B o)
  | .np, K => K .np
  | .sl B l c, K => K (.sl B l c)
  | .gi n k f, K => K (.gi n k f)
  | .ne, K => K .ne
  | .v x, K => K (.v x)
  | .kb x, K => K (.kb x)
  | .ud, K => K .ud
def sbVs (r : Nat) (A : Option Addr) (cap : Nat) : List SV → (List SV → Prop) → Prop
  | [], K => K []
  | x :: l, K => sbV r A cap x fun x => sbVs r A cap l fun l => K (x :: l)
end
def sbT (r : Nat) (A : Option Addr) (cap : Nat) : List Slot → (List Slot → Prop) → Prop
  | [], K => K []
  | ⟨k, tag, x⟩ :: l, K => sbV r A cap x fun x => sbT r A cap l fun l => K (⟨k, tag, x⟩ :: l)
def sbH (r : Nat) (A : Option Addr) (cap : Nat) : Heap → (Heap → Prop) → Prop
  | [], K => K []
  | (n, .st e cs) :: l, K => sbVs r A cap cs fun cs => sbH r A cap l fun l => K ((n, .st e cs) :: l)
  | (n, .row e z k xs) :: l, K => sbH r A cap l fun l => K ((n, .row e z k xs) :: l)
def sbP (r : Nat) (A : Option Addr) (cap : Nat) : List (Nat × SV) → (List (Nat × SV) → Prop) → Prop
  | [], K => K []
  | (n, x) :: l, K => sbV r A cap x fun x => sbP r A cap l fun l => K ((n, x) :: l)
/-- An own row stays from now on. -/
def sealG (S : Mem → Mem → Option Addr → Nat → Nat → Nat → List Value → Prop) (st : St) (m : Mem) (r : Nat) (K : Option Addr → Nat → St → Mem → Prop) : Prop := match lookH st.h r with
  | some (.row _ z n xs) => ∀ (A : Option Addr) (cap : Nat) (m' : Mem), S m m' A cap n z xs → delHK st.h r fun h => sbH r A cap h fun h => sbT r A cap st.t fun t => (match st with | ⟨sz, _, gs, _, nx⟩ => K A cap ⟨sz, t, gs, h, nx⟩ m')
  | _ => False
def sealE : St → Mem → Nat → (Option Addr → Nat → St → Mem → Prop) → Prop := sealG Sealed
mutual
/-- The first row's name in a value. -/
def frw : SV → Option Nat
  | .rw n _ => some n
  | .g cs => frws cs
  | .t cs => frws cs
  | .e _ x => frw x
  | .fn _ a c => match frws a with
    | some n => some n
    | none => frws c
  | _ => none
def frws : List SV → Option Nat
  | [] => none
  | x :: r => match frw x with
    | some n => some n
    | none => frws r
end
def frwP : List (Nat × SV) → Option Nat
  | [] => none
  | (_, x) :: r => match frw x with
    | some n => some n
    | none => frwP r
/-- Every row that is named in these values stays from now on. -/
def sealPs : Nat → St → Mem → List (Nat × SV) → (List (Nat × SV) → St → Mem → Prop) → Prop
  | 0, st, m, l, K => K l st m
  | f + 1, st, m, l, K => match frwP l with
    | none => K l st m
    | some r => sealE st m r fun A cap st m => sbP r A cap l fun l => sealPs f st m l K
def sealXs : Nat → St → Mem → List SV → (List SV → St → Mem → Prop) → Prop
  | 0, st, m, l, K => K l st m
  | f + 1, st, m, l, K => match frws l with
    | none => K l st m
    | some r => sealE st m r fun A cap st m => sbVs r A cap l fun l => sealXs f st m l K
/-- What is stored into a row. -/
def sealIn (st : St) (m : Mem) (a x : SV) (K : SV → St → Mem → Prop) : Prop := match a with
  | .p n _ => match lookH st.h n with
    | some (.row ..) => sealXs 9 st m [x] fun l st m => match l with
      | [x] => K x st m
      | _ => False
    | _ => K x st m
  | _ => K x st m
/-- A constant's bytes: a row that is not written any more. -/
def bytesE (T : Tbl) (st : St) (m : Mem) (a b : TypeId) (x : SV) (K : SV → St → Mem → Prop) : Prop := match x with
  | .rw r l => match T.at a, Nat.beq a b with
    | some ta, true => match ta.d with
      | .slice e => match T.at e with
        | some te => match te.d with
          | .int .u8 => match lookH st.h r with
            | some (.row _ _ n _) => (0 < n) ∧ sealG Sealed0 st m r fun A cap st m => K (.sl A l cap) st m
            | _ => False
          | _ => False
        | none => False
      | _ => False
    | _, _ => False
  | _ => convV T a b x fun x => K x st m

/-! ### calls: where the evaluator stands still -/
/-- What is to be shown at a call of a function of the program. (Stated in the fifth text, by what the call does.) -/
abbrev CallF := FuncId → List SV → St → Mem → (Out → St → Mem → Prop) → Prop
/-- 'z': the blocks of memory that may be written though they are no more at the call's own disposal. -/
structure CallP where
  c : CallF
  z : Nat → Prop
def CallP.still (CP : CallP) : CallP := ⟨CP.c, fun _ => False⟩
/-- A store to a block of memory that the call has made, or that was made for it. -/
def storeF (T : Tbl) (z : Nat → Prop) (m : Mem) (t : TypeId) (A : Option Addr) (o : Nat) (x : SV) (K : Mem → Prop) : Prop := match T.at t with
  | none => False
  | some ti => match cl x, fitsB (aggD ti.d) x with
    | true, true => ∃ b i cur e, (A.map (·.add o) = some ⟨b, i, none⟩ ∧ z b ∧ m b = some (.cells cur e (0, 0)) ∧ i + ti.size ≤ cur.size ∧ (cellsV x).length = ti.size) ∧
        K (fun k => if k = b then some (.cells (cur.toList.take i ++ (cellsV x ++ cur.toList.drop (i + ti.size))).toArray e (0, 0)) else m k)
    | _, _ => False
def storeG (T : Tbl) (z : Nat → Prop) (st : St) (m : Mem) (t : TypeId) (a x : SV) (K : St → Mem → Prop) : Prop := match a with
  | .el A o => storeF T z m t A o x fun m => K st m
  | a => storeE T st t a x fun st => K st m

/-! ### one operation -/
def bytesL (s : ByteArray) : List Value := s.data.toList.map fun b => .int .u8 (b.toNat : Int)
/-- Bytes as a text, or another conversion. -/
def textV (T : Tbl) (h : Heap) (m : Mem) (C : Prop → Prop) (a b : TypeId) (x : SV) (K : SV → Prop) : Prop := match T.at a, T.at b with
  | some ta, some tb => match ta.d, tb.d, x with
    | .slice e, .string, .sl A n _ => match T.at e with
      | some te => match te.d with
        | .int .u8 => ∃ s : ByteArray, C (s.size = n ∧ (0 < n → rdM m A 0 n (bytesL s))) ∧ K (.s s)
        | _ => False
      | none => False
    | .slice e, .string, .rw r n => match T.at e with
      | some te => match te.d with
        | .int .u8 => match lookH h r with
          | some (.row _ z k xs) => match Nat.beq z 1 with
            | true => ∃ s : ByteArray, C (n ≤ k ∧ xs.take n = bytesL s) ∧ K (.s s)
            | false => False
          | _ => False
        | _ => False
      | none => False
    | _, _, x => convV T a b x K
  | _, _ => False
def optArg (t : List Slot) (tag : Tag) (x : Option Operand) (K : Option SV → Prop) : Prop := match x with
  | none => K none
  | some x => argAt t tag x fun v => K (some v)

/-- What looks at no more than memory. -/
def quietV (T : Tbl) (st : St) (m : Mem) (tag : Tag) (o : Op) (K : SV → Prop) : Prop :=
  let C := gc st.gs tag
  match o with
  | .move x => argAt st.t tag x K
  | .assign x => argAt st.t tag x K
  | .binOp op tx x y _ => argAt st.t tag x fun a => argAt st.t tag y fun b => binV T st.h tx op a b C K
  | .unOp op _ x => argAt st.t tag x fun a => unOpV op a K
  | .convert a b x => argAt st.t tag x fun v => textV T st.h m C a b v K
  | .load t x => argAt st.t tag x fun v => loadV T st.h m C t v K
  | .nilCheck x => argAt st.t tag x fun v => match v with
    | .p n o => live st.h C n (K (.p n o))
    | .el A o => C (A.isSome = true) ∧ K (.el A o)
    | _ => False
  | .fieldAddr t x f => argAt st.t tag x fun v => fieldAddrV T st.h C t v f K
  | .field t x f => argAt st.t tag x fun v => fieldV T t v f K
  | .indexAddr t x i => argAt st.t tag x fun v => argAt st.t tag i fun w => indexAddrV T st.h t v w C K
  | .index t x i => argAt st.t tag x fun v => argAt st.t tag i fun w => indexV T t v w C K
  | .slice t x lo hi none => argAt st.t tag x fun v => optArg st.t tag lo fun l => optArg st.t tag hi fun h => sliceV T st.h t v l h C K
  | .extract x n => argAt st.t tag x fun v => match v with
    | .t vs => nth vs n K
    | _ => False
  | .build t ps => pairs st.t tag ps.toList fun l => match T.at t with
    | some ti => match ti.d, ti.z with
      | .struct fs, .g zs => match fieldsOk T fs.toList with
        | true => fill T fs.toList l zs fun cs => K (.g cs)
        | false => False
      | .array _ e, .g zs => match T.at e with
        | some te => fillA te.size l zs fun cs => K (.g cs)
        | none => False
      | _, _ => False
    | none => False
  | .makeInterface t x => argAt st.t tag x fun v => match T.at t with
    | some ti => match ti.d with
      | .interface _ => False
      | _ => K (.e t v)
    | none => False
  | .makeFunc (.func f) a c => argsAt st.t tag a.toList fun as => argsAt st.t tag c.toList fun cs => K (.fn f as cs)
  | .call c => match c.callee with
    | .builtin b => argsAt st.t tag c.args.toList fun xs => builtinV T b c.argTypes.toList xs K
    | _ => False
  | _ => False

/-- Whether an operation is one of those. -/
def isQuiet : Op → Bool
  | .move _ => true
  | .assign _ => true
  | .binOp .. => true
  | .unOp .. => true
  | .convert a b _ => match Nat.beq a b with
    | true => false
    | false => true
  | .load .. => true
  | .nilCheck _ => true
  | .fieldAddr .. => true
  | .field .. => true
  | .indexAddr .. => true
  | .index .. => true
  | .slice _ _ lo _ _ => match lo with
    | none => true
    | some _ => false
  | .extract .. => true
  | .build .. => true
  | .makeInterface .. => true
  | .makeFunc .. => true
  | .call c => match c.callee with
    | .builtin b => match b with
      | .len => true
      | .min => true
      | .max => true
      | _ => false
    | _ => false
  | _ => false

/-- What makes or writes memory, or calls. -/
def loudV (T : Tbl) (CP : CallP) (st : St) (m : Mem) (o : Op) (K : SV → St → Mem → Prop) (KP : SV → St → Mem → Prop) : Prop := match o with
  | .alloc t => match T.at t with
    | some ti => match fitsB (aggD ti.d) ti.z with
      | true => parts ti.z fun cs => newSt st t cs fun x st => K x st m
      | false => False
    | none => False
  | .box t x => argAt st.t [] x fun v => match T.at t with
    | some ti => match fitsB (aggD ti.d) v with
      | true => parts v fun cs => newSt st t cs fun x st => K x st m
      | false => False
    | none => False
  | .store t a x => argAt st.t [] a fun a => argAt st.t [] x fun v => sealIn st m a v fun v st m => storeG T CP.z st m t a v fun st m => K (.v undef) st m
  | .convert a b x => argAt st.t [] x fun v => bytesE T st m a b v K
  | .slice t x lo hi none => argAt st.t [] x fun v => optArg st.t [] lo fun l => optArg st.t [] hi fun h => sealXs 9 st m [v] fun vs st m => match vs with
    | [v] => sliceV T st.h t v l h (fun c => c) fun x => K x st m
    | _ => False
  | .makeSlice t l c => argAt st.t [] l fun l => argAt st.t [] c fun c => makeE T st t l c fun x st => K x st m
  | .buildSlice t n ps => pairs st.t [] ps.toList fun l => sealPs 9 st m l fun l st m => buildSliceE T st t n l fun x st => K x st m
  | .call c => match c.callee with
    | .builtin .append => argsAt st.t [] c.args.toList fun xs => match c.argTypes.toList, xs with
      | [t, u], [s, x] => match T.at u with
        | some tu => match tu.d with
          | .slice _ => appendE T st m t s x fun x st => K x st m
          | .string => appendE T st m t s x fun x st => K x st m
          | _ => False
        | none => False
      | _, _ => False
    | .value f => argAt st.t [] f fun f => argsAt st.t [] c.args.toList fun xs => match f with
      | .fn f first caught => appK first xs fun xs => appK xs caught fun xs => CP.c f xs st m fun o st m => match o with
        | .ret x => force x fun x => K x st m
        | .pan x => KP x st m
      | _ => False
    | _ => False
  | _ => False

/-- Whether a tag holds where 'tag' does, and the test in slot kc came out as w. -/
def sideOk (ops : List Oper) (gs : Gs) (tag : Tag) (kc : Nat) (w : Bool) : Tag → Bool
  | [] => true
  | (j, u) :: r => (memT j u tag || ((u == w) && (match dstOf ops j, lookG gs j with
    | some d, some _ => Nat.beq d kc
    | _, _ => false))) && sideOk ops gs tag kc w r
def sideV (ops : List Oper) (st : St) (tag : Tag) (kc : Nat) (w : Bool) (x : Operand) (K : SV → Prop) : Prop := match x with
  | .tmp k => match look st.t k with
    | some (tg, x) => match sideOk ops st.gs tag kc w tg with
      | true => K x
      | false => False
    | none => False
  | .const v => force (ofV v) K
  | _ => False
/-- The pick of a guarded test. -/
def pickV (ops : List Oper) (st : St) (tag : Tag) (c a b : Operand) (K : SV → Prop) : Prop := match c with
  | .tmp kc => match look st.t kc with
    | some (tgc, x) => match subT tgc tag, x with
      | true, .kb true => argAt st.t tag a K
      | true, .kb false => argAt st.t tag b K
      | true, .b g => sideV ops st tag kc true a fun x => sideV ops st tag kc false b fun y => match x, y with
        | .b x, .b y => K (.b (if g then x else y))
        | .b x, .ud => gc st.gs tag (g = true) ∧ K (.b x)
        | .ud, .b y => gc st.gs tag (g = false) ∧ K (.b y)
        | _, _ => False
      | _, _ => False
    | none => False
  | _ => False
end Go.Proofs.Ytjpjiniclibgkaa.Sx

namespace Go.Proofs.Ytjpjiniclibgkaa.Sx

/-- Behind a test that is decided: what hung on it is there for good, or is 'undef'. -/
def settleTag (j : Nat) (b : Bool) : Tag → Option Tag
  | [] => some []
  | (i, u) :: r => match Nat.beq i j with
    | true => match u, b with
      | true, true => settleTag j b r
      | false, false => settleTag j b r
      | _, _ => none
    | false => match settleTag j b r with
      | some r' => some ((i, u) :: r')
      | none => none
def settle (j : Nat) (b : Bool) : List Slot → (List Slot → Prop) → Prop
  | [], K => K []
  | ⟨k, tag, x⟩ :: r, K => settle j b r fun r' => match settleTag j b tag with
    | some tag' => K (⟨k, tag', x⟩ :: r')
    | none => K (⟨k, [], .ud⟩ :: r')
/-- The decided test itself is no more looked up: its slot tells. -/
def settleG (j : Nat) (b : Bool) : Gs → (Gs → Prop) → Prop
  | [], K => K []
  | (i, g, tag) :: r, K => settleG j b r fun r' => match Nat.beq i j with
    | true => K r'
    | false => match settleTag j b tag with
      | some tag' => K ((i, g, tag') :: r')
      | none => match lookG r' i with
        | none => K r'
        | some _ => False
/-- The slot of a decided test. -/
def markS (ops : List Oper) (j : Nat) (b : Bool) (tgj : Tag) (t : List Slot) (gs : Gs) (K : List Slot → Prop) : Prop := match tgj, dstOf ops j with
  | [], some d => match gsFree ops d gs with
    | true => K (⟨d, [], .kb b⟩ :: t)
    | false => False
  | _, _ => False
/-- Every test that a tag names is known. -/
def tagIn (gs : Gs) : Tag → Bool
  | [] => true
  | (j, _) :: r => (match lookG gs j with
    | some _ => true
    | none => false) && tagIn gs r
def tagsIn (gs : Gs) : List Slot → Bool
  | [] => true
  | s :: r => tagIn gs s.tag && tagsIn gs r
def tagsInG (gs : Gs) : Gs → Bool
  | [] => true
  | (_, _, tag) :: r => tagIn gs tag && tagsInG gs r

/-- The last of a tag: the outermost test. -/
def lastT : Tag → Option (Nat × Bool)
  | [] => none
  | [x] => some x
  | _ :: r => lastT r
def chk (t : List Slot) (gs : Gs) (K : Prop) : Prop := match tagsIn gs t && tagsInG gs gs with
  | true => K
  | false => False
/-- A loud operation under a tag: its tests are decided first, the outermost one first. -/
def splitG (ops : List Oper) (d : Option Nat) (go : St → Mem → Prop) (skip : St → Mem → Prop) : Nat → Tag → St → Mem → Prop
  | 0, _, _, _ => False
  | f + 1, tag, st, m => match lastT tag with
    | none => go st m
    | some (j, w) => match lookG st.gs j with
      | some (g, tj) =>
        (g = true → settle j true st.t fun t => settleG j true st.gs fun gs => chk t gs <| markS ops j true tj t gs fun t => match w with
          | true => match settleTag j true tag with
            | some tag' => match tagIn gs tag' with
              | true => withT st t gs fun st => splitG ops d go skip f tag' st m
              | false => False
            | none => False
          | false => withT st t gs fun st => putS ops st d [] .ud fun st => skip st m) ∧
        (g = false → settle j false st.t fun t => settleG j false st.gs fun gs => chk t gs <| markS ops j false tj t gs fun t => match w with
          | false => match settleTag j false tag with
            | some tag' => match tagIn gs tag' with
              | true => withT st t gs fun st => splitG ops d go skip f tag' st m
              | false => False
            | none => False
          | true => withT st t gs fun st => putS ops st d [] .ud fun st => skip st m)
      | none => False

def addG (st : St) (j : Nat) (g : Bool) (tg : Tag) (K : St → Prop) : Prop := match lookG st.gs j with
  | some _ => K st
  | none => match tagsIn st.gs st.t && tagsInG st.gs st.gs with
    | true => match st with
      | ⟨sz, t, gs, h, nx⟩ => K ⟨sz, t, (j, g, tg) :: gs, h, nx⟩
    | false => False

/-- An operation by its guard: as it stands, left out, or under a tag. -/
def byGuard (ops : List Oper) (o : Oper) (st : St) (plain skip : St → Prop) (tagged : St → Tag → Prop) : Prop := match o.guard with
  | none => plain st
  | some (j, w) => match dstOf ops j with
    | none => False
    | some d => match look st.t d with
      | some (tg, x) => match x with
        | .b g => addG st j g tg fun st => tagged st ((j, w) :: tg)
        | .kb b => match tg, b, w with
          | [], true, true => plain st
          | [], false, false => plain st
          | [], true, false => putS ops st o.dst [] .ud skip
          | [], false, true => putS ops st o.dst [] .ud skip
          | _, _, _ => False
        | .ud => match tg with
          | [] => putS ops st o.dst [] .ud skip
          | _ => False
        | _ => False
      | none => False

/-- A run of operations, in the text's order. n: the number of the next one. -/
def runL (T : Tbl) (CP : CallP) (ops : List Oper) (KP : SV → St → Mem → Prop) (K : St → Mem → Prop) : List Oper → Nat → St → Mem → Prop
  | [], _, st, m => K st m
  | o :: rest, n, st, m => byGuard ops o st
    (fun st => match o.op with
      | .pick c a b => pickV ops st [] c a b fun x => putS ops st o.dst [] x fun st => runL T CP ops KP K rest (n + 1) st m
      | op => match isQuiet op with
        | true => quietV T st m [] op fun x => putS ops st o.dst [] x fun st => runL T CP ops KP K rest (n + 1) st m
        | false => loudV T CP st m op (fun x st m => putS ops st o.dst [] x fun st => runL T CP ops KP K rest (n + 1) st m) KP)
    (fun st => runL T CP ops KP K rest (n + 1) st m)
    fun st tg => match o.op with
      | .pick c a b => pickV ops st tg c a b fun x => putS ops st o.dst tg x fun st => runL T CP ops KP K rest (n + 1) st m
      | op => match isQuiet op with
        | true => quietV T st m tg op fun x => putS ops st o.dst tg x fun st => runL T CP ops KP K rest (n + 1) st m
        | false => splitG ops o.dst (fun st m => loudV T CP st m op (fun x st m => putS ops st o.dst [] x fun st => runL T CP ops KP K rest (n + 1) st m) KP) (fun st m => runL T CP ops KP K rest (n + 1) st m) 9 tg st m

mutual
/-- Code, with what is to hold wherever it is left. -/
def exec (T : Tbl) (CP : CallP) (LP : Code → St → Mem → (Ex → St → Mem → Prop) → Prop) (DP : List Oper → St → Mem → (Ex → St → Mem → Prop) → Prop) (lv : List Nat) :
    Code → (Ex → St → Mem → Prop) → St → Mem → Prop
  | .skip, K, st, m => K .normal st m
  | .label _, K, st, m => K .normal st m
  | .exit id, K, st, m => K (.exit id) st m
  | .ret, K, st, m => K .ret st m
  | .seq a b, K, st, m => exec T CP LP DP lv a (fun e st m => match e with
    | .normal => exec T CP LP DP lv b K st m
    | .exit id => K (.exit id) st m
    | .ret => K .ret st m
    | .panic x => K (.panic x) st m) st m
  | .block id c, K, st, m => exec T CP LP DP lv c (fun e st m => match e with
    | .normal => K .normal st m
    | .exit i => match Nat.beq i id with
      | true => K .normal st m
      | false => K (.exit i) st m
    | .ret => K .ret st m
    | .panic x => K (.panic x) st m) st m
  | .cond c a b, K, st, m => argAt st.t [] c fun x => match x with
    | .b x => (x = true → exec T CP LP DP lv a K st m) ∧ (x = false → exec T CP LP DP lv b K st m)
    | _ => False
  | .region _ ops draw, K, st, m => match draw with
    | false => runL T CP ops.toList (fun x st m => withT st [] [] fun st => K (.panic x) st m) (fun st m => clean lv [] st.t fun t => withT st t [] fun st => K .normal st m) ops.toList 0 st m
    | true => DP ops.toList st m K
  | .loop c, K, st, m => LP c st m K
  | _, _, _, _ => False
end
end Go.Proofs.Ytjpjiniclibgkaa.Sx

namespace Go.Proofs.Ytjpjiniclibgkaa.Sx

/-! ### types -/
def TOk (P : Program) (T : Tbl) : Prop := ∀ t ti, T.at t = some ti →
  P.underlying t = some ti.d ∧ cl ti.z = true ∧ (den η0 ti.z).cells.size = ti.size ∧ isG ti.z = aggD ti.d ∧ (∃ i, P.info? t = some i ∧ i.size = ti.size ∧ i.bytes = ti.bytes ∧ i.zero = some (den η0 ti.z)) ∧
  (ti.q = true → P.stoodInHeld t = false ∧ P.eqGuardType P.depth t = false ∧ ∀ fs, ti.d = .struct fs → ∀ f ∈ fs.toList, f.name ≠ "_")

/-! ### the world -/
def CkAt (η : Names) (w : World) (n : Nat) : Ck → Prop
  | .st e cs => ∃ b, (η n).A = some ⟨b, 0, none⟩ ∧ (η n).own = some b ∧ w.heap[b]? = some (.cells (dens η cs).toArray e (0, 0))
  | .row e z k xs => (xs.length = k * z ∧ ∀ u ∈ xs, u.oneCell' = true) ∧ (((η n).own = none ∧ k = 0 ∧ (η n).cap = 0) ∨
      ∃ b cur, (η n).A = some ⟨b, 0, none⟩ ∧ (η n).own = some b ∧ w.heap[b]? = some (.cells cur e (0, 0)) ∧ k ≤ (η n).cap ∧ (η n).cap ≤ maxLen ∧ cur.size = (η n).cap * z ∧ cur.toList.take (k * z) = xs)

/-- Where a call began. -/
structure Base where
  w0 : World
  mods : List Nat
  m0 : Mem
  k0 : Nat
  η0 : Names

structure Hold (B : Base) (η : Names) (m : Mem) (h : Heap) (nx : Nat) (w : World) : Prop where
  imm : ∀ b o, m b = some o → w.heap[b]? = some o
  ck : ∀ n c, lookH h n = some c → n < nx ∧ CkAt η w n c
  own : ∀ n c b, lookH h n = some c → (η n).own = some b → m b = none ∧ b < w.heap.size ∧ (b ∈ B.mods ∨ B.w0.heap.size ≤ b)
  apart : ∀ n c n' c' b, lookH h n = some c → lookH h n' = some c' → n ≠ n' → (η n).own = some b → (η n').own ≠ some b
  old : ∀ b, b < B.w0.heap.size → b ∉ B.mods → w.heap[b]? = B.w0.heap[b]?
  size : B.w0.heap.size ≤ w.heap.size
  os : w.os = B.w0.os
  tape : w.tape = B.w0.tape
  output : w.output = B.w0.output
  mle : ∀ b o, B.m0 b = some o → m b = some o
  mnew : ∀ b o, m b = some o → B.m0 b = some o ∨ B.w0.heap.size ≤ b ∨ b ∈ B.mods
  par : B.k0 ≤ nx ∧ ∀ n, n < B.k0 → η n = B.η0 n

/-- What the looks at memory rest on. -/
structure HQ (η : Names) (m : Mem) (h : Heap) (w : World) : Prop where
  imm : ∀ b o, m b = some o → w.heap[b]? = some o
  ck : ∀ n c, lookH h n = some c → True ∧ CkAt η w n c
theorem Hold.hq {B : Base} {η : Names} {m : Mem} {h : Heap} {nx : Nat} {w : World} (hH : Hold B η m h nx w) : HQ η m h w := ⟨hH.imm, fun n c hl => ⟨trivial, (hH.ck n c hl).2⟩⟩

structure HoldT (ops : List Oper) (η : Names) (st : St) (a : Act) : Prop where
  sz : a.tmps.size = st.sz
  df : a.defers = []
  sl : ∀ k tag x, look st.t k = some (tag, x) → a.tmps[k]? = some (if tagB st.gs tag then den η x else undef)
  gs : ∀ j g tg, lookG st.gs j = some (g, tg) → ∃ d, dstOf ops j = some d ∧ look st.t d = some (tg, .b g)

/-! ### tags -/
theorem beq_eq {a b : Nat} (h : Nat.beq a b = true) : a = b := Nat.eq_of_beq_eq_true h
theorem memT_sound {gs : Gs} {j : Nat} {w : Bool} : ∀ {tag : Tag}, memT j w tag = true → tagB gs tag = true → (match lookG gs j with | some (g, _) => g == w | none => false) = true
  | [], h, _ => by cases h
  | (i, u) :: r, h, ht => by
    simp only [tagB, Bool.and_eq_true] at ht
    simp only [memT] at h
    split at h
    · rename_i hb
      obtain rfl := beq_eq hb
      cases u <;> cases w <;> simp only at h
      · exact ht.1
      · exact memT_sound h ht.2
      · exact memT_sound h ht.2
      · exact ht.1
    · exact memT_sound h ht.2
theorem subT_sound {gs : Gs} {tag : Tag} : ∀ {tg : Tag}, subT tg tag = true → tagB gs tag = true → tagB gs tg = true
  | [], _, _ => rfl
  | (j, w) :: r, h, ht => by
    simp only [subT] at h
    split at h
    · rename_i hm
      simp only [tagB, Bool.and_eq_true]
      exact ⟨memT_sound hm ht, subT_sound h ht⟩
    · cases h
theorem gc_out {gs : Gs} {tag : Tag} {c : Prop} (h : gc gs tag c) (ht : tagB gs tag = true) : c := by
  cases tag with
  | nil => exact h
  | cons => exact h ht

/-! ### values without names -/
mutual
theorem den_cl (η η' : Names) : ∀ x : SV, cl x = true → den η x = den η' x
  | .b _, _ | .i _ _, _ | .s _, _ | .el _ _, _ | .np, _ | .sl _ _ _, _ | .gi _ _ _, _ | .ne, _ | .v _, _ | .kb _, _ | .ud, _ => rfl
  | .p _ _, h | .pj _ _ _, h | .rw _ _, h => by cases h
  | .g cs, h => by simp only [den, dens_cl η η' cs h]
  | .t cs, h => by simp only [den, dent_cl η η' cs h]
  | .e _ x, h => by simp only [den, den_cl η η' x h]
  | .fn _ a c, h => by
    simp only [cl, Bool.and_eq_true] at h
    simp only [den, dent_cl η η' a h.1, dent_cl η η' c h.2]
theorem dens_cl (η η' : Names) : ∀ l : List SV, cls l = true → dens η l = dens η' l
  | [], _ => rfl
  | x :: r, h => by
    simp only [cls, Bool.and_eq_true] at h
    have h1 := den_cl η η' x h.1
    have h2 := dens_cl η η' r h.2
    simp only [dens, h1, h2]
theorem dent_cl (η η' : Names) : ∀ l : List SV, cls l = true → dent η l = dent η' l
  | [], _ => rfl
  | x :: r, h => by
    simp only [cls, Bool.and_eq_true] at h
    simp only [dent, den_cl η η' x h.1, dent_cl η η' r h.2]
end
end Go.Proofs.Ytjpjiniclibgkaa.Sx

namespace Go.Proofs.Ytjpjiniclibgkaa.Sx

section
variable {ops : List Oper} {η : Names} {st : St} {a : Act}

theorem argAt_sound (ht : HoldT ops η st a) {tag : Tag} {x : Operand} {K : SV → Prop} (h : argAt st.t tag x K) :
    ∃ v, K v ∧ (tagB st.gs tag = true → a.eval x = den η v) := by
  cases x with
  | tmp k =>
    simp only [argAt] at h
    split at h
    · rename_i tg v hl
      split at h
      · rename_i hs
        obtain ⟨y, h, hy⟩ := normB_out h
        refine ⟨y, h, fun htag => ?_⟩
        have := ht.sl k tg v hl
        rw [subT_sound hs htag] at this
        rw [hy]
        simp [Act.eval, this]
      · exact h.elim
    · exact h.elim
  | const v =>
    simp only [argAt, force_eq] at h
    exact ⟨_, h, fun _ => (den_ofV η v).symm⟩
  | global g => exact ⟨_, h, fun _ => rfl⟩
  | func f => exact ⟨_, h, fun _ => rfl⟩

theorem argsAt_sound (ht : HoldT ops η st a) {tag : Tag} : ∀ {xs : List Operand} {K : List SV → Prop}, argsAt st.t tag xs K →
    ∃ vs, K vs ∧ (tagB st.gs tag = true → xs.map a.eval = dent η vs)
  | [], K, h => ⟨[], h, fun _ => rfl⟩
  | x :: r, K, h => by
    simp only [argsAt] at h
    obtain ⟨v, h, hv⟩ := argAt_sound ht h
    obtain ⟨vs, h, hvs⟩ := argsAt_sound ht h
    exact ⟨v :: vs, h, fun htag => by simp only [List.map_cons, dent, hv htag, hvs htag]⟩
theorem optArg_sound (ht : HoldT ops η st a) {tag : Tag} {x : Option Operand} {K : Option SV → Prop} (h : optArg st.t tag x K) :
    ∃ v, K v ∧ (tagB st.gs tag = true → x.map a.eval = v.map (den η)) := by
  cases x with
  | none => exact ⟨none, h, fun _ => rfl⟩
  | some x =>
    obtain ⟨v, h, hv⟩ := argAt_sound ht h
    exact ⟨some v, h, fun htag => by simp [hv htag]⟩
theorem pairs_sound (ht : HoldT ops η st a) {tag : Tag} : ∀ {ps : List (Nat × Operand)} {K : List (Nat × SV) → Prop}, pairs st.t tag ps K →
    ∃ vs : List (Nat × SV), K vs ∧ (tagB st.gs tag = true → ps.map (fun p => (p.1, a.eval p.2)) = vs.map fun p => (p.1, den η p.2))
  | [], K, h => ⟨[], h, fun _ => rfl⟩
  | (i, x) :: r, K, h => by
    simp only [pairs] at h
    obtain ⟨v, h, hv⟩ := argAt_sound ht h
    obtain ⟨vs, h, hvs⟩ := pairs_sound ht h
    exact ⟨(i, v) :: vs, h, fun htag => by simp only [List.map_cons, hv htag, hvs htag]⟩
end

section
variable (η : Names) {P : Program} {w : World} {C : Prop → Prop} {Tg : Prop}

theorem sameKind_eq {k k' : IntKind} (h : sameKind k k' = true) : k = k' := by cases k <;> cases k' <;> first | rfl | cases h

theorem intOp_sound {op : BinOp} {k : IntKind} {a b : Int} {K : SV → Prop} (hC : ∀ c, C c → Tg → c) (h : intOp op k a b C K) :
    ∃ x, K x ∧ ∀ w : World, (Tg → ∀ t, (binOp op t (.int k a) (.int k b)).run P w = .ok (den η x) w) := by
  cases op <;> simp only [intOp] at h
  case add => exact ⟨_, h, fun w _ t => by rw [binOp_add]; rfl⟩
  case sub => exact ⟨_, h, fun w _ t => by rw [binOp_sub]; rfl⟩
  case mul => exact ⟨_, h, fun w _ t => by rw [binOp_mul]; rfl⟩
  case and => exact ⟨_, h, fun w _ t => by rw [binOp_and]; rfl⟩
  case or => exact ⟨_, h, fun w _ t => by rw [binOp_or]; rfl⟩
  case xor => exact ⟨_, h, fun w _ t => by rw [binOp_xor]; rfl⟩
  case andNot => exact ⟨_, h, fun w _ t => by rw [binOp_andNot]; rfl⟩
  case eql => exact ⟨_, h, fun w _ t => by rw [binOp_eql]; rfl⟩
  case neq => exact ⟨_, h, fun w _ t => by rw [binOp_neq]; rfl⟩
  case lss => exact ⟨_, h, fun w _ t => by rw [binOp_lss]; rfl⟩
  case leq => exact ⟨_, h, fun w _ t => by rw [binOp_leq]; rfl⟩
  case gtr => exact ⟨_, h, fun w _ t => by rw [binOp_gtr]; rfl⟩
  case geq => exact ⟨_, h, fun w _ t => by rw [binOp_geq]; rfl⟩
  case quo => exact ⟨_, h.2, fun w ht t => by have hb := hC _ h.1 ht; rw [binOp_quo]; simp only [Op.intDiv, if_neg hb]; rfl⟩
  case rem => exact ⟨_, h.2, fun w ht t => by have hb := hC _ h.1 ht; rw [binOp_rem]; simp only [Op.intDiv, if_neg hb]; rfl⟩

theorem shiftOp_sound {op : BinOp} {k k' : IntKind} {a b : Int} {K : SV → Prop} (hC : ∀ c, C c → Tg → c) (h : shiftOp op k a b C K) :
    ∃ x, K x ∧ ∀ w : World, (Tg → ∀ t, (binOp op t (.int k a) (.int k' b)).run P w = .ok (den η x) w) := by
  cases op <;> simp only [shiftOp] at h
  case shl => exact ⟨_, h.2, fun w ht t => by
    have hb := hC _ h.1 ht
    have hn : ¬ b < 0 := by omega
    rw [binOp_shl]; simp only [Op.shift, if_neg hn]; rfl⟩
  case shr => exact ⟨_, h.2, fun w ht t => by
    have hb := hC _ h.1 ht
    have hn : ¬ b < 0 := by omega
    rw [binOp_shr]; simp only [Op.shift, if_neg hn]; rfl⟩

theorem strOp_sound {op : BinOp} {a b : ByteArray} {K : SV → Prop} (hC : ∀ c, C c → Tg → c) (h : strOp op a b C K) :
    ∃ x, K x ∧ ∀ w : World, (Tg → ∀ t, (binOp op t (.string a) (.string b)).run P w = .ok (den η x) w) := by
  cases op <;> simp only [strOp] at h
  case add => exact ⟨_, h.2, fun w ht t => by
    have hb := hC _ h.1 ht
    have hn : ¬ ((a.size + b.size : Nat) : Int) > IntKind.i64.max := by
      rw [show IntKind.i64.max = 9223372036854775807 from rfl]; omega
    rw [binOp_string_add]; simp only [Op.stringOp, if_neg hn]; rfl⟩
  case eql => exact ⟨_, h, fun w _ t => by rw [binOp_string_eql]; rfl⟩
  case neq => exact ⟨_, h, fun w _ t => by rw [binOp_string_neq]; rfl⟩
  case lss => exact ⟨_, h, fun w _ t => by rw [binOp_string_lss]; rfl⟩
  case leq => exact ⟨_, h, fun w _ t => by simp only [binOp, Op.stringOp]; rfl⟩
  case gtr => exact ⟨_, h, fun w _ t => by simp only [binOp, Op.stringOp]; rfl⟩
  case geq => exact ⟨_, h, fun w _ t => by simp only [binOp, Op.stringOp]; rfl⟩

theorem pointee_of {P : Program} {t e : TypeId} (h : P.underlying t = some (.pointer e)) : P.underlying t = some (.pointer (P.pointee t)) := by
  have : P.pointee t = e := by simp [Program.pointee, h]
  rw [this]; exact h

theorem binOpV_sound {h0 : Heap} {d : TypeDesc} {t : TypeId} (hd : P.underlying t = some d) {op : BinOp} {x y : SV} {K : SV → Prop} (hC : ∀ c, C c → Tg → c) (h : binOpV h0 d op x y C K) :
    ∃ v, K v ∧ ∀ w : World, (∀ n e cs, lookH h0 n = some (.st e cs) → (η n).A.isSome = true) → (Tg → (binOp op t (den η x) (den η y)).run P w = .ok (den η v) w) := by
  unfold binOpV at h
  split at h
  · split at h
    · obtain ⟨v, h, hv⟩ := shiftOp_sound η (P := P) hC h
      exact ⟨v, h, fun w _ ht => hv w ht t⟩
    · split at h
      · rename_i hk
        obtain rfl := sameKind_eq hk
        obtain ⟨v, h, hv⟩ := intOp_sound η (P := P) hC h
        exact ⟨v, h, fun w _ ht => hv w ht t⟩
      · exact h.elim
  · obtain ⟨v, h, hv⟩ := strOp_sound η (P := P) hC h
    exact ⟨v, h, fun w _ ht => hv w ht t⟩
  · split at h
    · exact ⟨_, h, fun w _ _ => run_eql_bool (P := P) w t _ _ hd⟩
    · exact ⟨_, h, fun w _ _ => run_neq_bool (P := P) w t _ _ hd⟩
    · exact h.elim
  · split at h
    · rename_i hl
      exact ⟨_, h, fun w hA _ => (run_eql_pointer_nil (P := P) w t _ (pointee_of hd)).trans (by rw [Option.isNone_map, ← Option.not_isSome, hA _ _ _ hl]; rfl)⟩
    · rename_i hl
      exact ⟨_, h, fun w hA _ => (run_neq_pointer_nil (P := P) w t _ (pointee_of hd)).trans (by rw [Option.isNone_map, ← Option.not_isSome, hA _ _ _ hl]; rfl)⟩
    · exact h.elim
  · split at h
    · exact ⟨_, h, fun w _ _ => run_eql_pointer_nil (P := P) w t none (pointee_of hd)⟩
    · exact ⟨_, h, fun w _ _ => run_neq_pointer_nil (P := P) w t none (pointee_of hd)⟩
    · exact h.elim
  · exact h.elim

theorem unOpV_sound {op : UnOp} {x : SV} {K : SV → Prop} (h : unOpV op x K) :
    ∃ v, K v ∧ ∀ w : World, (Op.unary op (den η x)).run P w = .ok (den η v) w := by
  unfold unOpV at h
  split at h
  · exact ⟨_, h, fun w => by simp only [den, Op.unary]; rfl⟩
  · exact ⟨_, h, fun w => by simp only [den, Op.unary, Op.intArith]; rfl⟩
  · exact ⟨_, h, fun w => by simp only [den, Op.unary]; rw [intBits_xor]; rfl⟩
  · exact h.elim
end
end Go.Proofs.Ytjpjiniclibgkaa.Sx

namespace Go.Proofs.Ytjpjiniclibgkaa.Sx

/-! ### lists of parts -/
theorem ints_length (n : Nat) (k : IntKind) (f : Nat → Int) : (ints n k f).length = n := by simp [ints]
theorem dens_append (η : Names) : ∀ a b : List SV, dens η (a ++ b) = dens η a ++ dens η b
  | [], _ => rfl
  | x :: r, b => by simp only [List.cons_append, dens, dens_append η r b, List.append_assoc]
theorem dens_one (η : Names) (x : SV) (h : isGi x = false) : dens η [x] = [den η x] := by cases x <;> first | rfl | cases h
theorem drop_app (x y : List Value) (n k : Nat) (h : x.length = k) (hk : k ≤ n) : (x ++ y).drop n = y.drop (n - k) := by
  rw [List.drop_append, List.drop_of_length_le (by omega), List.nil_append, h]
theorem take_app (x y : List Value) (n k : Nat) (h : x.length = k) (hk : k ≤ n) : (x ++ y).take n = x ++ y.take (n - k) := by
  rw [List.take_append, List.take_of_length_le (by omega), h]
theorem dens_len (η : Names) (x : SV) : (dens η [x]).length = wid x := by
  cases x <;> simp [dens, pc, wid, ints_length]
theorem dens_cons (η : Names) (x : SV) (r : List SV) : dens η (x :: r) = dens η [x] ++ dens η r := by
  simp only [dens, List.append_nil]
theorem widL_len (η : Names) : ∀ l : List SV, (dens η l).length = widL l
  | [] => rfl
  | x :: r => by rw [dens_cons, List.length_append, dens_len, widL_len η r]; rfl
theorem ble_le {a b : Nat} (h : Nat.ble a b = true) : a ≤ b := Nat.le_of_ble_eq_true h

theorem partAt_sound : ∀ {l : List SV} {o : Nat} {K : SV → Prop}, partAt l o K →
    ∃ x, K x ∧ ∀ η, o + wid x ≤ (dens η l).length ∧ dens η [x] = ((dens η l).drop o).take (wid x)
  | [], _, _, h => h.elim
  | x :: r, o, K, h => by
    simp only [partAt] at h
    split at h
    · rename_i ho
      obtain rfl := beq_eq ho
      rw [force_eq] at h
      refine ⟨x, h, fun η => ?_⟩
      rw [dens_cons η x r, List.length_append, dens_len]
      exact ⟨by omega, by rw [List.drop_zero, List.take_left' (dens_len η x)]⟩
    · split at h
      · rename_i hb
        have hle := ble_le hb
        obtain ⟨y, hy, hh⟩ := partAt_sound h
        refine ⟨y, hy, fun η => ?_⟩
        have h' := hh η
        rw [dens_cons η x r, List.length_append, dens_len]
        refine ⟨by omega, ?_⟩
        rw [h'.2, drop_app _ _ _ _ (dens_len η x) hle]
      · exact h.elim
theorem takeN_sound : ∀ {l : List SV} {n : Nat} {K : List SV → Prop}, takeN l n K →
    ∃ a, K a ∧ ∀ η, n ≤ (dens η l).length ∧ dens η a = (dens η l).take n
  | l, 0, K, h => ⟨[], by cases l <;> simpa [takeN] using h, fun η => ⟨Nat.zero_le _, by simp [dens]⟩⟩
  | [], _ + 1, _, h => h.elim
  | x :: r, n + 1, K, h => by
    simp only [takeN] at h
    split at h
    · rename_i hb
      have hle := ble_le hb
      rw [force_eq] at h
      obtain ⟨a, ha, hh⟩ := takeN_sound h
      refine ⟨x :: a, ha, fun η => ?_⟩
      have h' := hh η
      rw [dens_cons η x r, List.length_append, dens_len, dens_cons η x a, h'.2, take_app _ _ _ _ (dens_len η x) hle]
      exact ⟨by omega, rfl⟩
    · exact h.elim
theorem dropN_sound : ∀ {l : List SV} {n : Nat} {K : List SV → Prop}, dropN l n K →
    ∃ b, K b ∧ ∀ η, n ≤ (dens η l).length ∧ dens η b = (dens η l).drop n
  | l, 0, K, h => ⟨l, by cases l <;> simpa [dropN] using h, fun η => ⟨Nat.zero_le _, by simp⟩⟩
  | [], _ + 1, _, h => h.elim
  | x :: r, n + 1, K, h => by
    simp only [dropN] at h
    split at h
    · rename_i hb
      have hle := ble_le hb
      obtain ⟨b, hb, hh⟩ := dropN_sound h
      refine ⟨b, hb, fun η => ?_⟩
      have h' := hh η
      rw [dens_cons η x r, List.length_append, dens_len, h'.2, drop_app _ _ _ _ (dens_len η x) hle]
      exact ⟨by omega, rfl⟩
    · exact h.elim
theorem appK_eq : ∀ (a b : List SV) (K : List SV → Prop), appK a b K = K (a ++ b)
  | [], _, _ => rfl
  | x :: r, b, K => by simp only [appK, appK_eq r b, List.cons_append]
theorem widK_eq : ∀ (l : List SV) (a : Nat) (K : Nat → Prop), widK l a K = K (a + widL l)
  | [], _, _ => rfl
  | x :: r, a, K => by
    simp only [widK, forceN_eq, widL]
    rw [widK_eq r, Nat.add_assoc]
theorem putAt_sound {cs : List SV} {o n : Nat} {new : List SV} {K : List SV → Prop} (h : putAt cs o n new K) :
    ∃ cs', K cs' ∧ ∀ η, (dens η new).length = n ∧ o + n ≤ (dens η cs).length ∧ dens η cs' = (dens η cs).take o ++ (dens η new ++ (dens η cs).drop (o + n)) := by
  unfold putAt at h
  rw [widK_eq, Nat.zero_add] at h
  split at h
  · rename_i hw
    obtain ⟨a, h, ha⟩ := takeN_sound h
    obtain ⟨b, h, hb⟩ := dropN_sound h
    rw [appK_eq, appK_eq] at h
    exact ⟨_, h, fun η => ⟨by rw [widL_len]; exact beq_eq hw, (hb η).1, by rw [dens_append, dens_append, (ha η).2, (hb η).2]⟩⟩
  · exact h.elim
theorem plain_one (η : Names) (x : SV) (h : plainB x = true) : (den η x).oneCell' = true := by cases x <;> first | rfl | exact h | cases h
theorem plain_gi {x : SV} (h : plainB x = true) : isGi x = false := by cases x <;> first | rfl | cases h
theorem plain_wid {x : SV} (h : plainB x = true) : wid x = 1 := by cases x <;> first | rfl | cases h
theorem getAt_sound {cs : List SV} {g : Bool} {o n : Nat} {K : SV → Prop} (h : getAt cs g o n K) :
    ∃ x, K x ∧ ∀ η, match g with
      | true => o + n ≤ (dens η cs).length ∧ den η x = .agg (((dens η cs).drop o).take n).toArray
      | false => (dens η cs)[o]? = some (den η x) := by
  cases g with
  | true =>
    simp only [getAt] at h
    obtain ⟨b, h, hb⟩ := dropN_sound h
    obtain ⟨a, h, ha⟩ := takeN_sound h
    refine ⟨_, h, fun η => ⟨?_, ?_⟩⟩
    · have h1 := (hb η).1; have h2 := (ha η).1; rw [(hb η).2, List.length_drop] at h2; omega
    · simp only [den]; rw [(ha η).2, (hb η).2]
  | false =>
    simp only [getAt] at h
    obtain ⟨x, h, hx⟩ := partAt_sound h
    split at h
    · rename_i hp
      refine ⟨x, h, fun η => ?_⟩
      have h1 := hx η
      have hgi := plain_gi hp
      have hw := plain_wid hp
      rw [hw] at h1
      rw [dens_one η x hgi] at h1
      have h2 := congrArg (·[0]?) h1.2
      simpa using h2.symm
    · exact h.elim
theorem cells_one (v : Value) (h : v.oneCell' = true) : v.cells.toList = [v] := by cases v <;> first | rfl | cases h
theorem parts_sound {x : SV} {K : List SV → Prop} (h : parts x K) : ∃ cs, K cs ∧ ∀ η, (isG x = true ∨ plainB x = true) → (den η x).cells.toList = dens η cs := by
  unfold parts at h
  split at h
  · exact ⟨_, h, fun η _ => by simp [den, Value.cells]⟩
  · rename_i hg
    refine ⟨_, h, fun η hx => ?_⟩
    have hp : plainB x = true := hx.resolve_left (fun e => by cases x with
      | g cs => exact (hg cs rfl).elim
      | _ => cases e)
    rw [cells_one _ (plain_one η x hp), dens_one η x (plain_gi hp)]
end Go.Proofs.Ytjpjiniclibgkaa.Sx

namespace Go.Proofs.Ytjpjiniclibgkaa.Sx

section
variable {P : Program} {T : Tbl} (hT : TOk P T) {w : World}
include hT

theorem run_isAgg {t : TypeId} {ti : TI} (h : T.at t = some ti) : (isAgg t).run P w = .ok (aggD ti.d) w := by
  have hu := (hT t ti h).1
  simp only [isAgg, Sem.run_bind, run_underlying hu, Result.andThen_ok]
  cases ti.d <;> rfl
theorem run_size {t : TypeId} {ti : TI} (h : T.at t = some ti) : (sizeOf t).run P w = .ok ti.size w := by
  obtain ⟨_, _, _, _, ⟨i, hi, hs, _⟩, _⟩ := hT t ti h
  simp [sizeOf, typeInfo, hi, hs]
theorem run_load_agg {t : TypeId} {ti : TI} (h : T.at t = some ti) (hd : aggD ti.d = true) (a : Addr) (vs : List Value) (hl : vs.length = ti.size)
    (hc : ∀ (j : Nat) v, vs[j]? = some v → w.cell? (a.add j) = some v) : (loadVar t a).run P w = .ok (.agg vs.toArray) w := by
  have h1 := run_isAgg hT (w := w) h
  rw [hd] at h1
  have h2 := run_size hT (w := w) h
  rw [← hl] at h2
  simp only [loadVar, Sem.run_bind, h1, h2, Result.andThen_ok, if_true, run_loadCells_list (P := P) w a vs hc]
  rfl
theorem run_load_one {t : TypeId} {ti : TI} (h : T.at t = some ti) (hd : aggD ti.d = false) (a : Addr) (v : Value)
    (hc : w.cell? a = some v) : (loadVar t a).run P w = .ok v w := by
  have h1 := run_isAgg hT (w := w) h
  rw [hd] at h1
  simp only [loadVar, Sem.run_bind, h1, Result.andThen_ok, Bool.false_eq_true, if_false, run_load, hc]
end

theorem add_base (b o : Nat) : (⟨b, 0, none⟩ : Addr).add o = ⟨b, o, none⟩ := by unfold Addr.add; split <;> simp_all
theorem add_add (a : Addr) (i j : Nat) : (a.add i).add j = a.add (i + j) := by
  unfold Addr.add
  by_cases hi : i = 0 <;> by_cases hj : j = 0 <;> simp [hi, hj, Nat.add_assoc]
theorem add_zero' (a : Addr) : a.add 0 = a := rfl

section
variable {P : Program} {T : Tbl} (hT : TOk P T) {B : Base} {η : Names} {m : Mem} {h : Heap} {nx : Nat} {w : World} {C : Prop → Prop} {Tg : Prop} (hC : ∀ c, C c → Tg → c)

theorem mcell_cell {a : Addr} {v : Value} (hH : HQ η m h w) (hm : mcell m a = some v) : w.cell? a = some v := by
  unfold mcell at hm
  split at hm
  · rename_i c e f hb
    have := hH.imm _ _ hb
    simp only [World.cell?, this]
    exact hm
  · cases hm

/-- The cells of a value that is read, and the value. -/
theorem cellsV_den {x : SV} (hcl : cl x = true) (hg : isG x = true) : den η x = .agg (cellsV x).toArray := by
  cases x with
  | g cs => simp only [den, cellsV, dens_cl η η0 cs hcl]
  | _ => cases hg
theorem cellsV_one {x : SV} (hcl : cl x = true) (hg : isG x = false) : cellsV x = [den η x] := by
  cases x with
  | g cs => cases hg
  | _ => simp only [cellsV]; rw [den_cl η0 η _ hcl]

include hT in
/-- A load out of cells that are known as what they were asked for. -/
theorem load_cells {t : TypeId} {ti : TI} (hti : T.at t = some ti) {x : SV} (hcl : cl x = true) (hg : isG x = aggD ti.d) {a : Addr} (hl : (cellsV x).length = ti.size)
    (hc : ∀ (j : Nat) v, (cellsV x)[j]? = some v → w.cell? (a.add j) = some v) : (Instr.loadAt t (.pointer (some a))).run P w = .ok (den η x) w := by
  simp only [Instr.loadAt, Instr.sureAddr, Sem.run_bind, Sem.run_pure, Result.andThen_ok]
  cases hd : aggD ti.d with
  | true =>
    rw [cellsV_den hcl (hg.trans hd)]
    exact run_load_agg hT hti hd a _ hl hc
  | false =>
    have h1 := cellsV_one (η := η) hcl (hg.trans hd)
    exact run_load_one hT hti hd a _ (by have := hc 0 (den η x) (by rw [h1]; rfl); rwa [add_zero'] at this)

include hT hC in
theorem loadV_sound {t : TypeId} {x : SV} {K : SV → Prop} (hl : loadV T h m C t x K) :
    ∃ v, K v ∧ ∀ w : World, HQ η m h w → (Tg → (Instr.loadAt t (den η x)).run P w = .ok (den η v) w) := by
  unfold loadV at hl
  split at hl
  · exact hl.elim
  rename_i ti hti
  split at hl
  · rename_i n o
    split at hl
    · rename_i e cs hlk
      obtain ⟨v, hk, hv⟩ := getAt_sound hl
      refine ⟨v, hk, fun w hH _ => ?_⟩
      obtain ⟨b, hA, _, hb⟩ := (hH.ck n _ hlk).2
      simp only [den, hA, Option.map_some, add_base, Instr.loadAt, Instr.sureAddr, Sem.run_bind, Sem.run_pure, Result.andThen_ok]
      have hv := hv η
      cases hd : aggD ti.d with
      | true =>
        rw [hd] at hv
        obtain ⟨hlen, hv⟩ := hv
        rw [hv]
        refine run_load_agg hT hti hd _ _ (by rw [List.length_take, List.length_drop]; omega) fun j u hu => ?_
        have : (⟨b, o, none⟩ : Addr).add j = ⟨b, o + j, none⟩ := by rw [← add_base, add_add, add_base]
        rw [this, cell_of_row w b (o + j) _ e (0, 0) hb]
        rw [List.getElem?_take] at hu
        split at hu
        · rw [List.getElem?_drop] at hu; simpa using hu
        · cases hu
      | false =>
        rw [hd] at hv
        exact run_load_one hT hti hd _ _ (by rw [cell_of_row w b o _ e (0, 0) hb]; simpa using hv)
    · rename_i e z k xs hlk
      obtain ⟨x, ⟨hcl, hg, hpos, hc⟩, hk⟩ := hl
      refine ⟨x, hk, fun w hH ht => ?_⟩
      obtain ⟨hlen, hcs⟩ := hC _ hc ht
      obtain ⟨hxl, hrow⟩ := (hH.ck n _ hlk).2
      have hsz : (cellsV x).length = ti.size := by rw [hcs, List.length_take, List.length_drop]; omega
      rcases hrow with ⟨_, hk0, _⟩ | ⟨b, cur, hA, _, hb, _, _, _, htake⟩
      · subst hk0
        have hx0 : xs.length = 0 := by have := hxl.1; omega
        have : 0 < ti.size := ble_le hpos
        omega
      · simp only [den, hA, Option.map_some, add_base]
        refine load_cells hT hti hcl hg hsz fun j u hu => ?_
        have : (⟨b, o, none⟩ : Addr).add j = ⟨b, o + j, none⟩ := by rw [← add_base, add_add, add_base]
        rw [this, cell_of_row w b (o + j) _ e (0, 0) hb]
        rw [hcs, List.getElem?_take] at hu
        split at hu
        · rw [List.getElem?_drop, ← htake, List.getElem?_take] at hu
          split at hu
          · simpa using hu
          · cases hu
        · cases hu
    · exact hl.elim
  · rename_i n o j
    split at hl
    · rename_i e cs hlk
      split at hl
      · rename_i k hd
        obtain ⟨y, hl, hy⟩ := partAt_sound hl
        split at hl
        · rename_i k' kd f
          obtain ⟨hc, hk⟩ := hl
          refine ⟨_, hk, fun w hH ht => ?_⟩
          have hj := hC _ hc ht
          obtain ⟨b, hA, _, hb⟩ := (hH.ck n _ hlk).2
          simp only [den, hA, Option.map_some, add_base, Instr.loadAt, Instr.sureAddr, Sem.run_bind, Sem.run_pure, Result.andThen_ok]
          refine run_load_one hT hti (by rw [hd]; rfl) _ _ ?_
          rw [cell_of_row w b (o + j) _ e (0, 0) hb]
          have h2 := congrArg (·[j]?) (hy η).2
          simp only [wid, List.getElem?_take, hj, if_true, List.getElem?_drop] at h2
          rw [List.getElem?_toArray, ← h2]
          simp [dens, pc, ints, hj]
        · exact hl.elim
      · exact hl.elim
    · exact hl.elim
  · rename_i A o
    obtain ⟨x, ⟨hcl, hg, hc⟩, hk⟩ := hl
    refine ⟨x, hk, fun w hH ht => ?_⟩
    obtain ⟨a, rfl, hlen, hcs⟩ := hC _ hc ht
    simp only [den, Option.map_some]
    refine load_cells hT hti hcl hg hlen fun j u hu => ?_
    rw [add_add]
    exact mcell_cell hH (hcs j u hu)
  · exact hl.elim

include hC in
theorem live_sound {n : Nat} {K : Prop} (hl : live h C n K) : K ∧ ∀ w : World, HQ η m h w → (Tg → ∃ b, (η n).A = some ⟨b, 0, none⟩) := by
  unfold live at hl
  split at hl
  · rename_i hlk
    refine ⟨hl, fun w hH _ => ?_⟩
    obtain ⟨b, hA, _⟩ := (hH.ck n _ hlk).2
    exact ⟨b, hA⟩
  · rename_i hlk
    refine ⟨hl.2, fun w hH ht => ?_⟩
    have h0 := hC _ hl.1 ht
    obtain ⟨_, ⟨_, hk, _⟩ | ⟨b, _, hA, _⟩⟩ := (hH.ck n _ hlk).2
    · omega
    · exact ⟨b, hA⟩
  · exact hl.elim

theorem fieldOf_get : ∀ {fs : List Field} {n : Nat} {f : Field}, fieldOf fs n = some f → fs[n]? = some f
  | [], _, _, h => by cases h
  | _ :: _, 0, _, h => by simpa [fieldOf] using h
  | _ :: r, n + 1, f, h => by simpa [fieldOf] using fieldOf_get (fs := r) h

include hT in
theorem run_fieldAt {t : TypeId} {ti : TI} {fs : Array Field} (hti : T.at t = some ti) (hd : ti.d = .struct fs) {f : Nat} {fl : Field} (hf : fieldOf fs.toList f = some fl) {tf : TI} (htf : T.at fl.type = some tf) {k : Nat} (hsz : tf.size = k + 1) (a : Addr) :
    (Instr.fieldAt t (.pointer (some a)) f).run P w = .ok (.pointer (some (a.add fl.offset))) w := by
  have hu := (hT t ti hti).1
  rw [hd] at hu
  have hs := run_size hT (w := w) htf
  rw [hsz] at hs
  have hg : fs[f]? = some fl := by have := fieldOf_get hf; simpa using this
  simp only [Instr.fieldAt, Sem.run_bind, run_underlying hu, Result.andThen_ok, hg, Instr.sureAddr, Sem.run_pure, fieldPlace, hs]
  rfl

include hT hC in
theorem fieldAddrV_sound {t : TypeId} {x : SV} {f : Nat} {K : SV → Prop} (hl : fieldAddrV T h C t x f K) :
    ∃ v, K v ∧ ∀ w : World, HQ η m h w → (Tg → (Instr.fieldAt t (den η x) f).run P w = .ok (den η v) w) := by
  unfold fieldAddrV at hl
  split at hl
  · rename_i ti hti
    split at hl
    · rename_i fs hd
      split at hl
      · rename_i fl hf
        split at hl
        · rename_i tf htf
          split at hl
          · exact hl.elim
          · rename_i k hsz
            split at hl
            · obtain ⟨hk, hb⟩ := live_sound (η := η) (m := m) hC hl
              refine ⟨_, hk, fun w hH ht => ?_⟩
              obtain ⟨b, hA⟩ := hb w hH ht
              simp only [den, hA, Option.map_some]
              rw [run_fieldAt hT hti hd hf htf hsz, add_add]
            · refine ⟨_, hl.2, fun w hH ht => ?_⟩
              have hA := hC _ hl.1 ht
              rename_i A o
              obtain ⟨a, rfl⟩ := Option.isSome_iff_exists.1 hA
              simp only [den, Option.map_some]
              rw [run_fieldAt hT hti hd hf htf hsz, add_add]
            · exact hl.elim
        · exact hl.elim
      · exact hl.elim
    · exact hl.elim
  · exact hl.elim

include hT hC in
theorem indexAddrV_sound {t : TypeId} {x ix : SV} {K : SV → Prop} (hl : indexAddrV T h t x ix C K) :
    ∃ v, K v ∧ ∀ w : World, HQ η m h w → (Tg → (Instr.indexAt t (den η x) (den η ix)).run P w = .ok (den η v) w) := by
  unfold indexAddrV at hl
  split at hl
  · rename_i k i
    split at hl
    · rename_i ti hti
      have hu := (hT t ti hti).1
      split at hl
      · rename_i e hd
        rw [hd] at hu
        split at hl
        · rename_i te hte
          split at hl
          · rename_i A len c
            refine ⟨_, hl.2, fun w hH ht => ?_⟩
            obtain ⟨h0, h1, hA⟩ := hC _ hl.1 ht
            obtain ⟨a, rfl⟩ := Option.isSome_iff_exists.1 hA
            simp [den, Instr.indexAt, asIntOf, run_underlying hu, h0, h1, run_size hT hte]
          · rename_i r len
            split at hl
            · rename_i hlk
              refine ⟨_, hl.2, fun w hH ht => ?_⟩
              obtain ⟨h0, h1, hk⟩ := hC _ hl.1 ht
              obtain ⟨_, ⟨_, hk0, _⟩ | ⟨b, _, hA, _⟩⟩ := (hH.ck r _ hlk).2
              · omega
              · simp [den, hA, Instr.indexAt, asIntOf, run_underlying hu, h0, h1, run_size hT hte]
            · exact hl.elim
          · exact hl.elim
        · exact hl.elim
      · rename_i n e hd
        rw [hd] at hu
        split at hl
        · rename_i te hte
          split at hl
          · rename_i b o
            split at hl
            · rename_i hsz
              obtain ⟨⟨hc, hk⟩, hb⟩ := live_sound (η := η) (m := m) hC hl
              refine ⟨_, hk, fun w hH ht => ?_⟩
              obtain ⟨g, hA⟩ := hb w hH ht
              obtain ⟨h0, h1⟩ := hC _ hc ht
              simp [den, hA, Instr.indexAt, asIntOf, run_underlying hu, Instr.sureAddr, h0, h1, run_size hT hte, hsz, add_add]
            · exact hl.elim
          · rename_i A o
            refine ⟨_, hl.2, fun w hH ht => ?_⟩
            obtain ⟨h0, h1, hA⟩ := hC _ hl.1 ht
            obtain ⟨a, rfl⟩ := Option.isSome_iff_exists.1 hA
            simp [den, Instr.indexAt, asIntOf, run_underlying hu, Instr.sureAddr, h0, h1, run_size hT hte, add_add]
          · exact hl.elim
        · exact hl.elim
      · exact hl.elim
    · exact hl.elim
  · exact hl.elim
end
end Go.Proofs.Ytjpjiniclibgkaa.Sx

namespace Go.Proofs.Ytjpjiniclibgkaa.Sx

section
variable {P : Program} {T : Tbl} (hT : TOk P T) {B : Base} {η : Names} {m : Mem} {h : Heap} {nx : Nat} {C : Prop → Prop} {Tg : Prop} (hC : ∀ c, C c → Tg → c)

include hT hC in
theorem indexV_sound {t : TypeId} {x ix : SV} {K : SV → Prop} (hl : indexV T t x ix C K) :
    ∃ v, K v ∧ ∀ w : World, (Tg → (Instr.index t (den η x) (den η ix)).run P w = .ok (den η v) w) := by
  unfold indexV at hl
  split at hl
  · rename_i k i
    split at hl
    · rename_i ti hti
      have hu := (hT t ti hti).1
      split at hl
      · rename_i s hd
        rw [hd] at hu
        refine ⟨_, hl.2, fun w ht => ?_⟩
        obtain ⟨h0, h1⟩ := hC _ hl.1 ht
        have hlt : i.toNat < s.size := by omega
        simp only [den, Instr.index, asIntOf, Sem.run_bind, Sem.run_pure, Result.andThen_ok, run_underlying hu, h0, if_true]
        rw [getElem?_pos s i.toNat hlt]
        have hb : s.data.toList.getD i.toNat 0 = s[i.toNat] := by
          rw [List.getD_eq_getElem?_getD, List.getElem?_eq_getElem (by simpa using hlt)]
          rfl
        simp only [sb]; rw [hb]; rfl
      · rename_i n e k' kd f hd
        rw [hd] at hu
        split at hl
        · rename_i te hb hte
          obtain rfl := beq_eq hb
          split at hl
          · rename_i hde hsz
            refine ⟨_, hl.2, fun w ht => ?_⟩
            obtain ⟨h0, h1⟩ := hC _ hl.1 ht
            have hlt : i.toNat < n := by omega
            have hs := run_size hT (w := w) hte
            have hag := run_isAgg hT (w := w) hte
            rw [hde] at hag
            simp only [den, Instr.index, asIntOf, Sem.run_bind, Sem.run_pure, Result.andThen_ok, run_underlying hu, h0, h1, and_self, if_true, hs, hsz, Nat.mul_one, part, hag, aggD, Bool.false_eq_true, if_false]
            simp [dens, pc, ints, hlt]
          · exact hl.elim
        · exact hl.elim
      · exact hl.elim
    · exact hl.elim
  · exact hl.elim

include hT in
theorem run_part_get {t : TypeId} {tf : TI} (htf : T.at t = some tf) {cs : List SV} {o : Nat} {K : SV → Prop} (hg : getAt cs (aggD tf.d) o tf.size K) :
    ∃ v, K v ∧ ∀ w : World, (part t (dens η cs).toArray o).run P w = .ok (den η v) w := by
  obtain ⟨v, hk, hv⟩ := getAt_sound hg
  refine ⟨v, hk, fun w => ?_⟩
  have hv := hv η
  have hag := run_isAgg hT (w := w) htf
  have hs := run_size hT (w := w) htf
  cases hd : aggD tf.d with
  | true =>
    rw [hd] at hv hag
    simp only [part, Sem.run_bind, hag, Result.andThen_ok, if_true, hs, hv.2]
    simp only [Sem.run_pure, List.extract_toArray]
    rw [List.extract_eq_take_drop]
    simp
  | false =>
    rw [hd] at hv hag
    simp only [part, Sem.run_bind, hag, Result.andThen_ok, Bool.false_eq_true, if_false]
    simp only [List.getElem?_toArray, hv]
    rfl

include hT in
theorem fieldV_sound {t : TypeId} {x : SV} {f : Nat} {K : SV → Prop} (hl : fieldV T t x f K) :
    ∃ v, K v ∧ ∀ w : World, (Instr.field t (den η x) f).run P w = .ok (den η v) w := by
  unfold fieldV at hl
  split at hl
  · rename_i ti hti
    have hu := (hT t ti hti).1
    split at hl
    · rename_i fs hd
      rw [hd] at hu
      split at hl
      · rename_i fl hf
        have hg : fs[f]? = some fl := by have := fieldOf_get hf; simpa using this
        split at hl
        · rename_i tf htf
          split at hl
          · obtain ⟨v, hk, hv⟩ := run_part_get (η := η) hT htf hl
            refine ⟨v, hk, fun w => ?_⟩
            simp only [den, Instr.field, Sem.run_bind, run_underlying hu, Result.andThen_ok, hg, asAgg, Sem.run_pure, hv w]
          · exact hl.elim
        · exact hl.elim
      · exact hl.elim
    · exact hl.elim
  · exact hl.elim

theorem convV_sound (hT : TOk P T) {a b : TypeId} {x : SV} {K : SV → Prop} (hl : convV T a b x K) :
    ∃ v, K v ∧ ∀ w : World, (convert a b (den η x)).run P w = .ok (den η v) w := by
  unfold convV at hl
  split at hl
  · rename_i ta tb hta htb
    have hua := (hT a ta hta).1
    have hub := (hT b tb htb).1
    split at hl
    · split at hl
      · rename_i hdb
        split at hl
        · rename_i hda
          rw [hda] at hua
          rw [hdb] at hub
          exact ⟨_, hl, fun w => by simp [den, convert, run_underlying hua, run_underlying hub, Conv.intToInt]⟩
        · exact hl.elim
      · exact hl.elim
    · split at hl
      · rename_i hdb hda
        rw [hda] at hua
        rw [hdb] at hub
        exact ⟨_, hl, fun w => by simp [den, convert, run_underlying hua, run_underlying hub]⟩
      · exact hl.elim
    · exact hl.elim
  · exact hl.elim

theorem bnd_sound {x : Option SV} {dflt top : Nat} {K : Nat → Prop} (hC : ∀ c, C c → Tg → c) (hl : bnd x dflt top C K) :
    ∃ n, K n ∧ ∀ w : World, (Tg → match x with
      | none => n = dflt
      | some x => n ≤ top ∧ ∀ code, (Instr.sliceBound (den η x) top code).run P w = .ok n w) := by
  unfold bnd at hl
  split at hl
  · exact ⟨_, hl, fun _ _ => rfl⟩
  · refine ⟨_, hl.2, fun w ht => ?_⟩
    obtain ⟨h0, h1⟩ := hC _ hl.1 ht
    refine ⟨by omega, fun code => ?_⟩
    simp [den, Instr.sliceBound, asIntOf, h0, h1]
  · exact hl.elim

theorem map_add0 (A : Option Addr) : A.map (fun x => x.add 0) = A := by cases A <;> rfl
include hT hC in
theorem sliceV_sound {t : TypeId} {x : SV} {lo hi : Option SV} {K : SV → Prop} (hl : sliceV T h t x lo hi C K) :
    ∃ v, K v ∧ ∀ w : World, HQ η m h w → (Tg → (Instr.sliceAt t (den η x) (lo.map (den η)) (hi.map (den η)) none).run P w = .ok (den η v) w) := by
  unfold sliceV at hl
  split at hl
  · rename_i ti hti
    have hu := (hT t ti hti).1
    split at hl
    · rename_i s hd
      rw [hd] at hu
      obtain ⟨h1, hl, hh⟩ := bnd_sound (η := η) (P := P) hC hl
      obtain ⟨l1, hl, hll⟩ := bnd_sound (η := η) (P := P) hC hl
      refine ⟨_, hl, fun w hH ht => ?_⟩
      have hh' := hh w ht
      have hll' := hll w ht
      clear hh hll
      cases hi <;> cases lo <;> simp only at hh' hll'
      · subst hh' hll'; simp [den, Instr.sliceAt, run_underlying hu, Instr.slice, Instr.sliceBounds]
      · subst hh'; simp [den, Instr.sliceAt, run_underlying hu, Instr.slice, Instr.sliceBounds, hll'.2]
      · subst hll'; simp [den, Instr.sliceAt, run_underlying hu, Instr.slice, Instr.sliceBounds, hh'.2]
      · simp [den, Instr.sliceAt, run_underlying hu, Instr.slice, Instr.sliceBounds, hh'.2, hll'.2]
    · rename_i e A len cap hd
      rw [hd] at hu
      split at hl
      · rename_i te hte
        obtain ⟨h1, hl, hh⟩ := bnd_sound (η := η) (P := P) hC hl
        obtain ⟨l1, hl, hll⟩ := bnd_sound (η := η) (P := P) hC hl
        cases lo with
        | none =>
          cases hi with
          | none =>
            refine ⟨_, hl, fun w hH ht => ?_⟩
            simp [den, Instr.sliceAt, run_underlying hu, Instr.slice, Instr.sliceBounds, run_size hT hte, map_add0]
          | some hi =>
            refine ⟨_, hl, fun w hH ht => ?_⟩
            have hh' := hh w ht
            clear hh hll
            simp [den, Instr.sliceAt, run_underlying hu, Instr.slice, Instr.sliceBounds, run_size hT hte, hh'.2, map_add0]
        | some lo =>
          refine ⟨_, hl, fun w hH ht => ?_⟩
          have hh' := hh w ht
          have hll' := hll w ht
          clear hh hll
          simp only at hll'
          cases hi <;> simp only at hh'
          · subst hh'; simp [den, Instr.sliceAt, run_underlying hu, Instr.slice, Instr.sliceBounds, run_size hT hte, hll'.2]
          · simp [den, Instr.sliceAt, run_underlying hu, Instr.slice, Instr.sliceBounds, run_size hT hte, hh'.2, hll'.2]
      · exact hl.elim
    · rename_i e r len hd
      rw [hd] at hu
      split at hl
      · rename_i te hte
        split at hl
        · rename_i e' z k xs hlk
          obtain ⟨hc, hl⟩ := hl
          have hcap : ∀ w : World, HQ η m h w → k ≤ (η r).cap := by
            intro w hH
            rcases (hH.ck r _ hlk).2 with ⟨_, ⟨_, hk, hc⟩ | ⟨_, _, _, _, _, hk, _⟩⟩ <;> omega
          cases hi with
          | none =>
            simp only [bnd] at hl
            refine ⟨_, hl, fun w hH ht => ?_⟩
            simp [den, Instr.sliceAt, run_underlying hu, Instr.slice, Instr.sliceBounds, run_size hT hte, map_add0]
          | some hi =>
            cases hi with
            | i kd n =>
              simp only [bnd] at hl
              refine ⟨_, hl.2, fun w hH ht => ?_⟩
              have hk := hC _ hc ht
              have hcap := hcap w hH
              obtain ⟨h0, h1⟩ := hC _ hl.1 ht
              have h2 : n ≤ ((η r).cap : Int) := by omega
              simp [den, Instr.sliceAt, run_underlying hu, Instr.slice, Instr.sliceBounds, Instr.sliceBound, asIntOf, run_size hT hte, map_add0, h0, h2]
            | _ => exact hl.elim
        · exact hl.elim
      · exact hl.elim
    · exact hl.elim
  · exact hl.elim

theorem foldK_sound {f : SV → SV → (SV → Prop) → Prop} {F : Value → Value → Sem Value} (hf : ∀ x y K, f x y K → ∃ v, K v ∧ ∀ w : World, (F (den η x) (den η y)).run P w = .ok (den η v) w) :
    ∀ {l : List SV} {x : SV} {K : SV → Prop}, foldK f x l K → ∃ v, K v ∧ ∀ w : World, ((dent η l).foldlM F (den η x)).run P w = .ok (den η v) w
  | [], x, K, h => ⟨x, h, fun _ => rfl⟩
  | y :: r, x, K, h => by
    simp only [foldK] at h
    obtain ⟨v, h, hv⟩ := hf _ _ _ h
    obtain ⟨u, h, hu⟩ := foldK_sound hf h
    exact ⟨u, h, fun w => by simp only [dent, List.foldlM_cons, Sem.run_bind, hv w, Result.andThen_ok, hu w]⟩

include hT in
theorem builtinV_sound {b : Builtin} {ts : Array TypeId} {xs : List SV} {K : SV → Prop} {ty : TypeId} {cs : Array Bool} (hl : builtinV T b ts.toList xs K) :
    ∃ v, K v ∧ ∀ w : World, (builtin b ts ty cs (dent η xs).toArray).run P w = .ok (.value (den η v)) w := by
  unfold builtinV at hl
  split at hl
  · rename_i t x hts
    split at hl
    · rename_i ti hti
      have hu := (hT t ti hti).1
      have ht0 : ts[0]? = some t := by rw [← Array.getElem?_toList, hts]; rfl
      split at hl
      · rename_i s hd
        rw [hd] at hu
        exact ⟨_, hl, fun w => by simp [builtin, Builtin.len_, ht0, dent, den, run_underlying hu, goInt]⟩
      · rename_i e A n c hd
        rw [hd] at hu
        exact ⟨_, hl, fun w => by simp [builtin, Builtin.len_, ht0, dent, den, run_underlying hu, goInt]⟩
      · rename_i e r n hd
        rw [hd] at hu
        exact ⟨_, hl, fun w => by simp [builtin, Builtin.len_, ht0, dent, den, run_underlying hu, goInt]⟩
      · exact hl.elim
    · exact hl.elim
  · rename_i x r
    obtain ⟨v, hk, hv⟩ := foldK_sound (η := η) (P := P) (F := Builtin.min2) (fun x y K h => by
      unfold minV at h
      split at h
      · exact ⟨_, h, fun w => by simp [den, Builtin.min2]⟩
      · exact h.elim) hl
    exact ⟨v, hk, fun w => by simp [builtin, Builtin.min_, dent, hv w]⟩
  · rename_i x r
    obtain ⟨v, hk, hv⟩ := foldK_sound (η := η) (P := P) (F := Builtin.max2) (fun x y K h => by
      unfold maxV at h
      split at h
      · exact ⟨_, h, fun w => by simp [den, Builtin.max2]⟩
      · exact h.elim) hl
    exact ⟨v, hk, fun w => by simp [builtin, Builtin.max_, dent, hv w]⟩
  · exact hl.elim
end
end Go.Proofs.Ytjpjiniclibgkaa.Sx

namespace Go.Proofs.Ytjpjiniclibgkaa.Sx

theorem foldl_splice (off : Nat) : ∀ (vs : List Value) (k : Nat) (cells : Array Value), off + k + vs.length ≤ cells.size →
    ((vs.zipIdx k).foldl (fun cs (p : Value × Nat) => cs.setIfInBounds (off + p.2) p.1) cells).toList = cells.toList.take (off + k) ++ (vs ++ cells.toList.drop (off + k + vs.length))
  | [], k, cells, _ => by simp
  | v :: r, k, cells, h => by
    simp only [List.length_cons] at h
    simp only [List.zipIdx_cons, List.foldl_cons]
    rw [foldl_splice off r (k + 1) _ (by simp; omega)]
    have hlt : off + k < cells.toList.length := by simp; omega
    simp only [Array.toList_setIfInBounds, List.length_cons]
    have h1 : (cells.toList.set (off + k) v).take (off + (k + 1)) = cells.toList.take (off + k) ++ [v] := by
      rw [show off + (k + 1) = off + k + 1 from by omega, List.take_succ_eq_append_getElem (by simpa using hlt), List.take_set_of_le (Nat.le_refl _)]
      simp
    have h2 : (cells.toList.set (off + k) v).drop (off + (k + 1) + r.length) = cells.toList.drop (off + k + (r.length + 1)) := by
      rw [List.drop_set_of_lt (by omega)]
      congr 1
      omega
    rw [h1, h2, List.append_assoc, List.singleton_append, List.cons_append]
theorem splice_toList (cells vs : Array Value) (off : Nat) (h : off + vs.size ≤ cells.size) :
    vs.zipIdx.foldl (fun cs (p : Value × Nat) => cs.setIfInBounds (off + p.2) p.1) cells = (cells.toList.take off ++ (vs.toList ++ cells.toList.drop (off + vs.size))).toArray := by
  have := foldl_splice off vs.toList 0 cells (by simpa using h)
  rw [← Array.toList_inj]
  rw [← Array.foldl_toList, Array.toList_zipIdx]
  simpa using this

section
variable {P : Program} {T : Tbl} (hT : TOk P T) (η : Names) {w : World}

theorem gOrPlain {x : SV} (h : (isG x || plainB x) = true) : isG x = true ∨ plainB x = true := by simpa [Bool.or_eq_true] using h

theorem fill_sound {fs : List Field} : ∀ {l : List (Nat × SV)} {cs : List SV} {K : List SV → Prop} {place : Nat → Option (Nat × Nat)}
    (_ : ∀ i f ti, fieldOf fs i = some f → T.at f.type = some ti → place i = some (f.offset, ti.size)), fill T fs l cs K →
    ∃ cs', K cs' ∧ Instr.fill place (dens η cs).toArray (l.map fun p => (p.1, den η p.2)) = some (dens η cs').toArray
  | [], cs, K, place, _, h => ⟨cs, h, rfl⟩
  | (i, x) :: r, cs, K, place, hp, h => by
    simp only [fill] at h
    split at h
    · rename_i f hf
      split at h
      · rename_i ti hti hx
        obtain ⟨new, h, hnew⟩ := parts_sound h
        obtain ⟨cs1, h, hcs1⟩ := putAt_sound h
        obtain ⟨cs2, hk, h2⟩ := fill_sound hp h
        refine ⟨cs2, hk, ?_⟩
        obtain ⟨hlen, hle, heq⟩ := hcs1 η
        have hcells := hnew η (gOrPlain hx)
        have hsz : (den η x).cells.size = ti.size := by rw [← Array.length_toList, hcells, hlen]
        simp only [List.map_cons, Instr.fill, hp i f ti hf hti, hsz, ne_eq, not_true_eq_false, decide_false, Bool.false_or]
        have hn : ¬ (f.offset + ti.size > (dens η cs).toArray.size) := by simp; omega
        rw [if_neg (by simpa using hn)]
        rw [← h2]
        congr 1
        have := splice_toList (dens η cs).toArray (den η x).cells f.offset (by rw [hsz]; simpa using hle)
        rw [hsz, hcells] at this
        rw [heq]
        exact this
      · exact h.elim
    · exact h.elim
theorem fillA_sound {z : Nat} : ∀ {l : List (Nat × SV)} {cs : List SV} {K : List SV → Prop}, fillA z l cs K →
    ∃ cs', K cs' ∧ Instr.fill (fun i => some (i * z, z)) (dens η cs).toArray (l.map fun p => (p.1, den η p.2)) = some (dens η cs').toArray ∧ (dens η cs').length = (dens η cs).length
  | [], cs, K, h => ⟨cs, h, rfl, rfl⟩
  | (i, x) :: r, cs, K, h => by
    simp only [fillA] at h
    split at h
    · rename_i hx
      obtain ⟨new, h, hnew⟩ := parts_sound h
      obtain ⟨cs1, h, hcs1⟩ := putAt_sound h
      obtain ⟨cs2, hk, h2, h3⟩ := fillA_sound h
      refine ⟨cs2, hk, ?_, ?_⟩
      case refine_2 =>
        obtain ⟨hlen, hle, heq⟩ := hcs1 η
        rw [h3, heq]
        simp only [List.length_append, List.length_take, List.length_drop, hlen]
        omega
      obtain ⟨hlen, hle, heq⟩ := hcs1 η
      have hcells := hnew η (gOrPlain hx)
      have hsz : (den η x).cells.size = z := by rw [← Array.length_toList, hcells, hlen]
      simp only [List.map_cons, Instr.fill, hsz, ne_eq, not_true_eq_false, decide_false, Bool.false_or]
      have hn : ¬ (i * z + z > (dens η cs).toArray.size) := by simp; omega
      rw [if_neg (by simpa using hn)]
      rw [← h2]
      congr 1
      have := splice_toList (dens η cs).toArray (den η x).cells (i * z) (by rw [hsz]; simpa using hle)
      rw [hsz, hcells] at this
      rw [heq]
      exact this
    · exact h.elim

include hT in
theorem run_zero {t : TypeId} {ti : TI} (h : T.at t = some ti) : (zeroValue t).run P w = .ok (den η ti.z) w := by
  obtain ⟨_, hcl, _, _, ⟨i, hi, _, _, hz⟩, _⟩ := hT t ti h
  simp [zeroValue, typeInfo, hi, hz, den_cl η η0 ti.z hcl]
include hT in
theorem run_places : ∀ {fs : List Field}, fieldsOk T fs = true →
    (fs.mapM fun f => (do pure (f.offset, ← sizeOf f.type) : Sem (Nat × Nat))).run P w = .ok (fs.map fun f => (f.offset, ((T.at f.type).map (·.size)).getD 0)) w
  | [], _ => rfl
  | f :: r, h => by
    simp only [fieldsOk] at h
    split at h
    · rename_i ti hti
      have ih := run_places h
      have hs := run_size hT (w := w) hti
      simp only [List.mapM_cons, Sem.run_bind, hs, Result.andThen_ok, Sem.run_pure, ih, List.map_cons, hti, Option.map_some, Option.getD_some]
    · cases h
end
end Go.Proofs.Ytjpjiniclibgkaa.Sx

namespace Go.Proofs.Ytjpjiniclibgkaa.Sx

theorem beq_yes {b : Bool} {p : Prop} (h : b = true ↔ p) : b = yes p := by
  cases hy : yes p with
  | true => exact h.2 (yes_true.1 hy)
  | false =>
    cases b with
    | true => exact absurd (h.1 rfl) (yes_false.1 hy)
    | false => rfl

section
variable {P : Program} {T : Tbl} {η : Names} {m : Mem} {w : World} {st : St}

theorem eqGuard_sound {h0 : Heap} {d : TypeDesc} {op : BinOp} {x y : SV} {C : Prop → Prop} {K : SV → Prop} {t : TypeId} {ox oy : Operand} (h : binOpV h0 d op x y C K) :
    (eqGuard op t ox oy (den η x) (den η y)).run P w = .ok () w := by
  unfold binOpV at h
  split at h
  · cases op <;> simp [eqGuard, den]
  · cases op <;> simp [eqGuard, den]
  · cases op <;> simp [eqGuard, den]
  · cases op <;> simp [eqGuard, den]
  · cases op <;> simp [eqGuard, den]
  · exact h.elim

theorem st_A {h0 : Heap} (hH : HQ η m h0 w) : ∀ n e cs, lookH h0 n = some (.st e cs) → (η n).A.isSome = true := fun n e cs hl => by
  obtain ⟨b, hA, _⟩ := (hH.ck n _ hl).2
  rw [hA]; rfl


theorem eqFs_sound (hT : TOk P T) {d : Nat} {ev : TypeId → SV → SV → (Prop → Prop) → Prop}
    (hev : ∀ t x y K, ev t x y K → ∃ p, K p ∧ ∀ w : World, (Op.equalIn d t (den η x) (den η y)).run P w = .ok (yes p) w) :
    ∀ {l : List Field} {cs ds : List SV} {K : Prop → Prop}, (∀ f ∈ l, f.name ≠ "_") → eqFs T ev l cs ds K → ∃ p, K p ∧ ∀ w : World, (Op.eqFields d (dens η cs).toArray (dens η ds).toArray l).run P w = .ok (yes p) w
  | [], cs, ds, K, _, h => ⟨True, h, fun w => by rw [yes_true.2 trivial]; rfl⟩
  | f :: r, cs, ds, K, hn, h => by
    simp only [eqFs] at h
    split at h
    · rename_i tf htf
      obtain ⟨x, h, hx⟩ := run_part_get (η := η) hT htf h
      obtain ⟨y, h, hy⟩ := run_part_get (η := η) hT htf h
      obtain ⟨p, h, hp⟩ := hev _ _ _ _ h
      obtain ⟨q, h, hq⟩ := eqFs_sound hT hev (fun g hg => hn g (.tail _ hg)) h
      refine ⟨_, h, fun w => ?_⟩
      have hne : f.name ≠ "_" := hn f (.head _)
      simp only [Op.eqFields, ne_eq, hne, not_false_eq_true, if_true, Sem.run_bind, hx w, hy w, hp w, Result.andThen_ok]
      by_cases hp' : p
      · rw [yes_true.2 hp']
        simp only [Bool.not_true, Bool.false_eq_true, if_false, hq w]
        congr 1
        exact (beq_yes (yes_true.trans ⟨fun h => ⟨hp', h⟩, fun h => h.2⟩))
      · rw [yes_false.2 hp']
        simp only [Bool.not_false, if_true, Sem.run_pure]
        congr 1
        exact (yes_false.2 fun h => hp' h.1).symm
    · exact h.elim

theorem eqItems_ints {d : Nat} {e : TypeId} {te : TI} (hT : TOk P T) (hte : T.at e = some te) {k0 : IntKind} (hd : te.d = .int k0) (n : Nat) (k : IntKind) (f g : Nat → Int) (w : World) :
    ∀ is : List Nat, (∀ i ∈ is, i < n) → ∃ b : Bool, (Op.eqItems (d + 1) e 1 (ints n k f).toArray (ints n k g).toArray is).run P w = .ok b w ∧ (b = true ↔ ∀ i ∈ is, f i = g i)
  | [], _ => ⟨true, rfl, by simp⟩
  | i :: is, hi => by
    obtain ⟨b, hb, hiff⟩ := eqItems_ints (d := d) hT hte hd n k f g w is fun j hj => hi j (.tail _ hj)
    have hlt := hi i (.head _)
    have hag := run_isAgg hT (w := w) hte
    rw [hd] at hag
    have hu := (hT e te hte).1
    rw [hd] at hu
    have part : ∀ h : Nat → Int, (part e (ints n k h).toArray (i * 1)).run P w = .ok (.int k (h i)) w := by
      intro h
      simp only [Go.part, Sem.run_bind, hag, aggD, Result.andThen_ok, Bool.false_eq_true, if_false, Nat.mul_one]
      simp [ints, hlt]
    simp only [Op.eqItems, Sem.run_bind, part, Result.andThen_ok, run_equalIn_int w d e k k0 _ _ hu]
    by_cases h : f i = g i
    · refine ⟨b, ?_, ?_⟩
      · have : (f i == g i) = true := by simpa using h
        simp only [this, Bool.not_true, Bool.false_eq_true, if_false, hb]
      · rw [hiff]
        constructor
        · intro h1 j hj
          rcases List.mem_cons.1 hj with rfl | hj
          · exact h
          · exact h1 j hj
        · intro h1 j hj
          exact h1 j (.tail _ hj)
    · refine ⟨false, ?_, ?_⟩
      · have : (f i == g i) = false := by simpa using h
        simp only [this, Bool.not_false, if_true, Sem.run_pure]
      · constructor
        · intro h1; cases h1
        · intro h1; exact absurd (h1 i (.head _)) h

theorem eqV_sound (hT : TOk P T) : ∀ {n : Nat} {t : TypeId} {x y : SV} {K : Prop → Prop}, eqV T n t x y K → ∀ d, ∃ p, K p ∧ ∀ w : World, (Op.equalIn (n + d) t (den η x) (den η y)).run P w = .ok (yes p) w
  | 0, _, _, _, _, h, _ => h.elim
  | n + 1, t, x, y, K, h, d => by
    have e1 : n + 1 + d = (n + d) + 1 := by omega
    simp only [eqV] at h
    split at h
    · exact h.elim
    rename_i ti hti
    obtain ⟨hu, _, _, _, _, hq⟩ := hT t ti hti
    split at h
    · rename_i k0 k a k' b hd
      rw [hd] at hu
      split at h
      · rename_i hk
        obtain rfl := sameKind_eq hk
        refine ⟨_, h, fun w => ?_⟩
        rw [e1]
        simp only [den, run_equalIn_int w (n + d) t k k0 a b hu]
        congr 1
        exact beq_yes (by simp)
      · exact h.elim
    · rename_i a b hd
      rw [hd] at hu
      refine ⟨_, h, fun w => ?_⟩
      rw [e1]
      simp only [den, run_equalIn_bool' w (n + d) t a b hu]
      congr 1
      exact beq_yes (by simp)
    · rename_i a b hd
      rw [hd] at hu
      refine ⟨_, h, fun w => ?_⟩
      rw [e1]
      simp only [den, run_equalIn_string w (n + d) t a b hu]
      congr 1
      refine beq_yes ?_
      rw [ByteArray.toList_eq, ByteArray.toList_eq]
      constructor
      · intro he
        have he := eq_of_beq he
        obtain ⟨⟨x⟩⟩ := a
        obtain ⟨⟨y⟩⟩ := b
        have he : x = y := he
        rw [he]
      · intro he
        rw [he]
        exact beq_self_eq_true _
    · rename_i fs cs ds hd
      split at h
      · rename_i hqq
        obtain ⟨h1, _, h3⟩ := hq hqq
        obtain ⟨p, hk, hp⟩ := eqFs_sound (η := η) hT (d := n + d) (fun t x y K h => eqV_sound hT h d) (h3 fs hd) h
        refine ⟨p, hk, fun w => ?_⟩
        rw [hd] at hu
        have hf : P.fieldsOf t = fs := by simp only [Program.fieldsOf, hu]
        rw [e1]
        simp only [den]
        rw [run_equalIn_struct w (n + d) t _ _ (by rw [hf]; exact hu) h1, hf]
        exact hp w
      · exact h.elim
    · rename_i len e n1 k1 f n2 k2 g hd
      split at h
      · rename_i te hqq hte
        split at h
        · rename_i k0 hde hsz
          split at h
          · rename_i b nn hb
            simp only [Bool.and_eq_true] at hb
            obtain ⟨⟨hb1, hb2⟩, hb3⟩ := hb
            obtain rfl := beq_eq hb1
            obtain rfl := beq_eq hb2
            obtain rfl := sameKind_eq hb3
            rw [hd] at hu
            obtain ⟨_, _, _, _, ⟨i, hi, his, _⟩, _⟩ := hT e te hte
            have hce : P.cellsOf e = 1 := by
              have : P.cellsOf e = i.size := by simp [Program.cellsOf, hi]
              rw [this, his, hsz]
            refine ⟨_, h, fun w => ?_⟩
            have e2 : nn + 1 + 1 + d = (nn + d + 1) + 1 := by omega
            obtain ⟨b, hb, hiff⟩ := eqItems_ints (d := nn + d) hT hte hde len k1 f g w (List.range len) (fun j hj => List.mem_range.1 hj)
            have hx : ∀ h : Nat → Int, den η (.g [.gi len k1 h]) = .agg (ints len k1 h).toArray := fun h => by simp [den, dens, pc]
            rw [e2, hx, hx, run_equalIn_array w (nn + d + 1) _ _ hu hi, hce, hb]
            congr 1
            refine beq_yes ?_
            rw [hiff]
            simp
          · exact h.elim
        · exact h.elim
      · exact h.elim
    · exact h.elim

theorem eqV_at (hT : TOk P T) {n : Nat} {t : TypeId} {x y : SV} {K : Prop → Prop} (h : eqV T n t x y K) (D : Nat) (hD : n ≤ D) : ∃ p, K p ∧ ∀ w : World, (Op.equalIn D t (den η x) (den η y)).run P w = .ok (yes p) w := by
  obtain ⟨d, rfl⟩ := Nat.le.dest hD
  exact eqV_sound hT h d

theorem eqOp_sound (hT : TOk P T) {t : TypeId} {op : BinOp} {x y : SV} {K : SV → Prop} {ti : TI} (hti : T.at t = some ti) (hd : aggD ti.d = true) {ox oy : Operand} (h : eqOp T t op x y K) :
    ∃ v, K v ∧ ∀ w : World, (eqGuard op t ox oy (den η x) (den η y)).run P w = .ok () w ∧ (binOp op t (den η x) (den η y)).run P w = .ok (den η v) w := by
  have shape : ∀ {n : Nat} {K : Prop → Prop}, eqV T (n + 1) t x y K → (∃ cs, x = .g cs) ∧ (∃ ds, y = .g ds) ∧ ti.q = true := by
    intro n K h'
    simp only [eqV, hti] at h'
    split at h' <;> rename_i hde <;> first | (rw [hde] at hd; cases hd; done) | skip
    · split at h'
      · rename_i hq; exact ⟨⟨_, rfl⟩, ⟨_, rfl⟩, hq⟩
      · exact h'.elim
    · split at h'
      · rename_i hq _; exact ⟨⟨_, rfl⟩, ⟨_, rfl⟩, hq⟩
      · exact h'.elim
    · exact h'.elim
  unfold eqOp at h
  split at h
  · obtain ⟨⟨cs, rfl⟩, ⟨ds, rfl⟩, hq⟩ := shape h
    obtain ⟨p, hk, hp⟩ := eqV_at (η := η) hT h 10000 (by omega)
    refine ⟨_, hk, fun w => ⟨?_, ?_⟩⟩
    · simp only [den]
      exact run_eqGuard_agg w _ t ox oy _ _ ((hT t ti hti).2.2.2.2.2 hq).2.1
    · have := hp w
      have e := run_eql_struct (P := P) w t (dens η cs).toArray (dens η ds).toArray
      have this' : (Op.equalIn 10000 t (.agg (dens η cs).toArray) (.agg (dens η ds).toArray)).run P w = .ok (yes p) w := this
      rw [this'] at e
      exact e
  · obtain ⟨⟨cs, rfl⟩, ⟨ds, rfl⟩, hq⟩ := shape h
    obtain ⟨p, hk, hp⟩ := eqV_at (η := η) hT h 10000 (by omega)
    refine ⟨_, hk, fun w => ⟨?_, ?_⟩⟩
    · simp only [den]
      exact run_eqGuard_agg w _ t ox oy _ _ ((hT t ti hti).2.2.2.2.2 hq).2.1
    · have := hp w
      have e := run_neq_struct (P := P) w t (dens η cs).toArray (dens η ds).toArray
      have this' : (Op.equalIn 10000 t (.agg (dens η cs).toArray) (.agg (dens η ds).toArray)).run P w = .ok (yes p) w := this
      rw [this'] at e
      exact e
  · exact h.elim

theorem nilOp_sound {t e : TypeId} (hu : P.underlying t = some (.slice e)) {op : BinOp} {x y : SV} {K : SV → Prop} {ox oy : Operand} (h : nilOp op x y K) :
    ∃ v, K v ∧ ∀ w : World, (eqGuard op t ox oy (den η x) (den η y)).run P w = .ok () w ∧ (binOp op t (den η x) (den η y)).run P w = .ok (den η v) w := by
  unfold nilOp at h
  split at h
  · exact ⟨_, h, fun w => ⟨by simp [eqGuard, den], run_eql_slice_nil w t e _ _ _ hu⟩⟩
  · exact ⟨_, h, fun w => ⟨by simp [eqGuard, den], run_neq_slice_nil w t e _ _ _ hu⟩⟩
  · exact h.elim

theorem binV_sound (hT : TOk P T) {h0 : Heap} {C : Prop → Prop} {Tg : Prop} (hC : ∀ c, C c → Tg → c) {t : TypeId} {op : BinOp} {x y : SV} {K : SV → Prop} {ox oy : Operand} (h : binV T h0 t op x y C K) :
    ∃ v, K v ∧ ∀ w : World, HQ η m h0 w → (Tg → (eqGuard op t ox oy (den η x) (den η y)).run P w = .ok () w ∧ (binOp op t (den η x) (den η y)).run P w = .ok (den η v) w) := by
  unfold binV at h
  split at h
  case h_2 => exact h.elim
  rename_i ti hti
  have hu := (hT t ti hti).1
  split at h
  · rename_i fs hd
    obtain ⟨v, hk, hv⟩ := eqOp_sound (η := η) (ox := ox) (oy := oy) hT hti (by rw [hd]; rfl) h
    exact ⟨v, hk, fun w _ _ => hv w⟩
  · rename_i n e hd
    obtain ⟨v, hk, hv⟩ := eqOp_sound (η := η) (ox := ox) (oy := oy) hT hti (by rw [hd]; rfl) h
    exact ⟨v, hk, fun w _ _ => hv w⟩
  · rename_i e hd
    rw [hd] at hu
    obtain ⟨v, hk, hv⟩ := nilOp_sound (η := η) (ox := ox) (oy := oy) hu h
    exact ⟨v, hk, fun w _ _ => hv w⟩
  · obtain ⟨r, hk, hr⟩ := binOpV_sound η (P := P) hu hC h
    exact ⟨r, hk, fun w hH ht => ⟨eqGuard_sound h, hr w (st_A hH) ht⟩⟩
end
end Go.Proofs.Ytjpjiniclibgkaa.Sx

namespace Go.Proofs.Ytjpjiniclibgkaa.Sx

section
variable {P : Program} {T : Tbl} (hT : TOk P T) {B : Base} {η : Names} {m : Mem} {w : World} {ops : List Oper} {st : St} {a : Act}
  (ht : HoldT ops η st a)

theorem nth_sound {K : SV → Prop} : ∀ {l : List SV} {n : Nat}, nth l n K → ∃ v, K v ∧ ∀ η, (dent η l)[n]? = some (den η v)
  | [], _, h => h.elim
  | x :: _, 0, h => ⟨x, h, fun η => by simp [dent]⟩
  | x :: r, n + 1, h => by
    obtain ⟨v, hk, hv⟩ := nth_sound (l := r) h
    exact ⟨v, hk, fun η => by simpa [dent] using hv η⟩

theorem conv_empty {a b e : TypeId} (ha : P.underlying a = some (.slice e)) (he : P.underlying e = some (.int .u8)) (hb : P.underlying b = some .string) (A : Option Addr) (c : Nat) :
    (convert a b (.slice A 0 c)).run P w = .ok (.string ByteArray.empty) w := by
  cases A with
  | none => exact run_convert_bytes_nil w a e ha he 0 c b hb
  | some ad => exact run_convert_bytes_back w a b e ad c [] ha he hb (fun j hj => by cases hj)
theorem bytes_eta (s : ByteArray) : (⟨s.data.toList.toArray⟩ : ByteArray) = s := by cases s; simp
theorem bytes_nil {s : ByteArray} (h : s.size = 0) : s = ByteArray.empty := by
  cases s with
  | mk d =>
    have : d = #[] := Array.eq_empty_of_size_eq_zero h
    subst this
    rfl
theorem bytesL_get {s : ByteArray} {j : Nat} (hj : j < s.data.toList.length) : (bytesL s)[j]? = some (.int .u8 ((s.data.toList[j]).toNat : Int)) := by
  unfold bytesL
  rw [List.getElem?_map, List.getElem?_eq_getElem hj]
  rfl
theorem bytesL_len (s : ByteArray) : (bytesL s).length = s.size := by simp [bytesL]

include hT in
theorem textV_sound {h : Heap} {C : Prop → Prop} {Tg : Prop} (hC : ∀ c, C c → Tg → c) {a b : TypeId} {x : SV} {K : SV → Prop} (hl : textV T h m C a b x K) :
    ∃ v, K v ∧ ∀ w : World, HQ η m h w → (Tg → (convert a b (den η x)).run P w = .ok (den η v) w) := by
  have conv : convV T a b x K → ∃ v, K v ∧ ∀ w : World, HQ η m h w → (Tg → (convert a b (den η x)).run P w = .ok (den η v) w) := fun h => by
    obtain ⟨v, hk, hv⟩ := convV_sound hT h
    exact ⟨v, hk, fun w _ _ => hv w⟩
  unfold textV at hl
  split at hl
  case h_2 => exact hl.elim
  rename_i ta tb hta htb
  have hua := (hT a ta hta).1
  have hub := (hT b tb htb).1
  split at hl
  · rename_i e A n c hda hdb
    rw [hda] at hua
    rw [hdb] at hub
    split at hl
    case h_2 => exact hl.elim
    rename_i te hte
    have hue := (hT e te hte).1
    split at hl
    case h_2 => exact hl.elim
    rename_i hde
    rw [hde] at hue
    obtain ⟨s, hc, hk⟩ := hl
    refine ⟨_, hk, fun w hH ht => ?_⟩
    obtain ⟨hn, hr⟩ := hC _ hc ht
    simp only [den]
    rcases Nat.eq_zero_or_pos n with h0 | hp
    · subst h0
      rw [bytes_nil hn]
      exact conv_empty hua hue hub A c
    · obtain ⟨ad, rfl, hlen, hcell⟩ := hr hp
      have hlen' : s.data.toList.length = n := by rw [← hn]; simp
      have := run_convert_bytes_back w a b e ad c s.data.toList hua hue hub (fun j hj => mcell_cell hH (by have := hcell j _ (bytesL_get hj); rwa [Nat.zero_add] at this))
      rw [hlen', bytes_eta] at this
      exact this
  · rename_i e r n hda hdb
    rw [hda] at hua
    rw [hdb] at hub
    split at hl
    case h_2 => exact hl.elim
    rename_i te hte
    have hue := (hT e te hte).1
    split at hl
    case h_2 => exact hl.elim
    rename_i hde
    rw [hde] at hue
    split at hl
    case h_2 => exact hl.elim
    rename_i e' z k xs hlk
    split at hl
    case h_2 => exact hl.elim
    rename_i hz
    obtain rfl := beq_eq hz
    obtain ⟨s, hc, hk⟩ := hl
    refine ⟨_, hk, fun w hH ht => ?_⟩
    obtain ⟨hn, hr⟩ := hC _ hc ht
    obtain ⟨⟨hxl, _⟩, hrow⟩ := (hH.ck r _ hlk).2
    have hsz : s.size = n := by rw [← bytesL_len, ← hr, List.length_take, hxl]; omega
    simp only [den]
    rcases hrow with ⟨_, hk0, _⟩ | ⟨bl, cur, hA, _, hb, _, _, _, htake⟩
    · obtain rfl : n = 0 := by omega
      rw [bytes_nil hsz]
      exact conv_empty hua hue hub _ _
    · rw [hA]
      have hlen' : s.data.toList.length = n := by rw [← hsz]; simp
      have := run_convert_bytes_back w a b e ⟨bl, 0, none⟩ (η r).cap s.data.toList hua hue hub (fun j hj => by
        rw [add_base, cell_of_row w bl j cur e' (0, 0) hb]
        have h1 := bytesL_get hj
        rw [← hr, List.getElem?_take, if_pos (by omega), ← htake, List.getElem?_take, if_pos (by omega)] at h1
        simpa using h1)
      rw [hlen', bytes_eta] at this
      exact this
  · exact conv hl

include hT ht in
theorem quietV_sound {o : Oper} {tag : Tag} {K : SV → Prop} (hq : isQuiet o.op = true) (h : quietV T st m tag o.op K) :
    ∃ x, K x ∧ ∀ w : World, HQ η m st.h w → (tagB st.gs tag = true → (execOp a.eval o).run P w = .ok (.value (den η x)) w) := by
  have hC : ∀ c, gc st.gs tag c → tagB st.gs tag = true → c := fun c => gc_out
  obtain ⟨dst, op, ty, pos, after, guard⟩ := o
  cases op <;> first | cases hq | skip
  case move x | assign x =>
    obtain ⟨v, hk, hv⟩ := argAt_sound ht h
    exact ⟨v, hk, fun w hH htag => by simp only [execOp, hv htag]; rfl⟩
  case build t ps =>
    obtain ⟨vs, hl, hvs⟩ := pairs_sound ht h
    split at hl
    · rename_i ti hti
      have hu := (hT t ti hti).1
      split at hl
      · rename_i fs zs hd hzs
        rw [hd] at hu
        split at hl
        · rename_i hfo
          obtain ⟨cs', hk, hf⟩ := fill_sound η (place := fun i => (fs.toList.map fun f => (f.offset, ((T.at f.type).map (·.size)).getD 0))[i]?)
            (fun i f ti hf hti => by rw [List.getElem?_map, fieldOf_get hf]; simp [hti]) hl
          refine ⟨_, hk, fun w hH htag => ?_⟩
          have hz := run_zero hT η (w := w) hti
          rw [hzs] at hz
          have hpl := run_places hT (w := w) hfo
          have hvs := hvs htag
          have hps : (ps.map fun (p : Nat × Operand) => (p.1, a.eval p.2)).toList = vs.map fun p => (p.1, den η p.2) := by rw [Array.toList_map]; exact hvs
          have hpl' : (fs.mapM fun f => (do pure (f.offset, ← sizeOf f.type) : Sem (Nat × Nat))).run P w = .ok (fs.toList.map fun f => (f.offset, ((T.at f.type).map (·.size)).getD 0)).toArray w := by
            rw [Array.mapM_eq_mapM_toList]
            simp only [Sem.run_map, hpl]
            rfl
          simp only [execOp, Instr.build, Sem.run_bind, hz, Result.andThen_ok, run_underlying hu, den, Value.cells, hpl']
          simp only [hps, List.getElem?_toArray]
          rw [hf]
          rfl
        · exact hl.elim
      · rename_i n e zs hd hzs
        rw [hd] at hu
        split at hl
        · rename_i te hte
          obtain ⟨cs', hk, hf, _⟩ := fillA_sound η hl
          refine ⟨_, hk, fun w hH htag => ?_⟩
          have hz := run_zero hT η (w := w) hti
          rw [hzs] at hz
          have hs := run_size hT (w := w) hte
          have hvs := hvs htag
          have hps : (ps.map fun (p : Nat × Operand) => (p.1, a.eval p.2)).toList = vs.map fun p => (p.1, den η p.2) := by rw [Array.toList_map]; exact hvs
          simp only [execOp, Instr.build, Sem.run_bind, hz, Result.andThen_ok, run_underlying hu, den, Value.cells, hs]
          simp only [hps]
          rw [hf]
          rfl
        · exact hl.elim
      · exact hl.elim
    · exact hl.elim
  case load t x =>
    obtain ⟨v, hl, hv⟩ := argAt_sound ht h
    obtain ⟨u, hk, hu⟩ := loadV_sound (η := η) hT hC hl
    exact ⟨u, hk, fun w hH htag => by simp only [execOp, hv htag, Sem.run_bind, hu w hH htag, Result.andThen_ok]; rfl⟩
  case nilCheck x =>
    obtain ⟨v, hl, hv⟩ := argAt_sound ht h
    split at hl
    · obtain ⟨hk, hb⟩ := live_sound (η := η) (m := m) hC hl
      refine ⟨_, hk, fun w hH htag => ?_⟩
      obtain ⟨b, hA⟩ := hb w hH htag
      simp only [execOp, hv htag, den, hA, Option.map_some]
      rfl
    · rename_i A o
      refine ⟨_, hl.2, fun w hH htag => ?_⟩
      obtain ⟨ad, rfl⟩ := Option.isSome_iff_exists.1 (hC _ hl.1 htag)
      simp only [execOp, hv htag, den, Option.map_some]
      rfl
    · exact hl.elim
  case binOp op tx x y ty' =>
    obtain ⟨v, hl, hv⟩ := argAt_sound ht h
    obtain ⟨u, hl, hu⟩ := argAt_sound ht hl
    obtain ⟨r, hk, hr⟩ := binV_sound (η := η) (m := m) (ox := x) (oy := y) hT hC hl
    refine ⟨r, hk, fun w hH htag => ?_⟩
    obtain ⟨hg, hr⟩ := hr w hH htag
    simp only [execOp, hv htag, hu htag, Sem.run_bind, hg, hr, Result.andThen_ok]
    rfl
  case unOp op tx x =>
    obtain ⟨v, hl, hv⟩ := argAt_sound ht h
    obtain ⟨r, hk, hr⟩ := unOpV_sound η (P := P) hl
    exact ⟨r, hk, fun w hH htag => by simp only [execOp, hv htag, Sem.run_bind, hr w, Result.andThen_ok]; rfl⟩
  case convert s d x =>
    obtain ⟨v, hl, hv⟩ := argAt_sound ht h
    obtain ⟨r, hk, hr⟩ := textV_sound (η := η) hT hC hl
    exact ⟨r, hk, fun w hH htag => by simp only [execOp, hv htag, Sem.run_bind, hr w hH htag, Result.andThen_ok]; rfl⟩
  case makeInterface t x =>
    obtain ⟨v, hl, hv⟩ := argAt_sound ht h
    split at hl
    · rename_i ti hti
      have hu := (hT t ti hti).1
      split at hl
      · exact hl.elim
      · rename_i hni
        refine ⟨_, hl, fun w hH htag => ?_⟩
        simp only [execOp, hv htag, Sem.run_bind, Instr.makeInterface, run_underlying hu, Result.andThen_ok]
        rfl
    · exact hl.elim
  case makeFunc fn first caught =>
    cases fn <;> first | exact h.elim | skip
    rename_i f
    obtain ⟨vs, hl, hv⟩ := argsAt_sound ht h
    obtain ⟨us, hk, hu⟩ := argsAt_sound ht hl
    refine ⟨_, hk, fun w hH htag => ?_⟩
    have h1 : (first.map a.eval) = (dent η vs).toArray := by rw [← Array.toList_inj, Array.toList_map]; exact hv htag
    have h2 : (caught.map a.eval) = (dent η us).toArray := by rw [← Array.toList_inj, Array.toList_map]; exact hu htag
    simp only [execOp, h1, h2, Instr.makeFunc]
    rfl
  case slice t x lo hi mx =>
    cases mx with
    | some _ => exact h.elim
    | none =>
      obtain ⟨v, hl, hv⟩ := argAt_sound ht h
      obtain ⟨l, hl, hlo⟩ := optArg_sound ht hl
      obtain ⟨u, hl, hhi⟩ := optArg_sound ht hl
      obtain ⟨r, hk, hr⟩ := sliceV_sound (η := η) (m := m) hT hC hl
      exact ⟨r, hk, fun w hH htag => by simp only [execOp, hv htag, hlo htag, hhi htag, Option.map_none, Sem.run_bind, hr w hH htag, Result.andThen_ok]; rfl⟩
  case fieldAddr t x f =>
    obtain ⟨v, hl, hv⟩ := argAt_sound ht h
    obtain ⟨r, hk, hr⟩ := fieldAddrV_sound (η := η) (m := m) hT hC hl
    exact ⟨r, hk, fun w hH htag => by simp only [execOp, hv htag, Sem.run_bind, hr w hH htag, Result.andThen_ok]; rfl⟩
  case field t x f =>
    obtain ⟨v, hl, hv⟩ := argAt_sound ht h
    obtain ⟨r, hk, hr⟩ := fieldV_sound (η := η) hT hl
    exact ⟨r, hk, fun w hH htag => by simp only [execOp, hv htag, Sem.run_bind, hr w, Result.andThen_ok]; rfl⟩
  case indexAddr t x ix =>
    obtain ⟨v, hl, hv⟩ := argAt_sound ht h
    obtain ⟨u, hl, hu⟩ := argAt_sound ht hl
    obtain ⟨r, hk, hr⟩ := indexAddrV_sound (η := η) (m := m) hT hC hl
    exact ⟨r, hk, fun w hH htag => by simp only [execOp, hv htag, hu htag, Sem.run_bind, hr w hH htag, Result.andThen_ok]; rfl⟩
  case index t x ix =>
    obtain ⟨v, hl, hv⟩ := argAt_sound ht h
    obtain ⟨u, hl, hu⟩ := argAt_sound ht hl
    obtain ⟨r, hk, hr⟩ := indexV_sound (η := η) hT hC hl
    exact ⟨r, hk, fun w hH htag => by simp only [execOp, hv htag, hu htag, Sem.run_bind, hr w htag, Result.andThen_ok]; rfl⟩
  case extract x n =>
    obtain ⟨v, hl, hv⟩ := argAt_sound ht h
    split at hl
    · obtain ⟨r, hk, hr⟩ := nth_sound hl
      refine ⟨r, hk, fun w hH htag => ?_⟩
      have := hr η
      simp only [execOp, hv htag, den, Instr.extract, List.getElem?_toArray, this]
      rfl
    · exact hl.elim
  case call c =>
    obtain ⟨callee, args, argTypes⟩ := c
    cases callee <;> first | cases hq | skip
    rename_i b
    obtain ⟨vs, hl, hv⟩ := argsAt_sound ht h
    obtain ⟨r, hk, hr⟩ := builtinV_sound (η := η) (ty := ty) (cs := args.map fun | .const _ => true | _ => false) hT hl
    refine ⟨r, hk, fun w hH htag => ?_⟩
    have h1 : (args.map a.eval) = (dent η vs).toArray := by rw [← Array.toList_inj, Array.toList_map]; exact hv htag
    simp only [execOp, resolve, h1, Sem.run_bind, Sem.run_pure, Result.andThen_ok, invoke]
    exact hr w
end
end Go.Proofs.Ytjpjiniclibgkaa.Sx

namespace Go.Proofs.Ytjpjiniclibgkaa.Sx

def Agree (nx : Nat) (η η' : Names) : Prop := ∀ n, n < nx → η' n = η n
theorem blt_lt {a b : Nat} (h : Nat.blt a b = true) : a < b := ble_le (a := a + 1) (b := b) h

mutual
theorem den_ok {nx : Nat} {η η' : Names} (hag : Agree nx η η') : ∀ x : SV, ok nx x = true → den η' x = den η x
  | .b _, _ | .i _ _, _ | .s _, _ | .el _ _, _ | .np, _ | .sl _ _ _, _ | .gi _ _ _, _ | .ne, _ | .v _, _ | .kb _, _ | .ud, _ => rfl
  | .p n _, h => by simp only [den, hag n (blt_lt h)]
  | .pj n _ _, h => by simp only [den, hag n (blt_lt h)]
  | .rw n _, h => by simp only [den, hag n (blt_lt h)]
  | .g cs, h => by simp only [den, dens_ok hag cs h]
  | .t cs, h => by simp only [den, dent_ok hag cs h]
  | .e _ x, h => by simp only [den, den_ok hag x h]
  | .fn _ a c, h => by
    simp only [ok, Bool.and_eq_true] at h
    simp only [den, dent_ok hag a h.1, dent_ok hag c h.2]
theorem dens_ok {nx : Nat} {η η' : Names} (hag : Agree nx η η') : ∀ l : List SV, oks nx l = true → dens η' l = dens η l
  | [], _ => rfl
  | x :: r, h => by
    simp only [oks, Bool.and_eq_true] at h
    simp only [dens, den_ok hag x h.1, dens_ok hag r h.2]
theorem dent_ok {nx : Nat} {η η' : Names} (hag : Agree nx η η') : ∀ l : List SV, oks nx l = true → dent η' l = dent η l
  | [], _ => rfl
  | x :: r, h => by
    simp only [oks, Bool.and_eq_true] at h
    simp only [dent, den_ok hag x h.1, dent_ok hag r h.2]
end

theorem okT_look {nx : Nat} : ∀ {t : List Slot} {k : Nat} {tag : Tag} {x : SV}, okT nx t = true → look t k = some (tag, x) → ok nx x = true
  | [], _, _, _, _, h => by cases h
  | ⟨n, tg, y⟩ :: r, k, tag, x, ho, h => by
    simp only [okT, Bool.and_eq_true] at ho
    simp only [look] at h
    split at h
    · cases h; exact ho.1
    · exact okT_look ho.2 h
theorem okH_look {nx : Nat} : ∀ {h : Heap} {k : Nat} {c : Ck}, okH nx h = true → lookH h k = some c → k < nx ∧ okC nx c = true
  | [], _, _, _, h => by cases h
  | (n, d) :: r, k, c, ho, h => by
    simp only [okH, Bool.and_eq_true] at ho
    simp only [lookH] at h
    split at h
    · rename_i hb
      obtain rfl := beq_eq hb
      cases h
      exact ⟨blt_lt ho.1.1, ho.1.2⟩
    · exact okH_look ho.2 h

/-- Blocks that are written or new apart, a piece of memory is as it was. -/
theorem CkAt.kept {η η' : Names} {w w' : World} {n : Nat} {c : Ck} (h : CkAt η w n c) (hn : η' n = η n) (hd : ∀ e cs, c = .st e cs → dens η' cs = dens η cs)
    (hw : ∀ b, (η n).own = some b → w'.heap[b]? = w.heap[b]?) : CkAt η' w' n c := by
  cases c with
  | st e cs =>
    obtain ⟨b, hA, ho, hb⟩ := h
    exact ⟨b, by rw [hn]; exact hA, by rw [hn]; exact ho, by rw [hw b ho, hd e cs rfl]; exact hb⟩
  | row e z k xs =>
    obtain ⟨hl, h | ⟨b, cur, hA, ho, hb, h1, h2, h3, h4⟩⟩ := h
    · exact ⟨hl, .inl (by rw [hn]; exact h)⟩
    · exact ⟨hl, .inr ⟨b, cur, by rw [hn]; exact hA, by rw [hn]; exact ho, by rw [hw b ho]; exact hb, by rw [hn]; exact h1, by rw [hn]; exact h2, by rw [hn]; exact h3, h4⟩⟩

section
variable {B : Base} {η : Names} {m : Mem} {h : Heap} {nx : Nat} {w : World} (hH : Hold B η m h nx w)

theorem cells_heap {η : Names} {w : World} {n : Nat} {c : Ck} {b : Nat} (hc : CkAt η w n c) (ho : (η n).own = some b) : ∃ arr e, w.heap[b]? = some (.cells arr e (0, 0)) := by
  cases c with
  | st e cs =>
    obtain ⟨b', _, ho', hb⟩ := hc
    rw [ho'] at ho; cases ho
    exact ⟨_, _, hb⟩
  | row e z k xs =>
    obtain ⟨_, ⟨h0, _⟩ | ⟨b', cur, _, ho', hb, _⟩⟩ := hc
    · rw [h0] at ho; cases ho
    · rw [ho'] at ho; cases ho
      exact ⟨_, _, hb⟩

/-- The names that a new one is added to. -/
def addN (η : Names) (nx : Nat) (p : Place) : Names := fun n => if n = nx then p else η n
theorem addN_agree (η : Names) (nx : Nat) (p : Place) : Agree nx η (addN η nx p) := fun n hn => by simp [addN]; omega
theorem addN_new (η : Names) (nx : Nat) (p : Place) : addN η nx p nx = p := by simp [addN]

theorem heap_push_lt (w : World) (o : Obj) {b : Nat} (hb : b < w.heap.size) : (w.alloc o).heap[b]? = w.heap[b]? := Go.RowKit.Below.heap_alloc w o b hb
theorem heap_lt {w : World} {b : Nat} {o : Obj} (h : w.heap[b]? = some o) : b < w.heap.size := (Array.getElem?_eq_some_iff.1 h).1

include hH in
/-- A new block of cells, with a name. -/
theorem Hold.add (hok : okH nx h = true) {arr : Array Value} {e : TypeId} {c : Ck} {cap : Nat} {own : Option Nat} {A : Option Addr} (hown : own = some w.heap.size ∨ own = none)
    (hc : CkAt (addN η nx ⟨A, cap, own⟩) (w.alloc (.cells arr e)) nx c) : Hold B (addN η nx ⟨A, cap, own⟩) m ((nx, c) :: h) (nx + 1) (w.alloc (.cells arr e)) := by
  have hag := addN_agree η nx ⟨A, cap, own⟩
  have hnew := addN_new η nx ⟨A, cap, own⟩
  have hlk : ∀ n d, lookH ((nx, c) :: h) n = some d → (n = nx ∧ d = c) ∨ (n < nx ∧ lookH h n = some d) := by
    intro n d hl
    simp only [lookH] at hl
    split at hl
    · rename_i hb
      cases hl
      exact .inl ⟨(beq_eq hb).symm, rfl⟩
    · exact .inr ⟨(okH_look hok hl).1, hl⟩
  have hoth : ∀ n d b, n < nx → lookH h n = some d → (addN η nx ⟨A, cap, own⟩ n).own = some b → b < w.heap.size ∧ (η n).own = some b := by
    intro n d b hn hl ho
    rw [hag n hn] at ho
    exact ⟨(hH.own n d b hl ho).2.1, ho⟩
  refine ⟨fun b o hm => ?_, fun n d hl => ?_, fun n d b hl ho => ?_, fun n d n' d' b hl hl' hne ho ho' => ?_, fun b hb hbm => ?_, ?_, hH.os, hH.tape, hH.output, hH.mle, hH.mnew, ⟨Nat.le_succ_of_le hH.par.1, fun n hn => (hag n (Nat.lt_of_lt_of_le hn hH.par.1)).trans (hH.par.2 n hn)⟩⟩
  · have := hH.imm b o hm
    rw [heap_push_lt w _ (heap_lt this)]; exact this
  · rcases hlk n d hl with ⟨rfl, rfl⟩ | ⟨hn, hl⟩
    · exact ⟨Nat.lt_succ_self _, hc⟩
    · obtain ⟨_, hck⟩ := hH.ck n d hl
      refine ⟨Nat.lt_succ_of_lt hn, hck.kept (hag n hn) (fun e cs hcs => ?_) fun b ho => heap_push_lt w _ (hH.own n d b hl ho).2.1⟩
      subst hcs
      exact dens_ok hag cs (okH_look hok hl).2
  · rcases hlk n d hl with ⟨rfl, rfl⟩ | ⟨hn, hl⟩
    · rw [hnew] at ho
      simp only at ho
      rcases hown with rfl | rfl
      · cases ho
        refine ⟨?_, by simp, .inr hH.size⟩
        cases hm : m w.heap.size with
        | none => rfl
        | some o => exact absurd (heap_lt (hH.imm _ _ hm)) (Nat.lt_irrefl _)
      · cases ho
    · obtain ⟨hlt, ho⟩ := hoth n d b hn hl ho
      obtain ⟨h1, h2, h3⟩ := hH.own n d b hl ho
      exact ⟨h1, by simp; omega, h3⟩
  · rcases hlk n d hl with ⟨rfl, rfl⟩ | ⟨hn, hl2⟩ <;> rcases hlk n' d' hl' with ⟨rfl, rfl⟩ | ⟨hn', hl2'⟩
    · exact hne rfl
    · rw [hnew] at ho
      simp only at ho
      have := (hoth n' d' b hn' hl2' ho').1
      rcases hown with rfl | rfl
      · cases ho; omega
      · cases ho
    · rw [hnew] at ho'
      simp only at ho'
      have := (hoth n d b hn hl2 ho).1
      rcases hown with rfl | rfl
      · cases ho'; omega
      · cases ho'
    · exact hH.apart n d n' d' b hl2 hl2' hne (hoth n d b hn hl2 ho).2 (hoth n' d' b hn' hl2' ho').2
  · rw [heap_push_lt w _ (by have := hH.size; omega)]
    exact hH.old b hb hbm
  · have := hH.size
    simp only [World.size_alloc]
    omega

include hH in
/-- A write into one named block. -/
theorem Hold.write {n : Nat} {c c' : Ck} {h' : Heap} {b : Nat} {w' : World} (hl : lookH h n = some c) (ho : (η n).own = some b)
    (hn : ∀ k, k ≠ b → w'.heap[k]? = w.heap[k]?) (hs : w'.heap.size = w.heap.size) (hos : w'.os = w.os) (htp : w'.tape = w.tape) (hout : w'.output = w.output)
    (hc : CkAt η w' n c') (hh : ∀ k, lookH h' k = if k = n then some c' else lookH h k) : Hold B η m h' nx w' := by
  have hlk : ∀ k d, lookH h' k = some d → ∃ d', lookH h k = some d' := by
    intro k d hk
    rw [hh] at hk
    split at hk
    · rename_i e; subst e; exact ⟨c, hl⟩
    · exact ⟨d, hk⟩
  obtain ⟨hmb, hbs, hbm⟩ := hH.own n c b hl ho
  refine ⟨fun k o hm => ?_, fun k d hk => ?_, fun k d b' hk ho' => ?_, fun k d k' d' b' hk hk' hne hb hb' => ?_, fun k hk hkm => ?_, by rw [hs]; exact hH.size, hos.trans hH.os, htp.trans hH.tape, hout.trans hH.output, hH.mle, hH.mnew, hH.par⟩
  · rw [hn k (fun e => by subst e; rw [hmb] at hm; cases hm)]
    exact hH.imm k o hm
  · rw [hh] at hk
    split at hk
    · rename_i e
      subst e
      cases hk
      exact ⟨(hH.ck _ _ hl).1, hc⟩
    · rename_i e
      obtain ⟨h1, h2⟩ := hH.ck k d hk
      exact ⟨h1, h2.kept rfl (fun _ _ _ => rfl) fun b' ho' => hn b' fun eb => by subst eb; exact hH.apart k d n c _ hk hl e ho' ho⟩
  · obtain ⟨d', hd'⟩ := hlk k d hk
    obtain ⟨h1, h2, h3⟩ := hH.own k d' b' hd' ho'
    exact ⟨h1, by rw [hs]; exact h2, h3⟩
  · obtain ⟨e1, he1⟩ := hlk k d hk
    obtain ⟨e2, he2⟩ := hlk k' d' hk'
    exact hH.apart k e1 k' e2 b' he1 he2 hne hb hb'
  · rw [hn k (fun e => by subst e; rcases hbm with hbm | hbm; exact hkm hbm; omega)]
    exact hH.old k hk hkm
end

theorem setHK_sound {c' : Ck} {K : Heap → Prop} : ∀ {h : Heap} {n : Nat}, setHK h n c' K → ∃ h', K h' ∧ ∀ k, lookH h' k = if k = n then some c' else lookH h k
  | [], _, hs => hs.elim
  | (i, d) :: r, n, hs => by
    simp only [setHK] at hs
    split at hs
    · rename_i hb
      obtain rfl := beq_eq hb
      refine ⟨_, hs, fun k => ?_⟩
      by_cases hk : k = i
      · subst hk; simp [lookH, Nat.beq_refl]
      · have : Nat.beq i k = false := by rw [Bool.eq_false_iff]; intro e; exact hk (beq_eq e).symm
        simp [lookH, this, hk]
    · rename_i hb
      obtain ⟨h', hk, hh⟩ := setHK_sound hs
      refine ⟨_, hk, fun k => ?_⟩
      simp only [lookH]
      split
      · rename_i hb'
        obtain rfl := beq_eq hb'
        rw [if_neg]
        intro e
        subst e
        rw [Nat.beq_refl] at hb
        cases hb
      · exact hh k
theorem beq_ne {a b : Nat} (h : a ≠ b) : Nat.beq a b = false := by
  rw [Bool.eq_false_iff]; intro e; exact h (beq_eq e)
theorem delHK_sound {K : Heap → Prop} : ∀ {h : Heap} {n : Nat}, delHK h n K → ∃ h', K h' ∧ (∀ k c, lookH h' k = some c → lookH h k = some c ∧ k ≠ n) ∧ ∀ nx, okH nx h = true → okH nx h' = true
  | [], _, hs => ⟨[], hs, (fun _ _ h => by cases h), fun _ h => h⟩
  | (i, d) :: r, n, hs => by
    simp only [delHK] at hs
    split at hs
    · rename_i hb
      obtain rfl := beq_eq hb
      obtain ⟨h', hk, hh, hok⟩ := delHK_sound hs
      refine ⟨_, hk, fun k c hl => ?_, fun nx ho => ?_⟩
      · obtain ⟨h1, h2⟩ := hh k c hl
        exact ⟨by simp only [lookH, beq_ne (Ne.symm h2)]; exact h1, h2⟩
      · simp only [okH, Bool.and_eq_true] at ho
        exact hok nx ho.2
    · rename_i hb
      obtain ⟨h', hk, hh, hok⟩ := delHK_sound hs
      refine ⟨_, hk, fun k c hl => ?_, fun nx ho => ?_⟩
      · by_cases hik : i = k
        · subst hik
          simp only [lookH, Nat.beq_refl] at hl ⊢
          exact ⟨hl, fun e => by subst e; rw [Nat.beq_refl] at hb; cases hb⟩
        · simp only [lookH, beq_ne hik] at hl ⊢
          exact hh k c hl
      · simp only [okH, Bool.and_eq_true] at ho ⊢
        exact ⟨ho.1, hok nx ho.2⟩
end Go.Proofs.Ytjpjiniclibgkaa.Sx

namespace Go.Proofs.Ytjpjiniclibgkaa.Sx

/-- All that is known of a state: of the world, and of the slots. -/
structure Good (B : Base) (ops : List Oper) (η : Names) (m : Mem) (st : St) (a : Act) (w : World) : Prop where
  H : Hold B η m st.h st.nx w
  T : HoldT ops η st a

theorem HoldT.names {ops : List Oper} {η η' : Names} {st st' : St} {a : Act} (h : HoldT ops η st a) (hok : okT st.nx st.t = true) (hag : Agree st.nx η η')
    (hsz : st'.sz = st.sz) (ht : st'.t = st.t) (hg : st'.gs = st.gs) : HoldT ops η' st' a := by
  refine ⟨by rw [hsz]; exact h.sz, h.df, fun k tag x hl => ?_, fun j g tg hl => ?_⟩
  · rw [ht] at hl
    rw [hg, den_ok hag x (okT_look hok hl)]
    exact h.sl k tag x hl
  · rw [hg] at hl
    rw [ht]
    exact h.gs j g tg hl

section
variable {P : Program} {T : Tbl} (hT : TOk P T) {B : Base} {ops : List Oper} {η : Names} {m : Mem} {st : St} {a : Act} {w : World} (hG : Good B ops η m st a w)

include hG in
theorem newSt_sound {e : TypeId} {cs : List SV} {K : SV → St → Prop} (h : newSt st e cs K) :
    ∃ x η' st', K x st' ∧ Good B ops η' m st' a (w.alloc (.cells (dens η cs).toArray e)) ∧ den η' x = .pointer (some ⟨w.heap.size, 0, none⟩) := by
  unfold newSt at h
  simp only [forceN_eq] at h
  split at h
  · rename_i hb
    simp only [okSt, Bool.and_eq_true] at hb
    obtain ⟨⟨ht, hh⟩, hc⟩ := hb
    obtain ⟨sz, t, gs, hp, nx⟩ := st
    have hag := addN_agree η nx ⟨some ⟨w.heap.size, 0, none⟩, 0, some w.heap.size⟩
    have hnew := addN_new η nx ⟨some ⟨w.heap.size, 0, none⟩, 0, some w.heap.size⟩
    refine ⟨_, addN η nx ⟨some ⟨w.heap.size, 0, none⟩, 0, some w.heap.size⟩, _, h, ⟨hG.H.add hh (.inl rfl) ?_, hG.T.names ht hag rfl rfl rfl⟩, ?_⟩
    · refine ⟨w.heap.size, by rw [hnew], by rw [hnew], ?_⟩
      rw [dens_ok hag cs hc]
      exact heap_alloc_new w _
    · simp only [den, hnew]
      rfl
  · exact h.elim

include hG in
/-- A new row: its block holds the row's cells first. -/
theorem newRow_sound {e : TypeId} {z n cap : Nat} {xs : List Value} {cur : Array Value} {K : SV → St → Prop} (h : newRow st e z n xs K) (hl : xs.length = n * z) (h1 : ∀ u ∈ xs, u.oneCell' = true)
    (hn : n ≤ cap) (hcap : cap ≤ maxLen) (hcur : cur.size = cap * z) (htake : cur.toList.take (n * z) = xs) :
    ∃ x η' st', K x st' ∧ Good B ops η' m st' a (w.alloc (.cells cur e)) ∧ den η' x = .slice (some ⟨w.heap.size, 0, none⟩) n cap := by
  unfold newRow at h
  simp only [forceN_eq] at h
  split at h
  · rename_i hb
    simp only [okSt, Bool.and_eq_true] at hb
    obtain ⟨ht, hh⟩ := hb
    obtain ⟨sz, t, gs, hp, nx⟩ := st
    have hag := addN_agree η nx ⟨some ⟨w.heap.size, 0, none⟩, cap, some w.heap.size⟩
    have hnew := addN_new η nx ⟨some ⟨w.heap.size, 0, none⟩, cap, some w.heap.size⟩
    refine ⟨_, addN η nx ⟨some ⟨w.heap.size, 0, none⟩, cap, some w.heap.size⟩, _, h, ⟨hG.H.add hh (.inl rfl) ?_, hG.T.names ht hag rfl rfl rfl⟩, ?_⟩
    · refine ⟨⟨hl, h1⟩, .inr ⟨w.heap.size, cur, by rw [hnew], by rw [hnew], heap_alloc_new w _, ?_, ?_, ?_, htake⟩⟩
      · rw [hnew]; exact hn
      · rw [hnew]; exact hcap
      · rw [hnew]; exact hcur
    · simp only [den, hnew]
  · exact h.elim

theorem fits_or {g : Bool} {x : SV} (h : fitsB g x = true) : isG x = true ∨ plainB x = true := by
  cases g with
  | true => cases x <;> first | exact .inl rfl | cases h
  | false => exact .inr h
theorem ints_one (n : Nat) (k : IntKind) (f : Nat → Int) : ∀ u ∈ ints n k f, u.oneCell' = true := by
  intro u hu
  simp only [ints, List.mem_map] at hu
  obtain ⟨j, _, rfl⟩ := hu
  rfl
theorem plains_one (η : Names) : ∀ {cs : List SV}, plains cs = true → ∀ u ∈ dens η cs, u.oneCell' = true
  | [], _, u, hu => by cases hu
  | x :: r, h, u, hu => by
    simp only [plains, Bool.and_eq_true, Bool.or_eq_true] at h
    rw [dens_cons, List.mem_append] at hu
    rcases hu with hu | hu
    · rcases h.1 with hp | hg
      · rw [dens_one η x (plain_gi hp)] at hu
        simp only [List.mem_singleton] at hu
        subst hu
        exact plain_one η x hp
      · cases x <;> first | cases hg | skip
        simp only [dens, pc, List.append_nil] at hu
        exact ints_one _ _ _ u hu
    · exact plains_one η h.2 u hu
theorem fits_one (η : Names) {g : Bool} {x : SV} (h : fitsB g x = true) : ∀ u ∈ (den η x).cells.toList, u.oneCell' = true := by
  cases g with
  | true =>
    cases x <;> first | cases h | skip
    rename_i cs
    simp only [den, Value.cells]
    exact plains_one η h
  | false =>
    intro u hu
    rw [cells_one _ (plain_one η x h)] at hu
    simp only [List.mem_singleton] at hu
    subst hu
    exact plain_one η x h

include hT in
theorem run_storeAt {t : TypeId} {ti : TI} (hti : T.at t = some ti) {b o : Nat} {cur : Array Value} {e : TypeId} (hb : w.heap[b]? = some (.cells cur e (0, 0))) {v : Value}
    (hsz : v.cells.size = ti.size) (hfit : o + ti.size ≤ cur.size) (h1 : ∀ u ∈ v.cells.toList, u.oneCell' = true) :
    (Instr.storeAt t (.pointer (some ⟨b, o, none⟩)) v).run P w = .ok () (w.setRow b (cur.toList.take o ++ (v.cells.toList ++ cur.toList.drop (o + ti.size))).toArray) := by
  have hs := run_size hT (w := w) hti
  have := run_storeCells_at P b o e v.cells.toList 0 cur w hb (by rw [Array.length_toList]; omega) h1
  simp only [Nat.add_zero, Array.length_toList, hsz] at this
  simp only [Instr.storeAt, Instr.sureAddr, Sem.run_bind, Sem.run_pure, Result.andThen_ok, storeVar, hs, hsz, ne_eq, not_true_eq_false, if_false, this, List.append_assoc]

theorem cellsV_eq {g : Bool} {x : SV} (hcl : cl x = true) (hf : fitsB g x = true) : cellsV x = (den η x).cells.toList := by
  rcases fits_or hf with h | h
  · rw [cellsV_den (η := η) hcl h]; rfl
  · have hg : isG x = false := by cases x <;> first | rfl | cases h
    rw [cellsV_one (η := η) hcl hg, cells_one _ (plain_one η x h)]

theorem take_splice (l new : List Value) (o n k : Nat) (hn : new.length = n) (h1 : o + n ≤ k) (h2 : k ≤ l.length) :
    (l.take o ++ (new ++ l.drop (o + n))).take k = (l.take k).take o ++ (new ++ (l.take k).drop (o + n)) := by
  have ho : (l.take o).length = o := by rw [List.length_take]; omega
  have e1 : (l.take k).take o = l.take o := by rw [List.take_take, Nat.min_eq_left (by omega)]
  have e2 : (l.take k).drop (o + n) = (l.drop (o + n)).take (k - (o + n)) := by rw [List.drop_take]
  rw [take_app _ _ _ _ ho (by omega), take_app _ _ _ _ hn (by omega), e1, e2]
  congr 3
  omega

theorem splice_sub (l new : List Value) (o j k : Nat) (h : j + 1 ≤ k) :
    l.take o ++ (((l.drop o).take k).take j ++ (new ++ ((l.drop o).take k).drop (j + 1)) ++ l.drop (o + k)) = l.take (o + j) ++ (new ++ l.drop (o + j + 1)) := by
  have e1 : ((l.drop o).take k).take j = (l.drop o).take j := by rw [List.take_take, Nat.min_eq_left (by omega)]
  have e2 : ((l.drop o).take k).drop (j + 1) ++ l.drop (o + k) = l.drop (o + j + 1) := by
    rw [List.drop_take, List.drop_drop]
    have : l.drop (o + k) = (l.drop (o + j + 1)).drop (k - (j + 1)) := by rw [List.drop_drop]; congr 1; omega
    rw [this, show o + (j + 1) = o + j + 1 from rfl, List.take_append_drop]
  rw [List.take_add, e1, List.append_assoc, List.append_assoc, List.append_assoc, e2]

theorem ints_set (k : Nat) (kd : IntKind) (f : Nat → Int) (j : Nat) (v : Int) (hj : j < k) :
    ints k kd (fun i => if i = j then v else f i) = (ints k kd f).take j ++ ([.int kd v] ++ (ints k kd f).drop (j + 1)) := by
  apply List.ext_getElem?
  intro i
  have hl : (ints k kd f).length = k := ints_length k kd f
  have ht : ((ints k kd f).take j).length = j := by rw [List.length_take]; omega
  have hg : ∀ (g : Nat → Int) i, (ints k kd g)[i]? = if i < k then some (.int kd (g i)) else none := by
    intro g i
    unfold ints
    rw [List.getElem?_map]
    by_cases h : i < k
    · simp [h]
    · simp [h]
  rw [hg]
  rcases Nat.lt_trichotomy i j with h | h | h
  · rw [List.getElem?_append_left (by omega), List.getElem?_take, if_pos h, hg]
    simp [Nat.ne_of_lt h]
  · subst h
    rw [List.getElem?_append_right (by omega), ht]
    simp [hj]
  · rw [List.getElem?_append_right (by omega), ht, List.getElem?_append_right (by simp; omega), List.getElem?_drop, hg]
    have : j + 1 + (i - j - [Value.int kd v].length) = i := by simp; omega
    rw [this]
    simp [Nat.ne_of_gt h]

include hT hG in
theorem storeE_sound {t : TypeId} {x v : SV} {K : St → Prop} (h : storeE T st t x v K) :
    ∃ st' w', K st' ∧ (Instr.storeAt t (den η x) (den η v)).run P w = .ok () w' ∧ Good B ops η m st' a w' := by
  have hH := hG.H
  unfold storeE at h
  split at h
  · exact h.elim
  rename_i ti hti
  split at h
  · rename_i n o
    split at h
    · rename_i e cs hl
      split at h
      · rename_i hpos hfit
        obtain ⟨new, h, hnew⟩ := parts_sound h
        obtain ⟨cs', h, hcs'⟩ := putAt_sound h
        obtain ⟨h', h, hh'⟩ := setHK_sound h
        obtain ⟨b, hA, ho, hb⟩ := (hH.ck n _ hl).2
        obtain ⟨hlen, hle, heq⟩ := hcs' η
        have hcells := hnew η (fits_or hfit)
        have hsz : (den η v).cells.size = ti.size := by rw [← Array.length_toList, hcells, hlen]
        have hrun := run_storeAt hT hti (v := den η v) (o := o) hb hsz (by simpa using hle) (fits_one η hfit)
        have hx : den η (.p n o) = .pointer (some ⟨b, o, none⟩) := by simp only [den, hA, Option.map_some, add_base]
        rw [← hx] at hrun
        obtain ⟨sz, tt, gs, hp, nx⟩ := st
        refine ⟨_, _, h, hrun, ⟨?_, ⟨hG.T.sz, hG.T.df, hG.T.sl, hG.T.gs⟩⟩⟩
        refine hH.write hl ho (fun k hk => setRow_other w b k _ hk) (by simp) rfl rfl rfl (c' := .st e cs') ⟨b, hA, ho, ?_⟩ hh'
        rw [setRow_heap w b _ _ e _ hb, heq, hcells]
      · exact h.elim
    · rename_i e z k xs hl
      split at h
      · rename_i hclp hfit
        simp only [Bool.and_eq_true] at hclp
        obtain ⟨hcl, hpos⟩ := hclp
        obtain ⟨⟨hle, hvl⟩, h⟩ := h
        obtain ⟨h', h, hh'⟩ := setHK_sound h
        have hcv := cellsV_eq (η := η) hcl hfit
        have hsz : (den η v).cells.size = ti.size := by rw [← Array.length_toList, ← hcv, hvl]
        obtain ⟨⟨hxl, hx1⟩, ⟨_, hk0, _⟩ | ⟨b, cur, hA, ho, hb, hk, hcm, hcur, htake⟩⟩ := (hH.ck n _ hl).2
        · have hz : ti.size = 0 := by have := hxl; rw [hk0, Nat.zero_mul] at this; omega
          have hp := blt_lt hpos
          omega
        · have hkc : k * z ≤ cur.size := by rw [hcur]; exact Nat.mul_le_mul_right _ hk
          have hrun := run_storeAt hT hti (v := den η v) (o := o) hb hsz (by omega) (fits_one η hfit)
          have hx : den η (.p n o) = .pointer (some ⟨b, o, none⟩) := by simp only [den, hA, Option.map_some, add_base]
          rw [← hx] at hrun
          obtain ⟨sz, tt, gs, hp, nx⟩ := st
          refine ⟨_, _, h, hrun, ⟨?_, ⟨hG.T.sz, hG.T.df, hG.T.sl, hG.T.gs⟩⟩⟩
          refine hH.write hl ho (fun k hk => setRow_other w b k _ hk) (by simp) rfl rfl rfl ?_ hh'
          refine ⟨⟨?_, ?_⟩, .inr ⟨b, _, hA, ho, setRow_heap w b _ _ e _ hb, hk, hcm, ?_, ?_⟩⟩
          · simp only [List.length_append, List.length_take, List.length_drop, hvl]
            omega
          · intro u hu
            simp only [List.mem_append] at hu
            rcases hu with hu | hu | hu
            · exact hx1 u (List.mem_of_mem_take hu)
            · exact fits_one η hfit u (by rw [← hcv]; exact hu)
            · exact hx1 u (List.mem_of_mem_drop hu)
          · simp only [List.size_toArray, List.length_append, List.length_take, List.length_drop, Array.length_toList, hsz]
            omega
          · show List.take _ (_ ++ (_ ++ _)) = _
            rw [take_splice _ _ _ _ _ (by rw [Array.length_toList]; exact hsz) (by omega) (by rw [Array.length_toList]; exact hkc), htake, hcv]
      · exact h.elim
    · exact h.elim
  · rename_i n o j
    split at h
    · rename_i e cs kd v' hl
      split at h
      · rename_i kk hd hs1
        obtain ⟨y, h, hy⟩ := partAt_sound h
        split at h
        · rename_i k kd' f
          split at h
          · rename_i hk
            obtain rfl := sameKind_eq hk
            obtain ⟨hj, h⟩ := h
            obtain ⟨cs', h, hcs'⟩ := putAt_sound h
            obtain ⟨h', h, hh'⟩ := setHK_sound h
            obtain ⟨b, hA, ho, hb⟩ := (hH.ck n _ hl).2
            obtain ⟨hlen, hle, heq⟩ := hcs' η
            have hsz : (den η (.i kd v')).cells.size = ti.size := by rw [hs1]; rfl
            have hrun := run_storeAt hT hti (v := den η (.i kd v')) (o := o + j) hb hsz (by simp; omega) (by intro u hu; simp [den, Value.cells] at hu; subst hu; rfl)
            have hx : den η (.pj n o j) = .pointer (some ⟨b, o + j, none⟩) := by simp only [den, hA, Option.map_some, add_base]
            rw [← hx] at hrun
            obtain ⟨sz, tt, gs, hp, nx⟩ := st
            refine ⟨_, _, h, hrun, ⟨?_, ⟨hG.T.sz, hG.T.df, hG.T.sl, hG.T.gs⟩⟩⟩
            refine hH.write hl ho (fun k hk => setRow_other w b k _ hk) (by simp) rfl rfl rfl (c' := .st e cs') ⟨b, hA, ho, ?_⟩ hh'
            rw [setRow_heap w b _ _ e _ hb, heq, hs1]
            congr 3
            obtain ⟨hyl, hym⟩ := hy η
            simp only [wid] at hyl hym
            have hyi : ints k kd f = ((dens η cs).drop o).take k := by rw [← hym]; simp [dens, pc]
            have e1 : dens η [SV.gi k kd fun i => if i = j then v' else f i] = ints k kd (fun i => if i = j then v' else f i) := by simp [dens, pc]
            rw [e1, ints_set k kd f j v' hj, hyi]
            exact (splice_sub _ _ _ _ k hj).symm
          · exact h.elim
        · exact h.elim
      · exact h.elim
    · exact h.elim
  · exact h.elim

/-- A store to memory. -/
theorem Hold.poke {h : Heap} {nx : Nat} (hH : Hold B η m h nx w) {b : Nat} {o : Obj} (hm : B.m0 b = none) (ho : m b = some o) {w' : World} {o' : Obj}
    (hb : w'.heap[b]? = some o') (hwo : ∀ k, k ≠ b → w'.heap[k]? = w.heap[k]?) (hs : w'.heap.size = w.heap.size) (hos : w'.os = w.os) (htp : w'.tape = w.tape) (hout : w'.output = w.output) :
    Hold B η (fun k => if k = b then some o' else m k) h nx w' := by
  have hne : ∀ n c k, lookH h n = some c → (η n).own = some k → k ≠ b := fun n c k hl hk e => by
    subst e
    have := (hH.own n c k hl hk).1
    rw [ho] at this; cases this
  refine ⟨fun k u hk => ?_, fun n c hl => ?_, fun n c k hl hk => ?_, hH.apart, fun k hk hkm => ?_, by rw [hs]; exact hH.size, hos.trans hH.os, htp.trans hH.tape, hout.trans hH.output, fun k u hk => ?_, fun k u hk => ?_, hH.par⟩
  · by_cases hkb : k = b
    · subst hkb; rw [if_pos rfl] at hk; rw [hb]; exact hk
    · rw [if_neg hkb] at hk; rw [hwo k hkb]; exact hH.imm k u hk
  · obtain ⟨h1, h2⟩ := hH.ck n c hl
    exact ⟨h1, h2.kept rfl (fun _ _ _ => rfl) fun k hk => hwo k (hne n c k hl hk)⟩
  · obtain ⟨h1, h2, h3⟩ := hH.own n c k hl hk
    exact ⟨by rw [if_neg (hne n c k hl hk)]; exact h1, by rw [hs]; exact h2, h3⟩
  · have hkb : k ≠ b := fun e => by
      subst e
      rcases hH.mnew k o ho with h1 | h1 | h1
      · rw [hm] at h1; cases h1
      · omega
      · exact hkm h1
    rw [hwo k hkb]
    exact hH.old k hk hkm
  · have hkb : k ≠ b := fun e => by subst e; rw [hm] at hk; cases hk
    rw [if_neg hkb]
    exact hH.mle k u hk
  · by_cases hkb : k = b
    · subst hkb
      rcases hH.mnew k o ho with h1 | h1
      · rw [hm] at h1; cases h1
      · exact .inr h1
    · rw [if_neg hkb] at hk
      exact hH.mnew k u hk
include hT hG in
theorem storeG_sound {z : Nat → Prop} (hz : ∀ b, z b → B.m0 b = none) {t : TypeId} {x v : SV} {K : St → Mem → Prop} (h : storeG T z st m t x v K) :
    ∃ st' m' w', K st' m' ∧ (Instr.storeAt t (den η x) (den η v)).run P w = .ok () w' ∧ Good B ops η m' st' a w' := by
  have old : (storeE T st t x v fun st => K st m) → ∃ st' m' w', K st' m' ∧ (Instr.storeAt t (den η x) (den η v)).run P w = .ok () w' ∧ Good B ops η m' st' a w' := fun h => by
    obtain ⟨st', w', h1, h2, h3⟩ := storeE_sound hT hG h
    exact ⟨st', m, w', h1, h2, h3⟩
  cases x with
  | el A o =>
    have h : storeF T z m t A o v fun m => K st m := h
    unfold storeF at h
    split at h
    · exact h.elim
    rename_i ti hti
    split at h
    · rename_i hcl hfit
      obtain ⟨b, i, cur, e, ⟨hA, hzb, hmb, hle, hvl⟩, hk⟩ := h
      have hb := hG.H.imm b _ hmb
      have hcv := cellsV_eq (η := η) hcl hfit
      have hsz : (den η v).cells.size = ti.size := by rw [← Array.length_toList, ← hcv, hvl]
      have hrun := run_storeAt hT hti (v := den η v) (o := i) hb hsz hle (fits_one η hfit)
      have hx : den η (.el A o) = .pointer (some ⟨b, i, none⟩) := by simp only [den, hA]
      rw [← hx] at hrun
      refine ⟨_, _, _, hk, hrun, ⟨?_, ⟨hG.T.sz, hG.T.df, hG.T.sl, hG.T.gs⟩⟩⟩
      rw [hcv]
      exact hG.H.poke (hz b hzb) hmb (setRow_heap w b _ _ e _ hb) (fun k hk => setRow_other w b k _ hk) (by simp) rfl rfl rfl
    · exact h.elim
  | _ => exact old h
end
end Go.Proofs.Ytjpjiniclibgkaa.Sx

namespace Go.Proofs.Ytjpjiniclibgkaa.Sx

section
variable {B : Base} {η : Names} {m : Mem} {h : Heap} {nx : Nat} {w w' : World} (hH : Hold B η m h nx w)

theorem Hold.del {h' : Heap} (hH : Hold B η m h nx w) (hd : ∀ k c, lookH h' k = some c → lookH h k = some c) : Hold B η m h' nx w :=
  ⟨hH.imm, fun n c hl => hH.ck n c (hd n c hl), fun n c b hl => hH.own n c b (hd n c hl), fun n c n' c' b hl hl' => hH.apart n c n' c' b (hd n c hl) (hd n' c' hl'),
    hH.old, hH.size, hH.os, hH.tape, hH.output, hH.mle, hH.mnew, hH.par⟩

include hH in
/-- One name more: for a block of its own, or one that no other name has. -/
theorem Hold.put (hok : okH nx h = true) {c : Ck} {p : Place} (hkeep : ∀ k, k < w.heap.size → p.own ≠ some k → w'.heap[k]? = w.heap[k]?) (hs : w.heap.size ≤ w'.heap.size)
    (hos : w'.os = w.os) (htp : w'.tape = w.tape) (hout : w'.output = w.output)
    (hown : ∀ b, p.own = some b → m b = none ∧ b < w'.heap.size ∧ (b ∈ B.mods ∨ B.w0.heap.size ≤ b) ∧ ∀ n d, lookH h n = some d → (η n).own ≠ some b)
    (hc : CkAt (addN η nx p) w' nx c) : Hold B (addN η nx p) m ((nx, c) :: h) (nx + 1) w' := by
  have hag := addN_agree η nx p
  have hnew := addN_new η nx p
  have hlk : ∀ n d, lookH ((nx, c) :: h) n = some d → (n = nx ∧ d = c) ∨ (n < nx ∧ lookH h n = some d) := by
    intro n d hl
    simp only [lookH] at hl
    split at hl
    · rename_i hb
      cases hl
      exact .inl ⟨(beq_eq hb).symm, rfl⟩
    · exact .inr ⟨(okH_look hok hl).1, hl⟩
  refine ⟨fun b o hm => ?_, fun n d hl => ?_, fun n d b hl ho => ?_, fun n d n' d' b hl hl' hne ho ho' => ?_, fun b hb hbm => ?_, Nat.le_trans hH.size hs, hos.trans hH.os, htp.trans hH.tape, hout.trans hH.output, hH.mle, hH.mnew, ⟨Nat.le_succ_of_le hH.par.1, fun n hn => (hag n (Nat.lt_of_lt_of_le hn hH.par.1)).trans (hH.par.2 n hn)⟩⟩
  · have := hH.imm b o hm
    rw [hkeep b (heap_lt this) (fun e => by rw [(hown b e).1] at hm; cases hm)]
    exact this
  · rcases hlk n d hl with ⟨rfl, rfl⟩ | ⟨hn, hl2⟩
    · exact ⟨Nat.lt_succ_self _, hc⟩
    · obtain ⟨_, hck⟩ := hH.ck n d hl2
      refine ⟨Nat.lt_succ_of_lt hn, hck.kept (hag n hn) (fun e cs hcs => ?_) fun b ho => hkeep b (hH.own n d b hl2 ho).2.1 fun e => (hown b e).2.2.2 n d hl2 ho⟩
      subst hcs
      exact dens_ok hag cs (okH_look hok hl2).2
  · rcases hlk n d hl with ⟨rfl, rfl⟩ | ⟨hn, hl2⟩
    · rw [hnew] at ho
      obtain ⟨h1, h2, h3, _⟩ := hown b ho
      exact ⟨h1, h2, h3⟩
    · rw [hag n hn] at ho
      obtain ⟨h1, h2, h3⟩ := hH.own n d b hl2 ho
      exact ⟨h1, Nat.lt_of_lt_of_le h2 hs, h3⟩
  · rcases hlk n d hl with ⟨rfl, rfl⟩ | ⟨hn, hl2⟩ <;> rcases hlk n' d' hl' with ⟨rfl, rfl⟩ | ⟨hn', hl2'⟩
    · exact hne rfl
    · rw [hnew] at ho
      rw [hag n' hn'] at ho'
      exact (hown b ho).2.2.2 n' d' hl2' ho'
    · rw [hnew] at ho'
      rw [hag n hn] at ho
      exact (hown b ho').2.2.2 n d hl2 ho
    · rw [hag n hn] at ho
      rw [hag n' hn'] at ho'
      exact hH.apart n d n' d' b hl2 hl2' hne ho ho'
  · have hlt : b < w.heap.size := Nat.lt_of_lt_of_le hb hH.size
    rw [hkeep b hlt (fun e => by rcases (hown b e).2.2.1 with h1 | h1; exact hbm h1; omega)]
    exact hH.old b hb hbm

include hH in
theorem Hold.fresh {b : Nat} (hb : w.heap.size ≤ b) (hlt : b < w'.heap.size) : m b = none ∧ b < w'.heap.size ∧ (b ∈ B.mods ∨ B.w0.heap.size ≤ b) ∧ ∀ n d, lookH h n = some d → (η n).own ≠ some b := by
  refine ⟨?_, hlt, .inr (Nat.le_trans hH.size hb), fun n d hl ho => ?_⟩
  · cases hm : m b with
    | none => rfl
    | some o => have := heap_lt (hH.imm _ _ hm); omega
  · have := (hH.own n d b hl ho).2.1; omega
end

/-! ### append -/
theorem frozen_zero {w : World} {g o : Nat} {cur : Array Value} {e : TypeId} (hg : w.heap[g]? = some (.cells cur e (0, 0))) : w.frozen? ⟨g, o, none⟩ = false := by
  simp [World.frozen?, hg]

section
variable {P : Program} {w : World} {t u e : TypeId}

/-- append into a row that has the room. -/
theorem append_room (hu : P.underlying t = some (.slice e)) (huu : (∃ e', P.underlying u = some (.slice e')) ∨ P.underlying u = some .string) {i : TypeInfo} (hi : P.info? e = some i)
    {g sLen sCap n : Nat} {cur : Array Value} (hg : w.heap[g]? = some (.cells cur e (0, 0))) {x : Value} {news : List Value}
    (hx : (Builtin.lenOf x).run P w = .ok n w) (hf : (Builtin.firstCells i.size n x).run P w = .ok news.toArray w) (h1 : ∀ v ∈ news, v.oneCell' = true)
    (hroom : sLen + n ≤ sCap) (hfit : sLen * i.size + news.length ≤ cur.size) (ty : TypeId) :
    (Builtin.append_ #[t, u] ty #[.slice (some ⟨g, 0, none⟩) sLen sCap, x]).run P w =
      .ok (.slice (some ⟨g, 0, none⟩) (sLen + n) sCap) (w.setRow g (cur.toList.take (sLen * i.size) ++ news ++ cur.toList.drop (sLen * i.size + news.length)).toArray) := by
  have hst := run_storeCells_at P g (sLen * i.size) e news 0 cur w hg (by simpa using hfit) h1
  simp only [Nat.add_zero] at hst
  rcases huu with ⟨e', huu⟩ | huu
  · simp [Builtin.append_, run_underlying hu, run_underlying huu, sizeOf, typeInfo, hi, hx, hroom, hf, Addr.add_lit, hst]
  · simp [Builtin.append_, run_underlying hu, run_underlying huu, sizeOf, typeInfo, hi, hx, hroom, hf, Addr.add_lit, hst]
/-- append of nothing to nothing. -/
theorem append_none (hu : P.underlying t = some (.slice e)) (huu : (∃ e', P.underlying u = some (.slice e')) ∨ P.underlying u = some .string) {i : TypeInfo} (hi : P.info? e = some i)
    {A : Option Addr} {x : Value} (hx : (Builtin.lenOf x).run P w = .ok 0 w) (hf : (Builtin.firstCells i.size 0 x).run P w = .ok #[] w) (ty : TypeId) :
    (Builtin.append_ #[t, u] ty #[.slice A 0 0, x]).run P w = .ok (.slice A 0 0) w := by
  rcases huu with ⟨e', huu⟩ | huu <;> cases A <;> simp [Builtin.append_, run_underlying hu, run_underlying huu, sizeOf, typeInfo, hi, hx, hf, storeCells]
/-- append that makes a new array. -/
theorem append_grow (hu : P.underlying t = some (.slice e)) (huu : (∃ e', P.underlying u = some (.slice e')) ∨ P.underlying u = some .string) {i : TypeInfo} (hi : P.info? e = some i) {z : Value} (hz : i.zero = some z)
    {A : Option Addr} {sLen sCap n : Nat} {olds news : List Value} {x : Value} (ho : (Builtin.firstCells i.size sLen (.slice A sLen sCap)).run P w.drew = .ok olds.toArray w.drew)
    (hx : (Builtin.lenOf x).run P w = .ok n w) (hf : (Builtin.firstCells i.size n x).run P w.drew = .ok news.toArray w.drew)
    (hg : sCap < sLen + n) (h63 : ((sLen + n : Nat) : Int) ≤ 9223372036854775807) (hfit : Builtin.nextslicecap (sLen + n) sCap * i.bytes ≤ 281474976710656) (ty : TypeId) :
    (Builtin.append_ #[t, u] ty #[.slice A sLen sCap, x]).run P w =
      .ok (.slice (some ⟨w.heap.size, 0, none⟩) (sLen + n) (grownCap w (sLen + n) sCap e))
        (w.drew.alloc (.cells (olds.toArray ++ news.toArray ++ Builtin.zeroCells z.cells (grownCap w (sLen + n) sCap e - (sLen + n))) e)) := by
  have hn : ¬ (sLen + n ≤ sCap) := by omega
  have h63' : ¬ (9223372036854775807 < ((sLen : Int) + (n : Int))) := by omega
  have h48' : ¬ (281474976710656 < Builtin.nextslicecap (sLen + n) sCap * i.bytes) := by omega
  rcases huu with ⟨e', huu⟩ | huu
  · simp [Builtin.append_, run_underlying hu, run_underlying huu, sizeOf, typeInfo, zeroValue, hi, hz, hx, hn, h63', h48', Question.forced, hf, ho, Go.newRow, grownCap]
    congr 2
    apply Array.ext'
    simp [List.append_assoc]
  · simp [Builtin.append_, run_underlying hu, run_underlying huu, sizeOf, typeInfo, zeroValue, hi, hz, hx, hn, h63', h48', Question.forced, hf, ho, Go.newRow, grownCap]
    congr 2
    apply Array.ext'
    simp [List.append_assoc]
end
end Go.Proofs.Ytjpjiniclibgkaa.Sx
