/- Symbolic execution, second text: the evaluator of operations. Each function hands what comes out to its continuation, in open form; a condition is laid ahead of it. -/
import Derived.Test.YtaeoibnbbpgajaaDoorSxA
import Derived.Laws.Entries
import Derived.WalkKit
namespace Go.Proofs.YtaeoibnbbpgajaaDoor.Sx

abbrev Tag := List (Nat × Bool)
abbrev Gs := List (Nat × Bool × Tag)

/-- Whether a tag's tests all came out as the tag says. -/
def tagB (gs : Gs) : Tag → Bool
  | [] => true
  | (j, w) :: r => (match lookG gs j with
    | some (g, _) => g == w
    | none => false) && tagB gs r
/-- A condition under a tag. -/
def gc (gs : Gs) (tag : Tag) (c : Prop) : Prop := match tag with
  | [] => c
  | t :: r => tagB gs (t :: r) = true → c
def memT (j : Nat) (w : Bool) : Tag → Bool
  | [] => false
  | (i, u) :: r => match Nat.beq i j with
    | true => match u, w with
      | true, true => true
      | false, false => true
      | _, _ => memT j w r
    | false => memT j w r
def subT : Tag → Tag → Bool
  | [], _ => true
  | (j, w) :: r, tag => match memT j w tag with
    | true => subT r tag
    | false => false

/-- A byte of a text. -/
def sb (s : ByteArray) (i : Int) : Int := ((s.data.toList.getD i.toNat 0).toNat : Int)

def mcell (m : Mem) (a : Addr) : Option Value := match m a.block with
  | some (.cells c _ _) => if a.spot.isSome then none else c[a.off]?
  | _ => none
/-- n cells of lasting memory, from cell o behind A on. -/
def rdM (m : Mem) (A : Option Addr) (o n : Nat) (vs : List Value) : Prop :=
  ∃ a, A = some a ∧ vs.length = n ∧ ∀ (j : Nat) (u : Value), vs[j]? = some u → mcell m (a.add (o + j)) = some u

/-! ### values without names -/
mutual
def cl : SV → Bool
  | .p _ _ => false
  | .pj _ _ _ => false
  | .rw _ _ => false
  | .g cs => cls cs
  | .t cs => cls cs
  | .e _ x => cl x
  | .fn _ a c => cls a && cls c
  | _ => true
def cls : List SV → Bool
  | [] => true
  | x :: r => cl x && cls r
end
def η0 : Names := fun _ => default
/-- The cells of a value without names. -/
def cellsV (x : SV) : List Value := match x with
  | .g cs => dens η0 cs
  | x => [den η0 x]
def isG : SV → Bool
  | .g _ => true
  | _ => false
def isGi : SV → Bool
  | .gi _ _ _ => true
  | _ => false
def plainB : SV → Bool
  | .g _ => false
  | .gi _ _ _ => false
  | .t _ => false
  | .v x => x.oneCell'
  | _ => true

/-- Parts that are cells each. -/
def plains : List SV → Bool
  | [] => true
  | x :: r => (plainB x || isGi x) && plains r
def isGp : SV → Bool
  | .g cs => plains cs
  | _ => false
/-- A value that can be stored into a variable of a type that is (or isn't) a struct or an array. -/
def fitsB (agg : Bool) (x : SV) : Bool := match agg with
  | true => isGp x
  | false => plainB x

def aggD : TypeDesc → Bool
  | .struct _ => true
  | .array _ _ => true
  | _ => false

/-! ### operands -/
def argAt (t : List Slot) (tag : Tag) (x : Operand) (K : SV → Prop) : Prop := match x with
  | .tmp k => match look t k with
    | some (tg, x) => match subT tg tag with
      | true => K x
      | false => False
    | none => False
  | .const v => force (ofV v) K
  | .global g => K (.el (some ⟨g, 0, none⟩) 0)
  | .func f => K (.fn f [] [])
def argsAt (t : List Slot) (tag : Tag) : List Operand → (List SV → Prop) → Prop
  | [], K => K []
  | x :: r, K => argAt t tag x fun v => argsAt t tag r fun l => K (v :: l)

/-! ### arithmetic -/
def intOp (op : BinOp) (k : IntKind) (a b : Int) (C : Prop → Prop) (K : SV → Prop) : Prop := match op with
  | .add => K (.i k (k.wrap (a + b)))
  | .sub => K (.i k (k.wrap (a - b)))
  | .mul => K (.i k (k.wrap (a * b)))
  | .quo => C (b ≠ 0) ∧ K (.i k (k.wrap (a.tdiv b)))
  | .rem => C (b ≠ 0) ∧ K (.i k (a.tmod b))
  | .and => K (.i k (bits .and k a b))
  | .or => K (.i k (bits .or k a b))
  | .xor => K (.i k (bits .xor k a b))
  | .andNot => K (.i k (bits .andNot k a b))
  | .eql => K (.b (a == b))
  | .neq => K (.b (a != b))
  | .lss => K (.b (decide (a < b)))
  | .leq => K (.b (decide (a ≤ b)))
  | .gtr => K (.b (decide (a > b)))
  | .geq => K (.b (decide (a ≥ b)))
  | _ => False
def strOp (op : BinOp) (x y : ByteArray) (C : Prop → Prop) (K : SV → Prop) : Prop := match op with
  | .add => C (x.size + y.size ≤ 9223372036854775807) ∧ K (.s (x ++ y))
  | .eql => K (.b (x.toList == y.toList))
  | .neq => K (.b (!(x.toList == y.toList)))
  | .lss => K (.b (Op.bytesLess x.toList y.toList))
  | .leq => K (.b (Op.bytesLess x.toList y.toList || x.toList == y.toList))
  | .gtr => K (.b (!(Op.bytesLess x.toList y.toList || x.toList == y.toList)))
  | .geq => K (.b (!(Op.bytesLess x.toList y.toList)))
  | _ => False
def sameKind : IntKind → IntKind → Bool
  | .i8, .i8 => true | .i16, .i16 => true | .i32, .i32 => true | .i64, .i64 => true
  | .u8, .u8 => true | .u16, .u16 => true | .u32, .u32 => true | .u64, .u64 => true
  | _, _ => false
def shiftOp (op : BinOp) (k : IntKind) (a b : Int) (C : Prop → Prop) (K : SV → Prop) : Prop := match op with
  | .shl => C (0 ≤ b) ∧ K (.i k (k.wrap (a * 2 ^ (min b.toNat k.bits))))
  | .shr => C (0 ≤ b) ∧ K (.i k (a.fdiv (2 ^ (min b.toNat k.bits))))
  | _ => False
def isShift : BinOp → Bool
  | .shl => true
  | .shr => true
  | _ => false
def binOpV (h : List (Nat × Ck)) (d : TypeDesc) (op : BinOp) (x y : SV) (C : Prop → Prop) (K : SV → Prop) : Prop := match x, y with
  | .i k a, .i k' b => match isShift op with
    | true => shiftOp op k a b C K
    | false => match sameKind k k' with
      | true => intOp op k a b C K
      | false => False
  | .s a, .s b => strOp op a b C K
  | .b a, .b b => match d, op with
    | .bool, .eql => K (.b (a == b))
    | .bool, .neq => K (.b (!(a == b)))
    | _, _ => False
  | .p n _, .np => match lookH h n, d, op with
    | some (.st _ _), .pointer _, .eql => K (.b false)
    | some (.st _ _), .pointer _, .neq => K (.b true)
    | _, _, _ => False
  | .np, .np => match d, op with
    | .pointer _, .eql => K (.b true)
    | .pointer _, .neq => K (.b false)
    | _, _ => False
  | _, _ => False

def unOpV (op : UnOp) (x : SV) (K : SV → Prop) : Prop := match op, x with
  | .not, .b a => K (.b (!a))
  | .neg, .i k n => K (.i k (k.wrap (0 - n)))
  | .xor, .i k n => K (.i k (bits .xor k (if k.signed then -1 else k.max) n))
  | _, _ => False

/-! ### lists -/
def nth : List SV → Nat → (SV → Prop) → Prop
  | [], _, _ => False
  | x :: _, 0, K => K x
  | _ :: r, n + 1, K => nth r n K
def fieldOf : List Field → Nat → Option Field
  | [], _ => none
  | f :: _, 0 => some f
  | _ :: r, n + 1 => fieldOf r n
def appK : List SV → List SV → (List SV → Prop) → Prop
  | [], l, K => K l
  | x :: r, l, K => appK r l fun l' => K (x :: l')
def widL : List SV → Nat
  | [] => 0
  | x :: r => wid x + widL r
/-- The n cells from o on are put anew. -/
def putAt (cs : List SV) (o n : Nat) (new : List SV) (K : List SV → Prop) : Prop :=
  match Nat.beq (widL new) n with
  | true => takeN cs o fun a => dropN cs (o + n) fun b => appK new b fun nb => appK a nb K
  | false => False
/-- The parts of a value that is put into cells. -/
def parts (x : SV) (K : List SV → Prop) : Prop := match x with
  | .g cs => K cs
  | x => K [x]
/-- A part's place: from o on, n cells: as a value of a type that is (or isn't) a struct or an array. -/
def getAt (cs : List SV) (agg : Bool) (o n : Nat) (K : SV → Prop) : Prop := match agg with
  | true => dropN cs o fun l => takeN l n fun l' => K (.g l')
  | false => partAt cs o fun x => match plainB x with
    | true => K x
    | false => False

/-- Whether every field's type is known. -/
def fieldsOk (T : Tbl) : List Field → Bool
  | [] => true
  | f :: r => match T.at f.type with
    | some _ => fieldsOk T r
    | none => false
/-- The fields of a literal, laid into the zero value. -/
def fill (T : Tbl) (fs : List Field) : List (Nat × SV) → List SV → (List SV → Prop) → Prop
  | [], cs, K => K cs
  | (i, x) :: r, cs, K => match fieldOf fs i with
    | some f => match T.at f.type, (isG x || plainB x) with
      | some ti, true => parts x fun new => putAt cs f.offset ti.size new fun cs' => fill T fs r cs' K
      | _, _ => False
    | none => False
def fillA (z : Nat) : List (Nat × SV) → List SV → (List SV → Prop) → Prop
  | [], cs, K => K cs
  | (i, x) :: r, cs, K => match (isG x || plainB x) with
    | true => parts x fun new => putAt cs (i * z) z new fun cs' => fillA z r cs' K
    | false => False

def pairs (t : List Slot) (tag : Tag) : List (Nat × Operand) → (List (Nat × SV) → Prop) → Prop
  | [], K => K []
  | (i, x) :: r, K => argAt t tag x fun v => pairs t tag r fun l => K ((i, v) :: l)

/-! ### equality of structs and arrays -/
/-- The fields, one behind the other. -/
def eqFs (T : Tbl) (ev : TypeId → SV → SV → (Prop → Prop) → Prop) : List Field → List SV → List SV → (Prop → Prop) → Prop
  | [], _, _, K => K True
  | f :: r, cs, ds, K => match T.at f.type with
    | some tf => getAt cs (aggD tf.d) f.offset tf.size fun x => getAt ds (aggD tf.d) f.offset tf.size fun y => ev f.type x y fun p => eqFs T ev r cs ds fun q => K (p ∧ q)
    | none => False
def eqV (T : Tbl) : Nat → TypeId → SV → SV → (Prop → Prop) → Prop
  | 0, _, _, _, _ => False
  | n + 1, t, x, y, K => match T.at t with
    | none => False
    | some ti => match ti.d, x, y with
      | .int _, .i k a, .i k' b => match sameKind k k' with
        | true => K (a = b)
        | false => False
      | .bool, .b a, .b b => K (a = b)
      | .string, .s a, .s b => K (a = b)
      | .struct fs, .g cs, .g ds => match ti.q with
        | true => eqFs T (eqV T n) fs.toList cs ds K
        | false => False
      | .array len e, .g [.gi n1 k1 f], .g [.gi n2 k2 g] => match ti.q, T.at e with
        | true, some te => match te.d, te.size with
          | .int _, 1 => match Nat.beq len n1 && Nat.beq len n2 && sameKind k1 k2, n with
            | true, _ + 1 => K (∀ j, j < len → f j = g j)
            | _, _ => False
          | _, _ => False
        | _, _ => False
      | _, _, _ => False
noncomputable def yes (p : Prop) : Bool := @decide p (Classical.propDecidable p)
theorem yes_true {p : Prop} : yes p = true ↔ p := by unfold yes; exact @decide_eq_true_iff p (Classical.propDecidable p)
theorem yes_false {p : Prop} : yes p = false ↔ ¬ p := by unfold yes; exact @decide_eq_false_iff_not p (Classical.propDecidable p)
def eqOp (T : Tbl) (t : TypeId) (op : BinOp) (x y : SV) (K : SV → Prop) : Prop := match op with
  | .eql => eqV T 9 t x y fun p => K (.b (yes p))
  | .neq => eqV T 9 t x y fun p => K (.b (!(yes p)))
  | _ => False
/-- A slice beside the nil slice. -/
def nilOp (op : BinOp) (x y : SV) (K : SV → Prop) : Prop := match op, x, y with
  | .eql, .sl A _ _, .sl none 0 0 => K (.b A.isNone)
  | .neq, .sl A _ _, .sl none 0 0 => K (.b (!A.isNone))
  | _, _, _ => False
def binV (T : Tbl) (h : List (Nat × Ck)) (t : TypeId) (op : BinOp) (x y : SV) (C : Prop → Prop) (K : SV → Prop) : Prop := match T.at t with
  | some ti => match ti.d with
    | .struct _ => eqOp T t op x y K
    | .array _ _ => eqOp T t op x y K
    | .slice _ => nilOp op x y K
    | d => binOpV h d op x y C K
  | none => False

/-! ### reading and addresses -/
def loadV (T : Tbl) (h : List (Nat × Ck)) (m : Mem) (C : Prop → Prop) (t : TypeId) (x : SV) (K : SV → Prop) : Prop := match T.at t with
  | none => False
  | some ti => match x with
    | .p n o => match lookH h n with
      | some (.st _ cs) => getAt cs (aggD ti.d) o ti.size K
      | some (.row _ _ _ xs) => ∃ x : SV, (cl x = true ∧ isG x = aggD ti.d ∧ Nat.blt 0 ti.size = true ∧ C (o + ti.size ≤ xs.length ∧ cellsV x = (xs.drop o).take ti.size)) ∧ K x
      | none => False
    | .pj n o j => match lookH h n with
      | some (.st _ cs) => match ti.d with
        | .int _ => partAt cs o fun x => match x with
          | .gi k kd f => C (j < k) ∧ K (.i kd (f j))
          | _ => False
        | _ => False
      | _ => False
    | .el A o => ∃ x : SV, (cl x = true ∧ isG x = aggD ti.d ∧ C (rdM m A o ti.size (cellsV x))) ∧ K x
    | _ => False

/-- The name's block is there (a row has an element at least). -/
def live (h : List (Nat × Ck)) (C : Prop → Prop) (n : Nat) (K : Prop) : Prop := match lookH h n with
  | some (.st _ _) => K
  | some (.row _ _ k _) => C (0 < k) ∧ K
  | none => False
def fieldAddrV (T : Tbl) (h : List (Nat × Ck)) (C : Prop → Prop) (t : TypeId) (x : SV) (f : Nat) (K : SV → Prop) : Prop := match T.at t with
  | some ti => match ti.d with
    | .struct fs => match fieldOf fs.toList f with
      | some fl => match T.at fl.type with
        | some tf => match tf.size with
          | 0 => False
          | _ + 1 => match x with
            | .p n o => live h C n (K (.p n (o + fl.offset)))
            | .el A o => C (A.isSome = true) ∧ K (.el A (o + fl.offset))
            | _ => False
        | none => False
      | none => False
    | _ => False
  | none => False
def indexAddrV (T : Tbl) (h : List (Nat × Ck)) (t : TypeId) (x ix : SV) (C : Prop → Prop) (K : SV → Prop) : Prop := match ix with
  | .i _ i => match T.at t with
    | some ti => match ti.d with
      | .slice e => match T.at e with
        | some te => match x with
          | .sl A len _ => C (0 ≤ i ∧ i < (len : Int) ∧ A.isSome = true) ∧ K (.el A (i.toNat * te.size))
          | .rw r len => match lookH h r with
            | some (.row _ _ k _) => C (0 ≤ i ∧ i < (len : Int) ∧ len ≤ k) ∧ K (.p r (i.toNat * te.size))
            | _ => False
          | _ => False
        | none => False
      | .array n e => match T.at e with
        | some te => match x with
          | .p b o => match te.size with
            | 1 => live h C b (C (0 ≤ i ∧ i < (n : Int)) ∧ K (.pj b o i.toNat))
            | _ => False
          | .el A o => C (0 ≤ i ∧ i < (n : Int) ∧ A.isSome = true) ∧ K (.el A (o + i.toNat * te.size))
          | _ => False
        | none => False
      | _ => False
    | none => False
  | _ => False
def indexV (T : Tbl) (t : TypeId) (x ix : SV) (C : Prop → Prop) (K : SV → Prop) : Prop := match ix with
  | .i _ i => match T.at t with
    | some ti => match ti.d, x with
      | .string, .s s => C (0 ≤ i ∧ i < (s.size : Int)) ∧ K (.i .u8 (sb s i))
      | .array n e, .g [.gi k kd f] => match Nat.beq n k, T.at e with
        | true, some te => match te.d, te.size with
          | .int _, 1 => C (0 ≤ i ∧ i < (n : Int)) ∧ K (.i kd (f i.toNat))
          | _, _ => False
        | _, _ => False
      | _, _ => False
    | none => False
  | _ => False
def fieldV (T : Tbl) (t : TypeId) (x : SV) (f : Nat) (K : SV → Prop) : Prop := match T.at t with
  | some ti => match ti.d with
    | .struct fs => match fieldOf fs.toList f with
      | some fl => match T.at fl.type with
        | some tf => match x with
          | .g cs => getAt cs (aggD tf.d) fl.offset tf.size K
          | _ => False
        | none => False
      | none => False
    | _ => False
  | none => False

/-- A bound of a slice expression: the term, or what stands for it where it is left out. -/
def bnd (x : Option SV) (dflt : Nat) (top : Nat) (C : Prop → Prop) (K : Nat → Prop) : Prop := match x with
  | none => K dflt
  | some (.i _ i) => C (0 ≤ i ∧ i ≤ (top : Int)) ∧ K i.toNat
  | some _ => False
def sliceV (T : Tbl) (h0 : List (Nat × Ck)) (t : TypeId) (x : SV) (lo hi : Option SV) (C : Prop → Prop) (K : SV → Prop) : Prop := match T.at t with
  | some ti => match ti.d, x with
    | .string, .s s => bnd hi s.size s.size C fun h => bnd lo 0 h C fun l => K (.s (s.extract l h))
    | .slice e, .sl A len cap => match T.at e with
      | some te => bnd hi len cap C fun h => bnd lo 0 h C fun l => match lo with
        | none => match hi with
          | none => K (.sl A len cap)
          | some _ => K (.sl A h cap)
        | some _ => K (.sl (if cap = l then A else A.map (·.add (l * te.size))) (h - l) (cap - l))
      | none => False
    | .slice e, .rw r len => match lo, T.at e with
      | none, some _ => match lookH h0 r with
        | some (.row _ _ k _) => C (len ≤ k) ∧ bnd hi len len C fun h => K (.rw r h)
        | _ => False
      | _, _ => False
    | _, _ => False
  | none => False

def convV (T : Tbl) (a b : TypeId) (x : SV) (K : SV → Prop) : Prop := match T.at a, T.at b with
  | some ta, some tb => match x with
    | .i _ n => match tb.d with
      | .int k => match ta.d with
        | .int _ => K (.i k (k.wrap n))
        | _ => False
      | _ => False
    | .s s => match tb.d, ta.d with
      | .string, .string => K (.s s)
      | _, _ => False
    | _ => False
  | _, _ => False

def foldK (f : SV → SV → (SV → Prop) → Prop) : SV → List SV → (SV → Prop) → Prop
  | a, [], K => K a
  | a, x :: r, K => f a x fun y => foldK f y r K
def minV (x y : SV) (K : SV → Prop) : Prop := match x, y with
  | .i .i64 a, .i .i64 b => K (.i .i64 (if b < a then b else a))
  | _, _ => False
def maxV (x y : SV) (K : SV → Prop) : Prop := match x, y with
  | .i .i64 a, .i .i64 b => K (.i .i64 (if a < b then b else a))
  | _, _ => False
/-- What a call of a built-in that looks at no more than its operands answers. -/
def builtinV (T : Tbl) (b : Builtin) (ts : List TypeId) (xs : List SV) (K : SV → Prop) : Prop := match b, ts, xs with
  | .len, [t], [x] => match T.at t with
    | some ti => match ti.d, x with
      | .string, .s s => K (.i .i64 (s.size : Int))
      | .slice _, .sl _ n _ => K (.i .i64 (n : Int))
      | .slice _, .rw _ n => K (.i .i64 (n : Int))
      | _, _ => False
    | none => False
  | .min, _, x :: r => foldK minV x r K
  | .max, _, x :: r => foldK maxV x r K
  | _, _, _ => False
end Go.Proofs.YtaeoibnbbpgajaaDoor.Sx
