/- Symbolic execution, third text: operations that make or write memory, calls, regions, code. -/
import Derived.Test.YtaeoibnbbpgajaaDoorSxB
namespace Go.Proofs.YtaeoibnbbpgajaaDoor.Sx

/-- How a piece of code is left. -/
inductive Ex where
  | normal
  | exit (id : Nat)
  | ret
  | panic (x : SV)

/-- A call's end: a value, or a panic with a value. -/
inductive Out where
  | ret (x : SV)
  | pan (x : SV)

abbrev Heap := List (Nat × Ck)

def setHK : Heap → Nat → Ck → (Heap → Prop) → Prop
  | [], _, _, _ => False
  | (n, c) :: r, k, c', K => match Nat.beq n k with
    | true => K ((n, c') :: r)
    | false => setHK r k c' fun r' => K ((n, c) :: r')
def delHK : Heap → Nat → (Heap → Prop) → Prop
  | [], _, K => K []
  | (n, c) :: r, k, K => match Nat.beq n k with
    | true => delHK r k K
    | false => delHK r k fun r' => K ((n, c) :: r')

def okSt (st : St) : Bool := okT st.nx st.t && okH st.nx st.h

def withH (st : St) (h : Heap) (K : St → Prop) : Prop := match st with
  | ⟨sz, t, gs, _, nx⟩ => K ⟨sz, t, gs, h, nx⟩
def withT (st : St) (t : List Slot) (gs : Gs) (K : St → Prop) : Prop := match st with
  | ⟨sz, _, _, h, nx⟩ => K ⟨sz, t, gs, h, nx⟩
/-- A new block, known whole. -/
def newSt (st : St) (e : TypeId) (cs : List SV) (K : SV → St → Prop) : Prop :=
  match okSt st && oks st.nx cs with
  | true => (match st with | ⟨sz, t, gs, h, nx⟩ => forceN (nx + 1) fun nx1 => K (.p nx 0) ⟨sz, t, gs, (nx, .st e cs) :: h, nx1⟩)
  | false => False
/-- A new row. -/
def newRow (st : St) (e : TypeId) (z n : Nat) (xs : List Value) (K : SV → St → Prop) : Prop :=
  match okSt st with
  | true => (match st with | ⟨sz, t, gs, h, nx⟩ => forceN (nx + 1) fun nx1 => K (.rw nx n) ⟨sz, t, gs, (nx, .row e z n xs) :: h, nx1⟩)
  | false => False
/-- A row in another's place. -/
def moveRow (st : St) (r : Nat) (e : TypeId) (z n : Nat) (xs : List Value) (K : SV → St → Prop) : Prop :=
  match okSt st with
  | true => delHK st.h r fun h => (match st with | ⟨sz, t, gs, _, nx⟩ => forceN (nx + 1) fun nx1 => K (.rw nx n) ⟨sz, t, gs, (nx, .row e z n xs) :: h, nx1⟩)
  | false => False

def storeE (T : Tbl) (st : St) (t : TypeId) (a x : SV) (K : St → Prop) : Prop := match T.at t with
  | none => False
  | some ti => match a with
    | .p n o => match lookH st.h n with
      | some (.st e cs) => match Nat.blt 0 ti.size, fitsB (aggD ti.d) x with
        | true, true => parts x fun new => putAt cs o ti.size new fun cs' => setHK st.h n (.st e cs') fun h => withH st h K
        | _, _ => False
      | some (.row e z k xs) => match cl x && Nat.blt 0 ti.size, fitsB (aggD ti.d) x with
        | true, true => (o + ti.size ≤ xs.length ∧ (cellsV x).length = ti.size) ∧ setHK st.h n (.row e z k (xs.take o ++ (cellsV x ++ xs.drop (o + ti.size)))) fun h => withH st h K
        | _, _ => False
      | none => False
    | .pj n o j => match lookH st.h n, x with
      | some (.st e cs), .i kd v => match ti.d, ti.size with
        | .int _, 1 => partAt cs o fun y => match y with
          | .gi k kd' f => match sameKind kd kd' with
            | true => (j < k) ∧ putAt cs o k [.gi k kd' fun i => if i = j then v else f i] fun cs' => setHK st.h n (.st e cs') fun h => withH st h K
            | false => False
          | _ => False
        | _, _ => False
      | _, _ => False
    | _ => False

def repl (n : Nat) (zs : List Value) : List Value := (List.replicate n zs).flatten

def makeE (T : Tbl) (st : St) (t : TypeId) (l c : SV) (K : SV → St → Prop) : Prop := match T.at t, l, c with
  | some ti, .i .i64 a, .i .i64 b => match ti.d with
    | .slice e => match T.at e with
      | some te => match fitsB (aggD te.d) te.z with
        | true => (0 ≤ a ∧ a ≤ b ∧ b * te.bytes ≤ 140737488355328 ∧ b ≤ 140737488355328) ∧ newRow st e te.size a.toNat (repl a.toNat (cellsV te.z)) K
        | false => False
      | none => False
    | _ => False
  | _, _, _ => False

def buildSliceE (T : Tbl) (st : St) (t : TypeId) (n : Nat) (ps : List (Nat × SV)) (K : SV → St → Prop) : Prop := match T.at t with
  | some ti => match ti.d with
    | .slice e => match T.at e with
      | some te => match fitsB (aggD te.d) te.z with
        | true => parts te.z fun zs => repK n zs [] fun zz => fillA te.size ps zz fun cs => match cls cs && plains cs, Nat.ble (n * te.size) 16777216 && Nat.ble n 16777216 with
          | true, true => newRow st e te.size n (dens η0 cs) K
          | _, _ => False
        | false => False
      | none => False
    | _ => False
  | none => False
where
  repK : Nat → List SV → List SV → (List SV → Prop) → Prop
    | 0, _, acc, K => K acc
    | n + 1, zs, acc, K => appK zs acc fun acc' => repK n zs acc' K

/-- What the source of an append or a copy holds: n elements of z cells. -/
def srcV (h : Heap) (m : Mem) (e : TypeId) (z : Nat) (x : SV) (K : Nat → List Value → Prop) : Prop := match x with
  | .rw r n => match lookH h r with
    | some (.row e' z' k xs) => match Nat.beq z z' && Nat.beq e e' with
      | true => (n ≤ k) ∧ K n (xs.take (n * z))
      | false => False
    | _ => False
  | .sl A n _ => ∃ vs : List Value, (vs.length = n * z ∧ (∀ u ∈ vs, u.oneCell' = true) ∧ (0 < n → rdM m A 0 (n * z) vs)) ∧ K n vs
  | .s s => match Nat.beq z 1 with
    | true => K s.size (s.data.toList.map fun b => .int .u8 (b.toNat : Int))
    | false => False
  | _ => False

def appendE (T : Tbl) (st : St) (m : Mem) (t : TypeId) (s x : SV) (K : SV → St → Prop) : Prop := match T.at t with
  | some ti => match ti.d with
    | .slice e => match T.at e with
      | some te => srcV st.h m e te.size x fun n vs => match s with
        | .rw r len => match lookH st.h r with
          | some (.row e' z k xs) => match Nat.beq z te.size && Nat.beq e e' with
            | true => (len ≤ k ∧ (len + n) * te.bytes ≤ 140737488355328 ∧ len + n ≤ 140737488355328) ∧ moveRow st r e te.size (len + n) (xs.take (len * te.size) ++ vs) K
            | false => False
          | _ => False
        | .sl _ len cap => (len = 0 ∧ cap = 0 ∧ n * te.bytes ≤ 140737488355328 ∧ n ≤ 140737488355328) ∧ newRow st e te.size n vs K
        | _ => False
      | none => False
    | _ => False
  | none => False

/-! ### slots -/
def dstOf : List Oper → Nat → Option Nat
  | [], _ => none
  | o :: _, 0 => o.dst
  | _ :: r, n + 1 => dstOf r n
/-- No test that others look at lies in this slot. -/
def gsFree (ops : List Oper) (d : Nat) : Gs → Bool
  | [] => true
  | (j, _) :: r => (match dstOf ops j with
    | some k => !(Nat.beq k d)
    | none => false) && gsFree ops d r
def putS (ops : List Oper) (st : St) (d : Option Nat) (tag : Tag) (x : SV) (K : St → Prop) : Prop := match d with
  | none => K st
  | some d => match Nat.blt d st.sz && gsFree ops d st.gs with
    | true => (match st with | ⟨sz, t, gs, h, nx⟩ => K ⟨sz, ⟨d, tag, x⟩ :: t, gs, h, nx⟩)
    | false => False

def memN (k : Nat) : List Nat → Bool
  | [] => false
  | n :: r => match Nat.beq n k with
    | true => true
    | false => memN k r
/-- Behind a region: what is read later stays, each slot once. -/
def clean (lv : List Nat) : List Nat → List Slot → (List Slot → Prop) → Prop
  | _, [], K => K []
  | seen, s :: r, K => match memN s.k seen with
    | true => clean lv seen r K
    | false => match memN s.k lv, s.tag with
      | true, [] => clean lv (s.k :: seen) r fun l => K (s :: l)
      | _, _ => clean lv (s.k :: seen) r K

/-! ### rows that stay from now on -/
/-- What is known of a row that stays from now on: the memory that stays is more than before, and holds the row's cells. -/
structure Sealed (m m' : Mem) (A : Option Addr) (cap n z : Nat) (xs : List Value) : Prop where
  ext : ∀ b o, m b = some o → m' b = some o
  len : xs.length = n * z
  one : ∀ u ∈ xs, u.oneCell' = true
  le : n ≤ cap
  rd : 0 < n → rdM m' A 0 (n * z) xs

mutual
/-- A row's name is replaced by where it lies. -/
def sbV (r : Nat) (A : Option Addr) (cap : Nat) : SV → (SV → Prop) → Prop
  | .rw n l, K => match Nat.beq n r with
    | true => K (.sl A l cap)
    | false => K (.rw n l)
  | .p n o, K => match Nat.beq n r with
    | true => K (.el A o)
    | false => K (.p n o)
  | .pj n o j, K => match Nat.beq n r with
    | true => False
    | false => K (.pj n o j)
  | .g cs, K => sbVs r A cap cs fun cs => K (.g cs)
  | .t cs, K => sbVs r A cap cs fun cs => K (.t cs)
  | .e ty x, K => sbV r A cap x fun x => K (.e ty x)
  | .fn f a c, K => sbVs r A cap a fun a => sbVs r A cap c fun c => K (.fn f a c)
  | .b x, K => K (.b x)
  | .i k n, K => K (.i k n)
  | .s x, K => K (.s x)
  | .el B o, K => K (.el B o)
  | .np, K => K .np
  | .sl B l c, K => K (.sl B l c)
  | .gi n k f, K => K (.gi n k f)
  | .ne, K => K .ne
  | .v x, K => K (.v x)
def sbVs (r : Nat) (A : Option Addr) (cap : Nat) : List SV → (List SV → Prop) → Prop
  | [], K => K []
  | x :: l, K => sbV r A cap x fun x => sbVs r A cap l fun l => K (x :: l)
end
def sbT (r : Nat) (A : Option Addr) (cap : Nat) : List Slot → (List Slot → Prop) → Prop
  | [], K => K []
  | ⟨k, tag, x⟩ :: l, K => sbV r A cap x fun x => sbT r A cap l fun l => K (⟨k, tag, x⟩ :: l)
def sbH (r : Nat) (A : Option Addr) (cap : Nat) : Heap → (Heap → Prop) → Prop
  | [], K => K []
  | (n, .st e cs) :: l, K => sbVs r A cap cs fun cs => sbH r A cap l fun l => K ((n, .st e cs) :: l)
  | (n, .row e z k xs) :: l, K => sbH r A cap l fun l => K ((n, .row e z k xs) :: l)
def sbP (r : Nat) (A : Option Addr) (cap : Nat) : List (Nat × SV) → (List (Nat × SV) → Prop) → Prop
  | [], K => K []
  | (n, x) :: l, K => sbV r A cap x fun x => sbP r A cap l fun l => K ((n, x) :: l)
/-- An own row stays from now on. -/
def sealE (st : St) (m : Mem) (r : Nat) (K : Option Addr → Nat → St → Mem → Prop) : Prop := match lookH st.h r with
  | some (.row _ z n xs) => ∀ (A : Option Addr) (cap : Nat) (m' : Mem), Sealed m m' A cap n z xs → delHK st.h r fun h => sbH r A cap h fun h => sbT r A cap st.t fun t => (match st with | ⟨sz, _, gs, _, nx⟩ => K A cap ⟨sz, t, gs, h, nx⟩ m')
  | _ => False
mutual
/-- The first row's name in a value. -/
def frw : SV → Option Nat
  | .rw n _ => some n
  | .g cs => frws cs
  | .t cs => frws cs
  | .e _ x => frw x
  | .fn _ a c => match frws a with
    | some n => some n
    | none => frws c
  | _ => none
def frws : List SV → Option Nat
  | [] => none
  | x :: r => match frw x with
    | some n => some n
    | none => frws r
end
def frwP : List (Nat × SV) → Option Nat
  | [] => none
  | (_, x) :: r => match frw x with
    | some n => some n
    | none => frwP r
/-- Every row that is named in these values stays from now on. -/
def sealPs : Nat → St → Mem → List (Nat × SV) → (List (Nat × SV) → St → Mem → Prop) → Prop
  | 0, st, m, l, K => K l st m
  | f + 1, st, m, l, K => match frwP l with
    | none => K l st m
    | some r => sealE st m r fun A cap st m => sbP r A cap l fun l => sealPs f st m l K
def sealXs : Nat → St → Mem → List SV → (List SV → St → Mem → Prop) → Prop
  | 0, st, m, l, K => K l st m
  | f + 1, st, m, l, K => match frws l with
    | none => K l st m
    | some r => sealE st m r fun A cap st m => sbVs r A cap l fun l => sealXs f st m l K
/-- What is stored into a row. -/
def sealIn (st : St) (m : Mem) (a x : SV) (K : SV → St → Mem → Prop) : Prop := match a with
  | .p n _ => match lookH st.h n with
    | some (.row ..) => sealXs 9 st m [x] fun l st m => match l with
      | [x] => K x st m
      | _ => False
    | _ => K x st m
  | _ => K x st m
/-- A constant's bytes: a row that is not written any more. -/
def bytesE (T : Tbl) (st : St) (m : Mem) (a b : TypeId) (x : SV) (K : SV → St → Mem → Prop) : Prop := match x with
  | .rw r l => match T.at a, Nat.beq a b with
    | some ta, true => match ta.d with
      | .slice e => match T.at e with
        | some te => match te.d with
          | .int .u8 => match lookH st.h r with
            | some (.row _ _ n _) => (0 < n) ∧ sealE st m r fun A cap st m => K (.sl A l cap) st m
            | _ => False
          | _ => False
        | none => False
      | _ => False
    | _, _ => False
  | _ => convV T a b x fun x => K x st m

/-! ### calls: where the evaluator stands still -/
/-- What is to be shown at a call of a function of the program. (Stated in the fifth text, by what the call does.) -/
abbrev CallP := FuncId → List SV → St → Mem → (Out → St → Mem → Prop) → Prop

/-! ### one operation -/
def bytesL (s : ByteArray) : List Value := s.data.toList.map fun b => .int .u8 (b.toNat : Int)
/-- Bytes as a text, or another conversion. -/
def textV (T : Tbl) (h : Heap) (m : Mem) (C : Prop → Prop) (a b : TypeId) (x : SV) (K : SV → Prop) : Prop := match T.at a, T.at b with
  | some ta, some tb => match ta.d, tb.d, x with
    | .slice e, .string, .sl A n _ => match T.at e with
      | some te => match te.d with
        | .int .u8 => ∃ s : ByteArray, C (s.size = n ∧ (0 < n → rdM m A 0 n (bytesL s))) ∧ K (.s s)
        | _ => False
      | none => False
    | .slice e, .string, .rw r n => match T.at e with
      | some te => match te.d with
        | .int .u8 => match lookH h r with
          | some (.row _ z k xs) => match Nat.beq z 1 with
            | true => ∃ s : ByteArray, C (n ≤ k ∧ xs.take n = bytesL s) ∧ K (.s s)
            | false => False
          | _ => False
        | _ => False
      | none => False
    | _, _, x => convV T a b x K
  | _, _ => False
def optArg (t : List Slot) (tag : Tag) (x : Option Operand) (K : Option SV → Prop) : Prop := match x with
  | none => K none
  | some x => argAt t tag x fun v => K (some v)

/-- What looks at no more than memory. -/
def quietV (T : Tbl) (st : St) (m : Mem) (tag : Tag) (o : Op) (K : SV → Prop) : Prop :=
  let C := gc st.gs tag
  match o with
  | .move x => argAt st.t tag x K
  | .assign x => argAt st.t tag x K
  | .binOp op tx x y _ => argAt st.t tag x fun a => argAt st.t tag y fun b => binV T st.h tx op a b C K
  | .unOp op _ x => argAt st.t tag x fun a => unOpV op a K
  | .convert a b x => argAt st.t tag x fun v => textV T st.h m C a b v K
  | .load t x => argAt st.t tag x fun v => loadV T st.h m C t v K
  | .nilCheck x => argAt st.t tag x fun v => match v with
    | .p n o => live st.h C n (K (.p n o))
    | .el A o => C (A.isSome = true) ∧ K (.el A o)
    | _ => False
  | .fieldAddr t x f => argAt st.t tag x fun v => fieldAddrV T st.h C t v f K
  | .field t x f => argAt st.t tag x fun v => fieldV T t v f K
  | .indexAddr t x i => argAt st.t tag x fun v => argAt st.t tag i fun w => indexAddrV T st.h t v w C K
  | .index t x i => argAt st.t tag x fun v => argAt st.t tag i fun w => indexV T t v w C K
  | .slice t x lo hi none => argAt st.t tag x fun v => optArg st.t tag lo fun l => optArg st.t tag hi fun h => sliceV T st.h t v l h C K
  | .extract x n => argAt st.t tag x fun v => match v with
    | .t vs => nth vs n K
    | _ => False
  | .build t ps => pairs st.t tag ps.toList fun l => match T.at t with
    | some ti => match ti.d, ti.z with
      | .struct fs, .g zs => match fieldsOk T fs.toList with
        | true => fill T fs.toList l zs fun cs => K (.g cs)
        | false => False
      | .array _ e, .g zs => match T.at e with
        | some te => fillA te.size l zs fun cs => K (.g cs)
        | none => False
      | _, _ => False
    | none => False
  | .makeInterface t x => argAt st.t tag x fun v => match T.at t with
    | some ti => match ti.d with
      | .interface _ => False
      | _ => K (.e t v)
    | none => False
  | .makeFunc (.func f) a c => argsAt st.t tag a.toList fun as => argsAt st.t tag c.toList fun cs => K (.fn f as cs)
  | .call c => match c.callee with
    | .builtin b => argsAt st.t tag c.args.toList fun xs => builtinV T b c.argTypes.toList xs K
    | _ => False
  | _ => False

/-- Whether an operation is one of those. -/
def isQuiet : Op → Bool
  | .move _ => true
  | .assign _ => true
  | .binOp .. => true
  | .unOp .. => true
  | .convert a b _ => match Nat.beq a b with
    | true => false
    | false => true
  | .load .. => true
  | .nilCheck _ => true
  | .fieldAddr .. => true
  | .field .. => true
  | .indexAddr .. => true
  | .index .. => true
  | .slice _ _ lo _ _ => match lo with
    | none => true
    | some _ => false
  | .extract .. => true
  | .build .. => true
  | .makeInterface .. => true
  | .makeFunc .. => true
  | .call c => match c.callee with
    | .builtin b => match b with
      | .len => true
      | .min => true
      | .max => true
      | _ => false
    | _ => false
  | _ => false

/-- What makes or writes memory, or calls. -/
def loudV (T : Tbl) (CP : CallP) (st : St) (m : Mem) (o : Op) (K : SV → St → Mem → Prop) (KP : SV → St → Mem → Prop) : Prop := match o with
  | .alloc t => match T.at t with
    | some ti => match fitsB (aggD ti.d) ti.z with
      | true => parts ti.z fun cs => newSt st t cs fun x st => K x st m
      | false => False
    | none => False
  | .box t x => argAt st.t [] x fun v => match T.at t with
    | some ti => match fitsB (aggD ti.d) v with
      | true => parts v fun cs => newSt st t cs fun x st => K x st m
      | false => False
    | none => False
  | .store t a x => argAt st.t [] a fun a => argAt st.t [] x fun v => sealIn st m a v fun v st m => storeE T st t a v fun st => K (.v undef) st m
  | .convert a b x => argAt st.t [] x fun v => bytesE T st m a b v K
  | .slice t x lo hi none => argAt st.t [] x fun v => optArg st.t [] lo fun l => optArg st.t [] hi fun h => sealXs 9 st m [v] fun vs st m => match vs with
    | [v] => sliceV T st.h t v l h (fun c => c) fun x => K x st m
    | _ => False
  | .makeSlice t l c => argAt st.t [] l fun l => argAt st.t [] c fun c => makeE T st t l c fun x st => K x st m
  | .buildSlice t n ps => pairs st.t [] ps.toList fun l => sealPs 9 st m l fun l st m => buildSliceE T st t n l fun x st => K x st m
  | .call c => match c.callee with
    | .builtin .append => argsAt st.t [] c.args.toList fun xs => match c.argTypes.toList, xs with
      | [t, u], [s, x] => match T.at u with
        | some tu => match tu.d with
          | .slice _ => appendE T st m t s x fun x st => K x st m
          | .string => appendE T st m t s x fun x st => K x st m
          | _ => False
        | none => False
      | _, _ => False
    | .value f => argAt st.t [] f fun f => argsAt st.t [] c.args.toList fun xs => match f with
      | .fn f first caught => appK first xs fun xs => appK xs caught fun xs => CP f xs st m fun o st m => match o with
        | .ret x => force x fun x => K x st m
        | .pan x => KP x st m
      | _ => False
    | _ => False
  | _ => False

/-- Whether a tag holds where 'tag' does, and the test in slot kc came out as w. -/
def sideOk (ops : List Oper) (gs : Gs) (tag : Tag) (kc : Nat) (w : Bool) : Tag → Bool
  | [] => true
  | (j, u) :: r => (memT j u tag || ((u == w) && (match dstOf ops j, lookG gs j with
    | some d, some _ => Nat.beq d kc
    | _, _ => false))) && sideOk ops gs tag kc w r
def sideV (ops : List Oper) (st : St) (tag : Tag) (kc : Nat) (w : Bool) (x : Operand) (K : SV → Prop) : Prop := match x with
  | .tmp k => match look st.t k with
    | some (tg, x) => match sideOk ops st.gs tag kc w tg with
      | true => K x
      | false => False
    | none => False
  | .const v => force (ofV v) K
  | _ => False
/-- The pick of a guarded test. -/
def pickV (ops : List Oper) (st : St) (tag : Tag) (c a b : Operand) (K : SV → Prop) : Prop := match c with
  | .tmp kc => match look st.t kc with
    | some (tgc, x) => match subT tgc tag, x with
      | true, .b g => sideV ops st tag kc true a fun x => sideV ops st tag kc false b fun y => match x, y with
        | .b x, .b y => K (.b (if g then x else y))
        | _, _ => False
      | _, _ => False
    | none => False
  | _ => False
end Go.Proofs.YtaeoibnbbpgajaaDoor.Sx
