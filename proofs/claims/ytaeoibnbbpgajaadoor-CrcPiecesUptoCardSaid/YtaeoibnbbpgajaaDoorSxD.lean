/- Symbolic execution, fourth text: regions and code. -/
import Derived.Test.YtaeoibnbbpgajaaDoorSxC
namespace Go.Proofs.YtaeoibnbbpgajaaDoor.Sx

/-- Behind a test that is decided: what hung on it is there for good, or is 'undef'. -/
def settleTag (j : Nat) (b : Bool) : Tag → Option Tag
  | [] => some []
  | (i, u) :: r => match Nat.beq i j with
    | true => match u, b with
      | true, true => settleTag j b r
      | false, false => settleTag j b r
      | _, _ => none
    | false => match settleTag j b r with
      | some r' => some ((i, u) :: r')
      | none => none
def settle (j : Nat) (b : Bool) : List Slot → (List Slot → Prop) → Prop
  | [], K => K []
  | ⟨k, tag, x⟩ :: r, K => settle j b r fun r' => match settleTag j b tag with
    | some tag' => K (⟨k, tag', x⟩ :: r')
    | none => K (⟨k, [], .v undef⟩ :: r')
def settleG (j : Nat) (b : Bool) : Gs → (Gs → Prop) → Prop
  | [], K => K []
  | (i, g, tag) :: r, K => settleG j b r fun r' => match settleTag j b tag with
    | some tag' => match Nat.beq i j with
      | true => K ((i, b, tag') :: r')
      | false => K ((i, g, tag') :: r')
    | none => match lookG r' i with
      | none => K r'
      | some _ => False
/-- Every test that a tag names is known. -/
def tagIn (gs : Gs) : Tag → Bool
  | [] => true
  | (j, _) :: r => (match lookG gs j with
    | some _ => true
    | none => false) && tagIn gs r
def tagsIn (gs : Gs) : List Slot → Bool
  | [] => true
  | s :: r => tagIn gs s.tag && tagsIn gs r
def tagsInG (gs : Gs) : Gs → Bool
  | [] => true
  | (_, _, tag) :: r => tagIn gs tag && tagsInG gs r

/-- The last of a tag: the outermost test. -/
def lastT : Tag → Option (Nat × Bool)
  | [] => none
  | [x] => some x
  | _ :: r => lastT r
def chk (t : List Slot) (gs : Gs) (K : Prop) : Prop := match tagsIn gs t && tagsInG gs gs with
  | true => K
  | false => False
/-- A loud operation under a tag: its tests are decided first, the outermost one first. -/
def splitG (ops : List Oper) (d : Option Nat) (go : St → Mem → Prop) (skip : St → Mem → Prop) : Nat → Tag → St → Mem → Prop
  | 0, _, _, _ => False
  | f + 1, tag, st, m => match lastT tag with
    | none => go st m
    | some (j, w) => match lookG st.gs j with
      | some (g, _) =>
        (g = true → settle j true st.t fun t => settleG j true st.gs fun gs => chk t gs <| match w with
          | true => match settleTag j true tag with
            | some tag' => match tagIn gs tag' with
              | true => withT st t gs fun st => splitG ops d go skip f tag' st m
              | false => False
            | none => False
          | false => withT st t gs fun st => putS ops st d [] (.v undef) fun st => skip st m) ∧
        (g = false → settle j false st.t fun t => settleG j false st.gs fun gs => chk t gs <| match w with
          | false => match settleTag j false tag with
            | some tag' => match tagIn gs tag' with
              | true => withT st t gs fun st => splitG ops d go skip f tag' st m
              | false => False
            | none => False
          | true => withT st t gs fun st => putS ops st d [] (.v undef) fun st => skip st m)
      | none => False

def addG (st : St) (j : Nat) (g : Bool) (tg : Tag) (K : St → Prop) : Prop := match lookG st.gs j with
  | some _ => K st
  | none => match tagsIn st.gs st.t && tagsInG st.gs st.gs with
    | true => match st with
      | ⟨sz, t, gs, h, nx⟩ => K ⟨sz, t, (j, g, tg) :: gs, h, nx⟩
    | false => False

/-- A run of operations, in the text's order. n: the number of the next one. -/
def runL (T : Tbl) (CP : CallP) (ops : List Oper) (KP : SV → St → Mem → Prop) (K : St → Mem → Prop) : List Oper → Nat → St → Mem → Prop
  | [], _, st, m => K st m
  | o :: rest, n, st, m =>
    match o.guard with
    | none => match o.op with
      | .pick c a b => pickV ops st [] c a b fun x => putS ops st o.dst [] x fun st => runL T CP ops KP K rest (n + 1) st m
      | op => match isQuiet op with
        | true => quietV T st m [] op fun x => putS ops st o.dst [] x fun st => runL T CP ops KP K rest (n + 1) st m
        | false => loudV T CP st m op (fun x st m => putS ops st o.dst [] x fun st => runL T CP ops KP K rest (n + 1) st m) KP
    | some (j, w) => match dstOf ops j with
      | none => False
      | some d => match look st.t d with
        | some (tg, .b g) =>
          addG st j g tg fun st => match o.op with
          | .pick c a b => pickV ops st ((j, w) :: tg) c a b fun x => putS ops st o.dst ((j, w) :: tg) x fun st => runL T CP ops KP K rest (n + 1) st m
          | op => match isQuiet op with
            | true => quietV T st m ((j, w) :: tg) op fun x => putS ops st o.dst ((j, w) :: tg) x fun st => runL T CP ops KP K rest (n + 1) st m
            | false => splitG ops o.dst (fun st m => loudV T CP st m op (fun x st m => putS ops st o.dst [] x fun st => runL T CP ops KP K rest (n + 1) st m) KP) (fun st m => runL T CP ops KP K rest (n + 1) st m) 9 ((j, w) :: tg) st m
        | _ => False

mutual
/-- Code, with what is to hold wherever it is left. -/
def exec (T : Tbl) (CP : CallP) (LP : Code → St → Mem → (Ex → St → Mem → Prop) → Prop) (DP : List Oper → St → Mem → (Ex → St → Mem → Prop) → Prop) (lv : List Nat) :
    Code → (Ex → St → Mem → Prop) → St → Mem → Prop
  | .skip, K, st, m => K .normal st m
  | .label _, K, st, m => K .normal st m
  | .exit id, K, st, m => K (.exit id) st m
  | .ret, K, st, m => K .ret st m
  | .seq a b, K, st, m => exec T CP LP DP lv a (fun e st m => match e with
    | .normal => exec T CP LP DP lv b K st m
    | .exit id => K (.exit id) st m
    | .ret => K .ret st m
    | .panic x => K (.panic x) st m) st m
  | .block id c, K, st, m => exec T CP LP DP lv c (fun e st m => match e with
    | .normal => K .normal st m
    | .exit i => match Nat.beq i id with
      | true => K .normal st m
      | false => K (.exit i) st m
    | .ret => K .ret st m
    | .panic x => K (.panic x) st m) st m
  | .cond c a b, K, st, m => argAt st.t [] c fun x => match x with
    | .b x => (x = true → exec T CP LP DP lv a K st m) ∧ (x = false → exec T CP LP DP lv b K st m)
    | _ => False
  | .region _ ops draw, K, st, m => match draw with
    | false => runL T CP ops.toList (fun x st m => withT st [] [] fun st => K (.panic x) st m) (fun st m => clean lv [] st.t fun t => withT st t [] fun st => K .normal st m) ops.toList 0 st m
    | true => DP ops.toList st m K
  | .loop c, K, st, m => LP c st m K
  | _, _, _, _ => False
end
end Go.Proofs.YtaeoibnbbpgajaaDoor.Sx
