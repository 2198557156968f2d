/-
  NARROWER THAN 'FOR EVERY INPUT', by the rows' own cells (each row's printed sentence says how): CrcAdds: laid · CrcTells: laid · CrcMixes: laid · CrcApart: laid · CrcParts: laid · CrcPieces: laid · CrcKeeps: laid.
  DERIVED. THE GIVEN ROWS OF THIS SEAT. 7 by the template 'for every input the law returns true; each argument reads behind the call as it read before'; 0 by the template 'total and deterministic' (their statements: YtaeoibnbbpgajaaDoorTotals.lean).
  GIVEN WITH THE SEED: the statements are not yours to turn. If you find one false, say at which input.
  Laid BY PROGRAM, IN A SANDBOX (cutbox-rows.mjs): the forced cells as the released guide's own fill.sh prints them over the translation 7a1c2463e707d776… (all of the seat's roots in one cut). By AI agents, Wed Nov 11 2026. No macro, syntax, notation, axiom, sorry.
-/
import Derived.Test.YtaeoibnbbpgajaaDoorChecked
import GoSem.Claim
import GoSem.ClaimJoined
import GoSem.ClaimMapViews
import Derived.JoinedTies
import Derived.KernelRfl
namespace Go.Proofs.YtaeoibnbbpgajaaDoor
/- THE CELL 'sum', in the pinned program and in every row, IS THE sha256 OF THE DUMP (.gsa) THAT YtaeoibnbbpgajaaDoorProg.lean LOADS. Nothing in Lean hashes anything: it is a label: what it is worth is what the hold of that sum in a sandbox is worth. -/
noncomputable def Tryd.pinned : Pinned := { name := "ytaeoibnbbpgajaadoor", sum := "7a1c2463e707d776f44ca5498359affc05405318920384db80a1f5bffb57ebb8", checked := Tryd.checked }
namespace Rows
def none {H : Type} : Left H := { results := [], args := [] }

/- WHAT THE LISTED PACKAGE-LEVEL VARIABLES READ AS WHEN THE CALL BEGINS. Each datum BY PROGRAM (the guide's laid-datum.mjs) off the statement by which the dump's own 'gosem.cut.vars' lays the variable. In a bare row this is a premise. The card (YtaeoibnbbpgajaaDoorCards.lean) ties it to the program's text. -/
def laid_quern_crc_half {H : Type} : DataW H := .agg [.lit (.int .u32 0), .lit (.int .u32 498536548), .lit (.int .u32 997073096), .lit (.int .u32 651767980), .lit (.int .u32 1994146192), .lit (.int .u32 1802195444), .lit (.int .u32 1303535960), .lit (.int .u32 1342533948), .lit (.int .u32 3988292384), .lit (.int .u32 4027552580), .lit (.int .u32 3604390888), .lit (.int .u32 3412177804), .lit (.int .u32 2607071920), .lit (.int .u32 2262029012), .lit (.int .u32 2685067896), .lit (.int .u32 3183342108)]

/-- 'quernlaw02.CrcAdds': WHATEVER THE INPUT: true; the input reads as it did. -/
def crcAddsSpec : ChangeSpec := { name := "crcAdds", fn := fun _ => fun
  | [d1, d2] => { results := [.lit (.bool true)], args := [d1, d2] }
  | _ => none }
def crcAddsRow : OpenClaim := { program := "ytaeoibnbbpgajaadoor", sum := "7a1c2463e707d776f44ca5498359affc05405318920384db80a1f5bffb57ebb8", func := "quern/quernlaw02.CrcAdds", spec := "crcAdds", named := ["quern/crc.half"], apart := false, laid := [("quern/crc.half", laid_quern_crc_half)] }
def CrcAddsSaid : Prop := crcAddsRow.holds Tryd.pinned (OpenSpec.ofChange crcAddsSpec)

/-- ITS FALSE NEIGHBOUR: 'it returns false'. Refute it at one input. -/
def crcAddsWrong : ChangeSpec := { name := "crcAdds", fn := fun _ => fun
  | [d1, d2] => { results := [.lit (.bool false)], args := [d1, d2] }
  | _ => none }
def CrcAddsWrongFalsely : Prop := crcAddsRow.holds Tryd.pinned (OpenSpec.ofChange crcAddsWrong)

/-- 'quernlaw02.CrcTells': WHATEVER THE INPUT: true; the input reads as it did. -/
def crcTellsSpec : ChangeSpec := { name := "crcTells", fn := fun _ => fun
  | [d1, d2, d3] => { results := [.lit (.bool true)], args := [d1, d2, d3] }
  | _ => none }
def crcTellsRow : OpenClaim := { program := "ytaeoibnbbpgajaadoor", sum := "7a1c2463e707d776f44ca5498359affc05405318920384db80a1f5bffb57ebb8", func := "quern/quernlaw02.CrcTells", spec := "crcTells", named := ["quern/crc.half"], apart := false, laid := [("quern/crc.half", laid_quern_crc_half)] }
def CrcTellsSaid : Prop := crcTellsRow.holds Tryd.pinned (OpenSpec.ofChange crcTellsSpec)

/-- ITS FALSE NEIGHBOUR: 'it returns false'. Refute it at one input. -/
def crcTellsWrong : ChangeSpec := { name := "crcTells", fn := fun _ => fun
  | [d1, d2, d3] => { results := [.lit (.bool false)], args := [d1, d2, d3] }
  | _ => none }
def CrcTellsWrongFalsely : Prop := crcTellsRow.holds Tryd.pinned (OpenSpec.ofChange crcTellsWrong)

/-- 'quernlaw02.CrcMixes': WHATEVER THE INPUT: true; the input reads as it did. -/
def crcMixesSpec : ChangeSpec := { name := "crcMixes", fn := fun _ => fun
  | [d1, d2, d3] => { results := [.lit (.bool true)], args := [d1, d2, d3] }
  | _ => none }
def crcMixesRow : OpenClaim := { program := "ytaeoibnbbpgajaadoor", sum := "7a1c2463e707d776f44ca5498359affc05405318920384db80a1f5bffb57ebb8", func := "quern/quernlaw02.CrcMixes", spec := "crcMixes", named := ["quern/crc.half"], apart := false, laid := [("quern/crc.half", laid_quern_crc_half)] }
def CrcMixesSaid : Prop := crcMixesRow.holds Tryd.pinned (OpenSpec.ofChange crcMixesSpec)

/-- ITS FALSE NEIGHBOUR: 'it returns false'. Refute it at one input. -/
def crcMixesWrong : ChangeSpec := { name := "crcMixes", fn := fun _ => fun
  | [d1, d2, d3] => { results := [.lit (.bool false)], args := [d1, d2, d3] }
  | _ => none }
def CrcMixesWrongFalsely : Prop := crcMixesRow.holds Tryd.pinned (OpenSpec.ofChange crcMixesWrong)

/-- 'quernlaw02.CrcApart': WHATEVER THE INPUT: true; the input reads as it did. -/
def crcApartSpec : ChangeSpec := { name := "crcApart", fn := fun _ => fun
  | [d1, d2, d3] => { results := [.lit (.bool true)], args := [d1, d2, d3] }
  | _ => none }
def crcApartRow : OpenClaim := { program := "ytaeoibnbbpgajaadoor", sum := "7a1c2463e707d776f44ca5498359affc05405318920384db80a1f5bffb57ebb8", func := "quern/quernlaw02.CrcApart", spec := "crcApart", named := ["quern/crc.half"], apart := false, laid := [("quern/crc.half", laid_quern_crc_half)] }
def CrcApartSaid : Prop := crcApartRow.holds Tryd.pinned (OpenSpec.ofChange crcApartSpec)

/-- ITS FALSE NEIGHBOUR: 'it returns false'. Refute it at one input. -/
def crcApartWrong : ChangeSpec := { name := "crcApart", fn := fun _ => fun
  | [d1, d2, d3] => { results := [.lit (.bool false)], args := [d1, d2, d3] }
  | _ => none }
def CrcApartWrongFalsely : Prop := crcApartRow.holds Tryd.pinned (OpenSpec.ofChange crcApartWrong)

/-- 'quernlaw02.CrcParts': WHATEVER THE INPUT: true; the input reads as it did. -/
def crcPartsSpec : ChangeSpec := { name := "crcParts", fn := fun _ => fun
  | [d] => { results := [.lit (.bool true)], args := [d] }
  | _ => none }
def crcPartsRow : OpenClaim := { program := "ytaeoibnbbpgajaadoor", sum := "7a1c2463e707d776f44ca5498359affc05405318920384db80a1f5bffb57ebb8", func := "quern/quernlaw02.CrcParts", spec := "crcParts", named := ["quern/crc.half"], apart := false, laid := [("quern/crc.half", laid_quern_crc_half)] }
def CrcPartsSaid : Prop := crcPartsRow.holds Tryd.pinned (OpenSpec.ofChange crcPartsSpec)

/-- ITS FALSE NEIGHBOUR: 'it returns false'. Refute it at one input. -/
def crcPartsWrong : ChangeSpec := { name := "crcParts", fn := fun _ => fun
  | [d] => { results := [.lit (.bool false)], args := [d] }
  | _ => none }
def CrcPartsWrongFalsely : Prop := crcPartsRow.holds Tryd.pinned (OpenSpec.ofChange crcPartsWrong)

/-- 'quernlaw02.CrcPieces': WHATEVER THE INPUT: true; the input reads as it did. -/
def crcPiecesSpec : ChangeSpec := { name := "crcPieces", fn := fun _ => fun
  | [d1, d2] => { results := [.lit (.bool true)], args := [d1, d2] }
  | _ => none }
def crcPiecesRow : OpenClaim := { program := "ytaeoibnbbpgajaadoor", sum := "7a1c2463e707d776f44ca5498359affc05405318920384db80a1f5bffb57ebb8", func := "quern/quernlaw02.CrcPieces", spec := "crcPieces", named := ["quern/crc.half"], apart := false, laid := [("quern/crc.half", laid_quern_crc_half)] }
def CrcPiecesSaid : Prop := crcPiecesRow.holds Tryd.pinned (OpenSpec.ofChange crcPiecesSpec)

/-- ITS FALSE NEIGHBOUR: 'it returns false'. Refute it at one input. -/
def crcPiecesWrong : ChangeSpec := { name := "crcPieces", fn := fun _ => fun
  | [d1, d2] => { results := [.lit (.bool false)], args := [d1, d2] }
  | _ => none }
def CrcPiecesWrongFalsely : Prop := crcPiecesRow.holds Tryd.pinned (OpenSpec.ofChange crcPiecesWrong)

/-- 'quernlaw02.CrcKeeps': WHATEVER THE INPUT: true; the input reads as it did. -/
def crcKeepsSpec : ChangeSpec := { name := "crcKeeps", fn := fun _ => fun
  | [d1, d2] => { results := [.lit (.bool true)], args := [d1, d2] }
  | _ => none }
def crcKeepsRow : OpenClaim := { program := "ytaeoibnbbpgajaadoor", sum := "7a1c2463e707d776f44ca5498359affc05405318920384db80a1f5bffb57ebb8", func := "quern/quernlaw02.CrcKeeps", spec := "crcKeeps", named := ["quern/crc.half"], apart := false, laid := [("quern/crc.half", laid_quern_crc_half)] }
def CrcKeepsSaid : Prop := crcKeepsRow.holds Tryd.pinned (OpenSpec.ofChange crcKeepsSpec)

/-- ITS FALSE NEIGHBOUR: 'it returns false'. Refute it at one input. -/
def crcKeepsWrong : ChangeSpec := { name := "crcKeeps", fn := fun _ => fun
  | [d1, d2] => { results := [.lit (.bool false)], args := [d1, d2] }
  | _ => none }
def CrcKeepsWrongFalsely : Prop := crcKeepsRow.holds Tryd.pinned (OpenSpec.ofChange crcKeepsWrong)

/- THE SECOND FORM. 'bulk': how many values and letters a reading holds, each counted each time it is reached (what is shared counts as often as it is met; a slice's spare places count too). A statement '..UptoSaid' is the law's where the arguments, and the package variables that the reading takes, are together of bulk at most 1048576: NARROWER than '..Said'. Prove '..Said' where nothing that the law and all that it calls make is longer than what came in: it says more and counts as full. Else prove '..UptoSaid'. A law counts once. -/
mutual
def uptoBulk {H : Type} : DataW H → Nat
  | .lit (.string bytes) => bytes.length + 1
  | .lit _ => 1
  | .nil => 1
  | .ptr d => uptoBulk d + 1
  | .slice elems spare => uptoBulkAll elems + uptoBulkAll spare + 1
  | .agg parts => uptoBulkAll parts + 1
  | .iface _ d => uptoBulk d + 1
  | .map entries => uptoBulkEntries entries + 1
  | .held _ => 1
def uptoBulkAll {H : Type} : List (DataW H) → Nat
  | [] => 0
  | d :: r => uptoBulk d + uptoBulkAll r
def uptoBulkEntries {H : Type} : List (Lit × DataW H) → Nat
  | [] => 0
  | x :: r => uptoBulkEntry x + uptoBulkEntries r
def uptoBulkEntry {H : Type} : Lit × DataW H → Nat
  | (.string bytes, d) => bytes.length + uptoBulk d + 1
  | (_, d) => uptoBulk d + 1
 end
def uptoSmall : (H : Type) → List (DataW H) → Bool := fun _ ds => decide (uptoBulkAll ds ≤ 1048576)
def OpenSpec.upto (s : _root_.Go.ChangeSpec) : _root_.Go.OpenSpec := { _root_.Go.OpenSpec.ofChange s with cond := some uptoSmall }

/-- 'quernlaw02.CrcAdds', WHERE WHAT IT READS IS OF BULK AT MOST 1048576: true; the input reads as it did. -/
def crcAddsUptoRow : OpenClaim := { program := "ytaeoibnbbpgajaadoor", sum := "7a1c2463e707d776f44ca5498359affc05405318920384db80a1f5bffb57ebb8", func := "quern/quernlaw02.CrcAdds", spec := "crcAdds", named := ["quern/crc.half"], apart := false, laid := [("quern/crc.half", laid_quern_crc_half)], narrowed := true }
def CrcAddsUptoSaid : Prop := crcAddsUptoRow.holds Tryd.pinned (OpenSpec.upto crcAddsSpec)

/-- 'quernlaw02.CrcTells', WHERE WHAT IT READS IS OF BULK AT MOST 1048576: true; the input reads as it did. -/
def crcTellsUptoRow : OpenClaim := { program := "ytaeoibnbbpgajaadoor", sum := "7a1c2463e707d776f44ca5498359affc05405318920384db80a1f5bffb57ebb8", func := "quern/quernlaw02.CrcTells", spec := "crcTells", named := ["quern/crc.half"], apart := false, laid := [("quern/crc.half", laid_quern_crc_half)], narrowed := true }
def CrcTellsUptoSaid : Prop := crcTellsUptoRow.holds Tryd.pinned (OpenSpec.upto crcTellsSpec)

/-- 'quernlaw02.CrcMixes', WHERE WHAT IT READS IS OF BULK AT MOST 1048576: true; the input reads as it did. -/
def crcMixesUptoRow : OpenClaim := { program := "ytaeoibnbbpgajaadoor", sum := "7a1c2463e707d776f44ca5498359affc05405318920384db80a1f5bffb57ebb8", func := "quern/quernlaw02.CrcMixes", spec := "crcMixes", named := ["quern/crc.half"], apart := false, laid := [("quern/crc.half", laid_quern_crc_half)], narrowed := true }
def CrcMixesUptoSaid : Prop := crcMixesUptoRow.holds Tryd.pinned (OpenSpec.upto crcMixesSpec)

/-- 'quernlaw02.CrcApart', WHERE WHAT IT READS IS OF BULK AT MOST 1048576: true; the input reads as it did. -/
def crcApartUptoRow : OpenClaim := { program := "ytaeoibnbbpgajaadoor", sum := "7a1c2463e707d776f44ca5498359affc05405318920384db80a1f5bffb57ebb8", func := "quern/quernlaw02.CrcApart", spec := "crcApart", named := ["quern/crc.half"], apart := false, laid := [("quern/crc.half", laid_quern_crc_half)], narrowed := true }
def CrcApartUptoSaid : Prop := crcApartUptoRow.holds Tryd.pinned (OpenSpec.upto crcApartSpec)

/-- 'quernlaw02.CrcParts', WHERE WHAT IT READS IS OF BULK AT MOST 1048576: true; the input reads as it did. -/
def crcPartsUptoRow : OpenClaim := { program := "ytaeoibnbbpgajaadoor", sum := "7a1c2463e707d776f44ca5498359affc05405318920384db80a1f5bffb57ebb8", func := "quern/quernlaw02.CrcParts", spec := "crcParts", named := ["quern/crc.half"], apart := false, laid := [("quern/crc.half", laid_quern_crc_half)], narrowed := true }
def CrcPartsUptoSaid : Prop := crcPartsUptoRow.holds Tryd.pinned (OpenSpec.upto crcPartsSpec)

/-- 'quernlaw02.CrcPieces', WHERE WHAT IT READS IS OF BULK AT MOST 1048576: true; the input reads as it did. -/
def crcPiecesUptoRow : OpenClaim := { program := "ytaeoibnbbpgajaadoor", sum := "7a1c2463e707d776f44ca5498359affc05405318920384db80a1f5bffb57ebb8", func := "quern/quernlaw02.CrcPieces", spec := "crcPieces", named := ["quern/crc.half"], apart := false, laid := [("quern/crc.half", laid_quern_crc_half)], narrowed := true }
def CrcPiecesUptoSaid : Prop := crcPiecesUptoRow.holds Tryd.pinned (OpenSpec.upto crcPiecesSpec)

/-- 'quernlaw02.CrcKeeps', WHERE WHAT IT READS IS OF BULK AT MOST 1048576: true; the input reads as it did. -/
def crcKeepsUptoRow : OpenClaim := { program := "ytaeoibnbbpgajaadoor", sum := "7a1c2463e707d776f44ca5498359affc05405318920384db80a1f5bffb57ebb8", func := "quern/quernlaw02.CrcKeeps", spec := "crcKeeps", named := ["quern/crc.half"], apart := false, laid := [("quern/crc.half", laid_quern_crc_half)], narrowed := true }
def CrcKeepsUptoSaid : Prop := crcKeepsUptoRow.holds Tryd.pinned (OpenSpec.upto crcKeepsSpec)

end Rows
end Go.Proofs.YtaeoibnbbpgajaaDoor
