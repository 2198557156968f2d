/-
  No cell of these rows narrows 'for every input' (looked for: loops, veiled, ifaces, maps, wideKeys, modest, calm, conditions, laid).
  DERIVED. THE GIVEN ROWS OF THIS SEAT. 7 by the template 'for every input the law returns true; each argument reads behind the call as it read before'; 0 by the template 'total and deterministic' (their statements: YtjpjiniclibgkaaTotals.lean).
  GIVEN WITH THE SEED: the statements are not yours to turn. If you find one false, say at which input.
  Laid BY PROGRAM, IN A SANDBOX (cutbox-rows.mjs): the forced cells as the released guide's own fill.sh prints them over the translation d207b2928d59f589… (all of the seat's roots in one cut). By AI agents, Wed Nov 11 2026. No macro, syntax, notation, axiom, sorry.
-/
import Derived.Test.YtjpjiniclibgkaaChecked
import GoSem.Claim
import GoSem.ClaimJoined
import GoSem.ClaimMapViews
import Derived.JoinedTies
import Derived.KernelRfl
namespace Go.Proofs.Ytjpjiniclibgkaa
/- THE CELL 'sum', in the pinned program and in every row, IS THE sha256 OF THE DUMP (.gsa) THAT YtjpjiniclibgkaaProg.lean LOADS. Nothing in Lean hashes anything: it is a label: what it is worth is what the hold of that sum in a sandbox is worth. -/
noncomputable def Try.pinned : Pinned := { name := "ytjpjiniclibgkaa", sum := "d207b2928d59f5897a177cc9ff6bc6d8b28ec340d99e6b81883dc1c260d1a7b8", checked := Try.checked }
namespace Rows
def none {H : Type} : Left H := { results := [], args := [] }

/-- 'quernlaw20.RaftSteps': WHATEVER THE INPUT: true; the input reads as it did. -/
def raftStepsSpec : ChangeSpec := { name := "raftSteps", fn := fun _ => fun
  | [d1, d2] => { results := [.lit (.bool true)], args := [d1, d2] }
  | _ => none }
def raftStepsRow : OpenClaim := { program := "ytjpjiniclibgkaa", sum := "d207b2928d59f5897a177cc9ff6bc6d8b28ec340d99e6b81883dc1c260d1a7b8", func := "quern/quernlaw20.RaftSteps", spec := "raftSteps", unfollowed := true, recurses := true, apart := false }
def RaftStepsSaid : Prop := raftStepsRow.holds Try.pinned (OpenSpec.ofChange raftStepsSpec)

/-- ITS FALSE NEIGHBOUR: 'it returns false'. Refute it at one input. -/
def raftStepsWrong : ChangeSpec := { name := "raftSteps", fn := fun _ => fun
  | [d1, d2] => { results := [.lit (.bool false)], args := [d1, d2] }
  | _ => none }
def RaftStepsWrongFalsely : Prop := raftStepsRow.holds Try.pinned (OpenSpec.ofChange raftStepsWrong)

/-- 'quernlaw20.RaftCatches': WHATEVER THE INPUT: true; the input reads as it did. -/
def raftCatchesSpec : ChangeSpec := { name := "raftCatches", fn := fun _ => fun
  | [d1, d2] => { results := [.lit (.bool true)], args := [d1, d2] }
  | _ => none }
def raftCatchesRow : OpenClaim := { program := "ytjpjiniclibgkaa", sum := "d207b2928d59f5897a177cc9ff6bc6d8b28ec340d99e6b81883dc1c260d1a7b8", func := "quern/quernlaw20.RaftCatches", spec := "raftCatches", unfollowed := true, recurses := true, apart := false }
def RaftCatchesSaid : Prop := raftCatchesRow.holds Try.pinned (OpenSpec.ofChange raftCatchesSpec)

/-- ITS FALSE NEIGHBOUR: 'it returns false'. Refute it at one input. -/
def raftCatchesWrong : ChangeSpec := { name := "raftCatches", fn := fun _ => fun
  | [d1, d2] => { results := [.lit (.bool false)], args := [d1, d2] }
  | _ => none }
def RaftCatchesWrongFalsely : Prop := raftCatchesRow.holds Try.pinned (OpenSpec.ofChange raftCatchesWrong)

/-- 'quernlaw20.RaftKeeps': WHATEVER THE INPUT: true; the input reads as it did. -/
def raftKeepsSpec : ChangeSpec := { name := "raftKeeps", fn := fun _ => fun
  | [d1, d2] => { results := [.lit (.bool true)], args := [d1, d2] }
  | _ => none }
def raftKeepsRow : OpenClaim := { program := "ytjpjiniclibgkaa", sum := "d207b2928d59f5897a177cc9ff6bc6d8b28ec340d99e6b81883dc1c260d1a7b8", func := "quern/quernlaw20.RaftKeeps", spec := "raftKeeps", unfollowed := true, recurses := true, apart := false }
def RaftKeepsSaid : Prop := raftKeepsRow.holds Try.pinned (OpenSpec.ofChange raftKeepsSpec)

/-- ITS FALSE NEIGHBOUR: 'it returns false'. Refute it at one input. -/
def raftKeepsWrong : ChangeSpec := { name := "raftKeeps", fn := fun _ => fun
  | [d1, d2] => { results := [.lit (.bool false)], args := [d1, d2] }
  | _ => none }
def RaftKeepsWrongFalsely : Prop := raftKeepsRow.holds Try.pinned (OpenSpec.ofChange raftKeepsWrong)

/-- 'quernlaw20.RaftStays': WHATEVER THE INPUT: true; the input reads as it did. -/
def raftStaysSpec : ChangeSpec := { name := "raftStays", fn := fun _ => fun
  | [d1, d2, d3] => { results := [.lit (.bool true)], args := [d1, d2, d3] }
  | _ => none }
def raftStaysRow : OpenClaim := { program := "ytjpjiniclibgkaa", sum := "d207b2928d59f5897a177cc9ff6bc6d8b28ec340d99e6b81883dc1c260d1a7b8", func := "quern/quernlaw20.RaftStays", spec := "raftStays", unfollowed := true, recurses := true, apart := false }
def RaftStaysSaid : Prop := raftStaysRow.holds Try.pinned (OpenSpec.ofChange raftStaysSpec)

/-- ITS FALSE NEIGHBOUR: 'it returns false'. Refute it at one input. -/
def raftStaysWrong : ChangeSpec := { name := "raftStays", fn := fun _ => fun
  | [d1, d2, d3] => { results := [.lit (.bool false)], args := [d1, d2, d3] }
  | _ => none }
def RaftStaysWrongFalsely : Prop := raftStaysRow.holds Try.pinned (OpenSpec.ofChange raftStaysWrong)

/-- 'quernlaw20.RaftTurns': WHATEVER THE INPUT: true; the input reads as it did. -/
def raftTurnsSpec : ChangeSpec := { name := "raftTurns", fn := fun _ => fun
  | [d1, d2, d3] => { results := [.lit (.bool true)], args := [d1, d2, d3] }
  | _ => none }
def raftTurnsRow : OpenClaim := { program := "ytjpjiniclibgkaa", sum := "d207b2928d59f5897a177cc9ff6bc6d8b28ec340d99e6b81883dc1c260d1a7b8", func := "quern/quernlaw20.RaftTurns", spec := "raftTurns", unfollowed := true, recurses := true, apart := false }
def RaftTurnsSaid : Prop := raftTurnsRow.holds Try.pinned (OpenSpec.ofChange raftTurnsSpec)

/-- ITS FALSE NEIGHBOUR: 'it returns false'. Refute it at one input. -/
def raftTurnsWrong : ChangeSpec := { name := "raftTurns", fn := fun _ => fun
  | [d1, d2, d3] => { results := [.lit (.bool false)], args := [d1, d2, d3] }
  | _ => none }
def RaftTurnsWrongFalsely : Prop := raftTurnsRow.holds Try.pinned (OpenSpec.ofChange raftTurnsWrong)

/-- 'quernlaw20.RaftSafe': WHATEVER THE INPUT: true; the input reads as it did. -/
def raftSafeSpec : ChangeSpec := { name := "raftSafe", fn := fun _ => fun
  | [d1, d2] => { results := [.lit (.bool true)], args := [d1, d2] }
  | _ => none }
def raftSafeRow : OpenClaim := { program := "ytjpjiniclibgkaa", sum := "d207b2928d59f5897a177cc9ff6bc6d8b28ec340d99e6b81883dc1c260d1a7b8", func := "quern/quernlaw20.RaftSafe", spec := "raftSafe", unfollowed := true, recurses := true, apart := false }
def RaftSafeSaid : Prop := raftSafeRow.holds Try.pinned (OpenSpec.ofChange raftSafeSpec)

/-- ITS FALSE NEIGHBOUR: 'it returns false'. Refute it at one input. -/
def raftSafeWrong : ChangeSpec := { name := "raftSafe", fn := fun _ => fun
  | [d1, d2] => { results := [.lit (.bool false)], args := [d1, d2] }
  | _ => none }
def RaftSafeWrongFalsely : Prop := raftSafeRow.holds Try.pinned (OpenSpec.ofChange raftSafeWrong)

/-- 'quernlaw20.RaftMoves': WHATEVER THE INPUT: true; the input reads as it did. -/
def raftMovesSpec : ChangeSpec := { name := "raftMoves", fn := fun _ => fun
  | [d1, d2, d3] => { results := [.lit (.bool true)], args := [d1, d2, d3] }
  | _ => none }
def raftMovesRow : OpenClaim := { program := "ytjpjiniclibgkaa", sum := "d207b2928d59f5897a177cc9ff6bc6d8b28ec340d99e6b81883dc1c260d1a7b8", func := "quern/quernlaw20.RaftMoves", spec := "raftMoves", unfollowed := true, recurses := true, apart := false }
def RaftMovesSaid : Prop := raftMovesRow.holds Try.pinned (OpenSpec.ofChange raftMovesSpec)

/-- ITS FALSE NEIGHBOUR: 'it returns false'. Refute it at one input. -/
def raftMovesWrong : ChangeSpec := { name := "raftMoves", fn := fun _ => fun
  | [d1, d2, d3] => { results := [.lit (.bool false)], args := [d1, d2, d3] }
  | _ => none }
def RaftMovesWrongFalsely : Prop := raftMovesRow.holds Try.pinned (OpenSpec.ofChange raftMovesWrong)

/- THE SECOND FORM. 'bulk': how many values and letters a reading holds, each counted each time it is reached (what is shared counts as often as it is met; a slice's spare places count too). A statement '..UptoSaid' is the law's where the arguments, and the package variables that the reading takes, are together of bulk at most 1048576: NARROWER than '..Said'. Prove '..Said' where nothing that the law and all that it calls make is longer than what came in: it says more and counts as full. Else prove '..UptoSaid'. A law counts once. -/
mutual
def uptoBulk {H : Type} : DataW H → Nat
  | .lit (.string bytes) => bytes.length + 1
  | .lit _ => 1
  | .nil => 1
  | .ptr d => uptoBulk d + 1
  | .slice elems spare => uptoBulkAll elems + uptoBulkAll spare + 1
  | .agg parts => uptoBulkAll parts + 1
  | .iface _ d => uptoBulk d + 1
  | .map entries => uptoBulkEntries entries + 1
  | .held _ => 1
def uptoBulkAll {H : Type} : List (DataW H) → Nat
  | [] => 0
  | d :: r => uptoBulk d + uptoBulkAll r
def uptoBulkEntries {H : Type} : List (Lit × DataW H) → Nat
  | [] => 0
  | x :: r => uptoBulkEntry x + uptoBulkEntries r
def uptoBulkEntry {H : Type} : Lit × DataW H → Nat
  | (.string bytes, d) => bytes.length + uptoBulk d + 1
  | (_, d) => uptoBulk d + 1
 end
def uptoSmall : (H : Type) → List (DataW H) → Bool := fun _ ds => decide (uptoBulkAll ds ≤ 1048576)
def OpenSpec.upto (s : _root_.Go.ChangeSpec) : _root_.Go.OpenSpec := { _root_.Go.OpenSpec.ofChange s with cond := some uptoSmall }

/-- 'quernlaw20.RaftSteps', WHERE WHAT IT READS IS OF BULK AT MOST 1048576: true; the input reads as it did. -/
def raftStepsUptoRow : OpenClaim := { program := "ytjpjiniclibgkaa", sum := "d207b2928d59f5897a177cc9ff6bc6d8b28ec340d99e6b81883dc1c260d1a7b8", func := "quern/quernlaw20.RaftSteps", spec := "raftSteps", unfollowed := true, recurses := true, apart := false, narrowed := true }
def RaftStepsUptoSaid : Prop := raftStepsUptoRow.holds Try.pinned (OpenSpec.upto raftStepsSpec)

/-- 'quernlaw20.RaftCatches', WHERE WHAT IT READS IS OF BULK AT MOST 1048576: true; the input reads as it did. -/
def raftCatchesUptoRow : OpenClaim := { program := "ytjpjiniclibgkaa", sum := "d207b2928d59f5897a177cc9ff6bc6d8b28ec340d99e6b81883dc1c260d1a7b8", func := "quern/quernlaw20.RaftCatches", spec := "raftCatches", unfollowed := true, recurses := true, apart := false, narrowed := true }
def RaftCatchesUptoSaid : Prop := raftCatchesUptoRow.holds Try.pinned (OpenSpec.upto raftCatchesSpec)

/-- 'quernlaw20.RaftKeeps', WHERE WHAT IT READS IS OF BULK AT MOST 1048576: true; the input reads as it did. -/
def raftKeepsUptoRow : OpenClaim := { program := "ytjpjiniclibgkaa", sum := "d207b2928d59f5897a177cc9ff6bc6d8b28ec340d99e6b81883dc1c260d1a7b8", func := "quern/quernlaw20.RaftKeeps", spec := "raftKeeps", unfollowed := true, recurses := true, apart := false, narrowed := true }
def RaftKeepsUptoSaid : Prop := raftKeepsUptoRow.holds Try.pinned (OpenSpec.upto raftKeepsSpec)

/-- 'quernlaw20.RaftStays', WHERE WHAT IT READS IS OF BULK AT MOST 1048576: true; the input reads as it did. -/
def raftStaysUptoRow : OpenClaim := { program := "ytjpjiniclibgkaa", sum := "d207b2928d59f5897a177cc9ff6bc6d8b28ec340d99e6b81883dc1c260d1a7b8", func := "quern/quernlaw20.RaftStays", spec := "raftStays", unfollowed := true, recurses := true, apart := false, narrowed := true }
def RaftStaysUptoSaid : Prop := raftStaysUptoRow.holds Try.pinned (OpenSpec.upto raftStaysSpec)

/-- 'quernlaw20.RaftTurns', WHERE WHAT IT READS IS OF BULK AT MOST 1048576: true; the input reads as it did. -/
def raftTurnsUptoRow : OpenClaim := { program := "ytjpjiniclibgkaa", sum := "d207b2928d59f5897a177cc9ff6bc6d8b28ec340d99e6b81883dc1c260d1a7b8", func := "quern/quernlaw20.RaftTurns", spec := "raftTurns", unfollowed := true, recurses := true, apart := false, narrowed := true }
def RaftTurnsUptoSaid : Prop := raftTurnsUptoRow.holds Try.pinned (OpenSpec.upto raftTurnsSpec)

/-- 'quernlaw20.RaftSafe', WHERE WHAT IT READS IS OF BULK AT MOST 1048576: true; the input reads as it did. -/
def raftSafeUptoRow : OpenClaim := { program := "ytjpjiniclibgkaa", sum := "d207b2928d59f5897a177cc9ff6bc6d8b28ec340d99e6b81883dc1c260d1a7b8", func := "quern/quernlaw20.RaftSafe", spec := "raftSafe", unfollowed := true, recurses := true, apart := false, narrowed := true }
def RaftSafeUptoSaid : Prop := raftSafeUptoRow.holds Try.pinned (OpenSpec.upto raftSafeSpec)

/-- 'quernlaw20.RaftMoves', WHERE WHAT IT READS IS OF BULK AT MOST 1048576: true; the input reads as it did. -/
def raftMovesUptoRow : OpenClaim := { program := "ytjpjiniclibgkaa", sum := "d207b2928d59f5897a177cc9ff6bc6d8b28ec340d99e6b81883dc1c260d1a7b8", func := "quern/quernlaw20.RaftMoves", spec := "raftMoves", unfollowed := true, recurses := true, apart := false, narrowed := true }
def RaftMovesUptoSaid : Prop := raftMovesUptoRow.holds Try.pinned (OpenSpec.upto raftMovesSpec)

end Rows
end Go.Proofs.Ytjpjiniclibgkaa
