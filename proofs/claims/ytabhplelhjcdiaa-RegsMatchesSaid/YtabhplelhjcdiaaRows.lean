/-
  NARROWER THAN 'FOR EVERY INPUT', by the rows' own cells (each row's printed sentence says how): RegsMatches: loops · RegsTold: loops · RegsParts: loops · RegsAgain: loops.
  DERIVED. THE GIVEN ROWS OF THIS SEAT. 9 by the template 'for every input the law returns true; each argument reads behind the call as it read before'; 0 by the template 'total and deterministic' (their statements: YtabhplelhjcdiaaTotals.lean).
  GIVEN WITH THE SEED: the statements are not yours to turn. If you find one false, say at which input.
  Laid BY PROGRAM, IN A SANDBOX (cutbox-rows.mjs): the forced cells as the released guide's own fill.sh prints them over the translation 88271acd37afa88d… (all of the seat's roots in one cut). By AI agents, Wed Nov 11 2026. No macro, syntax, notation, axiom, sorry.
-/
import Derived.Test.YtabhplelhjcdiaaChecked
import GoSem.Claim
import GoSem.ClaimJoined
import GoSem.ClaimMapViews
import Derived.JoinedTies
import Derived.KernelRfl
namespace Go.Proofs.Ytabhplelhjcdiaa
/- THE CELL 'sum', in the pinned program and in every row, IS THE sha256 OF THE DUMP (.gsa) THAT YtabhplelhjcdiaaProg.lean LOADS. Nothing in Lean hashes anything: it is a label: what it is worth is what the hold of that sum in a sandbox is worth. -/
noncomputable def Try.pinned : Pinned := { name := "ytabhplelhjcdiaa", sum := "88271acd37afa88da51d896ee50fb59b4482ad02866593cc26cdd3368a5dfd0b", checked := Try.checked }
namespace Rows
def none {H : Type} : Left H := { results := [], args := [] }

/-- 'rootstocklaw01.EditsKeeps': WHATEVER THE INPUT: true; the input reads as it did. -/
def editsKeepsSpec : ChangeSpec := { name := "editsKeeps", fn := fun _ => fun
  | [d1, d2] => { results := [.lit (.bool true)], args := [d1, d2] }
  | _ => none }
def editsKeepsRow : OpenClaim := { program := "ytabhplelhjcdiaa", sum := "88271acd37afa88da51d896ee50fb59b4482ad02866593cc26cdd3368a5dfd0b", func := "rootstock/rootstocklaw01.EditsKeeps", spec := "editsKeeps", plainKeys := false, apart := false }
def EditsKeepsSaid : Prop := editsKeepsRow.holds Try.pinned (OpenSpec.ofChange editsKeepsSpec)

/-- ITS FALSE NEIGHBOUR: 'it returns false'. Refute it at one input. -/
def editsKeepsWrong : ChangeSpec := { name := "editsKeeps", fn := fun _ => fun
  | [d1, d2] => { results := [.lit (.bool false)], args := [d1, d2] }
  | _ => none }
def EditsKeepsWrongFalsely : Prop := editsKeepsRow.holds Try.pinned (OpenSpec.ofChange editsKeepsWrong)

/-- 'rootstocklaw08.MiniTurned': WHATEVER THE INPUT: true; the input reads as it did. -/
def miniTurnedSpec : ChangeSpec := { name := "miniTurned", fn := fun _ => fun
  | [d1, d2] => { results := [.lit (.bool true)], args := [d1, d2] }
  | _ => none }
def miniTurnedRow : OpenClaim := { program := "ytabhplelhjcdiaa", sum := "88271acd37afa88da51d896ee50fb59b4482ad02866593cc26cdd3368a5dfd0b", func := "rootstock/rootstocklaw08.MiniTurned", spec := "miniTurned", plainKeys := false, apart := false }
def MiniTurnedSaid : Prop := miniTurnedRow.holds Try.pinned (OpenSpec.ofChange miniTurnedSpec)

/-- ITS FALSE NEIGHBOUR: 'it returns false'. Refute it at one input. -/
def miniTurnedWrong : ChangeSpec := { name := "miniTurned", fn := fun _ => fun
  | [d1, d2] => { results := [.lit (.bool false)], args := [d1, d2] }
  | _ => none }
def MiniTurnedWrongFalsely : Prop := miniTurnedRow.holds Try.pinned (OpenSpec.ofChange miniTurnedWrong)

/-- 'rootstocklaw08.MiniMore': WHATEVER THE INPUT: true; the input reads as it did. -/
def miniMoreSpec : ChangeSpec := { name := "miniMore", fn := fun _ => fun
  | [d1, d2, d3] => { results := [.lit (.bool true)], args := [d1, d2, d3] }
  | _ => none }
def miniMoreRow : OpenClaim := { program := "ytabhplelhjcdiaa", sum := "88271acd37afa88da51d896ee50fb59b4482ad02866593cc26cdd3368a5dfd0b", func := "rootstock/rootstocklaw08.MiniMore", spec := "miniMore", plainKeys := false, apart := false }
def MiniMoreSaid : Prop := miniMoreRow.holds Try.pinned (OpenSpec.ofChange miniMoreSpec)

/-- ITS FALSE NEIGHBOUR: 'it returns false'. Refute it at one input. -/
def miniMoreWrong : ChangeSpec := { name := "miniMore", fn := fun _ => fun
  | [d1, d2, d3] => { results := [.lit (.bool false)], args := [d1, d2, d3] }
  | _ => none }
def MiniMoreWrongFalsely : Prop := miniMoreRow.holds Try.pinned (OpenSpec.ofChange miniMoreWrong)

/-- 'rootstocklaw05.RegsMatches': WHATEVER THE INPUT: true; the input reads as it did. -/
def regsMatchesSpec : ChangeSpec := { name := "regsMatches", fn := fun _ => fun
  | [d1, d2] => { results := [.lit (.bool true)], args := [d1, d2] }
  | _ => none }
def regsMatchesRow : OpenClaim := { program := "ytabhplelhjcdiaa", sum := "88271acd37afa88da51d896ee50fb59b4482ad02866593cc26cdd3368a5dfd0b", func := "rootstock/rootstocklaw05.RegsMatches", spec := "regsMatches", unfollowed := true, recurses := true, loops := true, plainKeys := false, apart := false }
def RegsMatchesSaid : Prop := regsMatchesRow.holds Try.pinned (OpenSpec.ofChange regsMatchesSpec)

/-- ITS FALSE NEIGHBOUR: 'it returns false'. Refute it at one input. -/
def regsMatchesWrong : ChangeSpec := { name := "regsMatches", fn := fun _ => fun
  | [d1, d2] => { results := [.lit (.bool false)], args := [d1, d2] }
  | _ => none }
def RegsMatchesWrongFalsely : Prop := regsMatchesRow.holds Try.pinned (OpenSpec.ofChange regsMatchesWrong)

/-- 'rootstocklaw05.RegsTold': WHATEVER THE INPUT: true; the input reads as it did. -/
def regsToldSpec : ChangeSpec := { name := "regsTold", fn := fun _ => fun
  | [d1, d2] => { results := [.lit (.bool true)], args := [d1, d2] }
  | _ => none }
def regsToldRow : OpenClaim := { program := "ytabhplelhjcdiaa", sum := "88271acd37afa88da51d896ee50fb59b4482ad02866593cc26cdd3368a5dfd0b", func := "rootstock/rootstocklaw05.RegsTold", spec := "regsTold", unfollowed := true, recurses := true, loops := true, plainKeys := false, apart := false }
def RegsToldSaid : Prop := regsToldRow.holds Try.pinned (OpenSpec.ofChange regsToldSpec)

/-- ITS FALSE NEIGHBOUR: 'it returns false'. Refute it at one input. -/
def regsToldWrong : ChangeSpec := { name := "regsTold", fn := fun _ => fun
  | [d1, d2] => { results := [.lit (.bool false)], args := [d1, d2] }
  | _ => none }
def RegsToldWrongFalsely : Prop := regsToldRow.holds Try.pinned (OpenSpec.ofChange regsToldWrong)

/-- 'rootstocklaw05.RegsParts': WHATEVER THE INPUT: true; the input reads as it did. -/
def regsPartsSpec : ChangeSpec := { name := "regsParts", fn := fun _ => fun
  | [d1, d2, d3] => { results := [.lit (.bool true)], args := [d1, d2, d3] }
  | _ => none }
def regsPartsRow : OpenClaim := { program := "ytabhplelhjcdiaa", sum := "88271acd37afa88da51d896ee50fb59b4482ad02866593cc26cdd3368a5dfd0b", func := "rootstock/rootstocklaw05.RegsParts", spec := "regsParts", unfollowed := true, recurses := true, loops := true, plainKeys := false, apart := false }
def RegsPartsSaid : Prop := regsPartsRow.holds Try.pinned (OpenSpec.ofChange regsPartsSpec)

/-- ITS FALSE NEIGHBOUR: 'it returns false'. Refute it at one input. -/
def regsPartsWrong : ChangeSpec := { name := "regsParts", fn := fun _ => fun
  | [d1, d2, d3] => { results := [.lit (.bool false)], args := [d1, d2, d3] }
  | _ => none }
def RegsPartsWrongFalsely : Prop := regsPartsRow.holds Try.pinned (OpenSpec.ofChange regsPartsWrong)

/-- 'rootstocklaw05.RegsAgain': WHATEVER THE INPUT: true; the input reads as it did. -/
def regsAgainSpec : ChangeSpec := { name := "regsAgain", fn := fun _ => fun
  | [d1, d2] => { results := [.lit (.bool true)], args := [d1, d2] }
  | _ => none }
def regsAgainRow : OpenClaim := { program := "ytabhplelhjcdiaa", sum := "88271acd37afa88da51d896ee50fb59b4482ad02866593cc26cdd3368a5dfd0b", func := "rootstock/rootstocklaw05.RegsAgain", spec := "regsAgain", unfollowed := true, recurses := true, loops := true, plainKeys := false, apart := false }
def RegsAgainSaid : Prop := regsAgainRow.holds Try.pinned (OpenSpec.ofChange regsAgainSpec)

/-- ITS FALSE NEIGHBOUR: 'it returns false'. Refute it at one input. -/
def regsAgainWrong : ChangeSpec := { name := "regsAgain", fn := fun _ => fun
  | [d1, d2] => { results := [.lit (.bool false)], args := [d1, d2] }
  | _ => none }
def RegsAgainWrongFalsely : Prop := regsAgainRow.holds Try.pinned (OpenSpec.ofChange regsAgainWrong)

/-- 'rootstocklaw07.DfaReaches': WHATEVER THE INPUT: true; the input reads as it did. -/
def dfaReachesSpec : ChangeSpec := { name := "dfaReaches", fn := fun _ => fun
  | [d] => { results := [.lit (.bool true)], args := [d] }
  | _ => none }
def dfaReachesRow : OpenClaim := { program := "ytabhplelhjcdiaa", sum := "88271acd37afa88da51d896ee50fb59b4482ad02866593cc26cdd3368a5dfd0b", func := "rootstock/rootstocklaw07.DfaReaches", spec := "dfaReaches", recurses := true, plainKeys := false, apart := false }
def DfaReachesSaid : Prop := dfaReachesRow.holds Try.pinned (OpenSpec.ofChange dfaReachesSpec)

/-- ITS FALSE NEIGHBOUR: 'it returns false'. Refute it at one input. -/
def dfaReachesWrong : ChangeSpec := { name := "dfaReaches", fn := fun _ => fun
  | [d] => { results := [.lit (.bool false)], args := [d] }
  | _ => none }
def DfaReachesWrongFalsely : Prop := dfaReachesRow.holds Try.pinned (OpenSpec.ofChange dfaReachesWrong)

/-- 'rootstocklaw07.DfaTurned': WHATEVER THE INPUT: true; the input reads as it did. -/
def dfaTurnedSpec : ChangeSpec := { name := "dfaTurned", fn := fun _ => fun
  | [d1, d2] => { results := [.lit (.bool true)], args := [d1, d2] }
  | _ => none }
def dfaTurnedRow : OpenClaim := { program := "ytabhplelhjcdiaa", sum := "88271acd37afa88da51d896ee50fb59b4482ad02866593cc26cdd3368a5dfd0b", func := "rootstock/rootstocklaw07.DfaTurned", spec := "dfaTurned", recurses := true, plainKeys := false, apart := false }
def DfaTurnedSaid : Prop := dfaTurnedRow.holds Try.pinned (OpenSpec.ofChange dfaTurnedSpec)

/-- ITS FALSE NEIGHBOUR: 'it returns false'. Refute it at one input. -/
def dfaTurnedWrong : ChangeSpec := { name := "dfaTurned", fn := fun _ => fun
  | [d1, d2] => { results := [.lit (.bool false)], args := [d1, d2] }
  | _ => none }
def DfaTurnedWrongFalsely : Prop := dfaTurnedRow.holds Try.pinned (OpenSpec.ofChange dfaTurnedWrong)

/- THE SECOND FORM. 'bulk': how many values and letters a reading holds, each counted each time it is reached (what is shared counts as often as it is met; a slice's spare places count too). A statement '..UptoSaid' is the law's where the arguments, and the package variables that the reading takes, are together of bulk at most 1048576: NARROWER than '..Said'. Prove '..Said' where nothing that the law and all that it calls make is longer than what came in: it says more and counts as full. Else prove '..UptoSaid'. A law counts once. -/
mutual
def uptoBulk {H : Type} : DataW H → Nat
  | .lit (.string bytes) => bytes.length + 1
  | .lit _ => 1
  | .nil => 1
  | .ptr d => uptoBulk d + 1
  | .slice elems spare => uptoBulkAll elems + uptoBulkAll spare + 1
  | .agg parts => uptoBulkAll parts + 1
  | .iface _ d => uptoBulk d + 1
  | .map entries => uptoBulkEntries entries + 1
  | .held _ => 1
def uptoBulkAll {H : Type} : List (DataW H) → Nat
  | [] => 0
  | d :: r => uptoBulk d + uptoBulkAll r
def uptoBulkEntries {H : Type} : List (Lit × DataW H) → Nat
  | [] => 0
  | x :: r => uptoBulkEntry x + uptoBulkEntries r
def uptoBulkEntry {H : Type} : Lit × DataW H → Nat
  | (.string bytes, d) => bytes.length + uptoBulk d + 1
  | (_, d) => uptoBulk d + 1
 end
def uptoSmall : (H : Type) → List (DataW H) → Bool := fun _ ds => decide (uptoBulkAll ds ≤ 1048576)
def OpenSpec.upto (s : _root_.Go.ChangeSpec) : _root_.Go.OpenSpec := { _root_.Go.OpenSpec.ofChange s with cond := some uptoSmall }

/-- 'rootstocklaw01.EditsKeeps', WHERE WHAT IT READS IS OF BULK AT MOST 1048576: true; the input reads as it did. -/
def editsKeepsUptoRow : OpenClaim := { program := "ytabhplelhjcdiaa", sum := "88271acd37afa88da51d896ee50fb59b4482ad02866593cc26cdd3368a5dfd0b", func := "rootstock/rootstocklaw01.EditsKeeps", spec := "editsKeeps", plainKeys := false, apart := false, narrowed := true }
def EditsKeepsUptoSaid : Prop := editsKeepsUptoRow.holds Try.pinned (OpenSpec.upto editsKeepsSpec)

/-- 'rootstocklaw08.MiniTurned', WHERE WHAT IT READS IS OF BULK AT MOST 1048576: true; the input reads as it did. -/
def miniTurnedUptoRow : OpenClaim := { program := "ytabhplelhjcdiaa", sum := "88271acd37afa88da51d896ee50fb59b4482ad02866593cc26cdd3368a5dfd0b", func := "rootstock/rootstocklaw08.MiniTurned", spec := "miniTurned", plainKeys := false, apart := false, narrowed := true }
def MiniTurnedUptoSaid : Prop := miniTurnedUptoRow.holds Try.pinned (OpenSpec.upto miniTurnedSpec)

/-- 'rootstocklaw08.MiniMore', WHERE WHAT IT READS IS OF BULK AT MOST 1048576: true; the input reads as it did. -/
def miniMoreUptoRow : OpenClaim := { program := "ytabhplelhjcdiaa", sum := "88271acd37afa88da51d896ee50fb59b4482ad02866593cc26cdd3368a5dfd0b", func := "rootstock/rootstocklaw08.MiniMore", spec := "miniMore", plainKeys := false, apart := false, narrowed := true }
def MiniMoreUptoSaid : Prop := miniMoreUptoRow.holds Try.pinned (OpenSpec.upto miniMoreSpec)

/-- 'rootstocklaw05.RegsMatches', WHERE WHAT IT READS IS OF BULK AT MOST 1048576: true; the input reads as it did. -/
def regsMatchesUptoRow : OpenClaim := { program := "ytabhplelhjcdiaa", sum := "88271acd37afa88da51d896ee50fb59b4482ad02866593cc26cdd3368a5dfd0b", func := "rootstock/rootstocklaw05.RegsMatches", spec := "regsMatches", unfollowed := true, recurses := true, loops := true, plainKeys := false, apart := false, narrowed := true }
def RegsMatchesUptoSaid : Prop := regsMatchesUptoRow.holds Try.pinned (OpenSpec.upto regsMatchesSpec)

/-- 'rootstocklaw05.RegsTold', WHERE WHAT IT READS IS OF BULK AT MOST 1048576: true; the input reads as it did. -/
def regsToldUptoRow : OpenClaim := { program := "ytabhplelhjcdiaa", sum := "88271acd37afa88da51d896ee50fb59b4482ad02866593cc26cdd3368a5dfd0b", func := "rootstock/rootstocklaw05.RegsTold", spec := "regsTold", unfollowed := true, recurses := true, loops := true, plainKeys := false, apart := false, narrowed := true }
def RegsToldUptoSaid : Prop := regsToldUptoRow.holds Try.pinned (OpenSpec.upto regsToldSpec)

/-- 'rootstocklaw05.RegsParts', WHERE WHAT IT READS IS OF BULK AT MOST 1048576: true; the input reads as it did. -/
def regsPartsUptoRow : OpenClaim := { program := "ytabhplelhjcdiaa", sum := "88271acd37afa88da51d896ee50fb59b4482ad02866593cc26cdd3368a5dfd0b", func := "rootstock/rootstocklaw05.RegsParts", spec := "regsParts", unfollowed := true, recurses := true, loops := true, plainKeys := false, apart := false, narrowed := true }
def RegsPartsUptoSaid : Prop := regsPartsUptoRow.holds Try.pinned (OpenSpec.upto regsPartsSpec)

/-- 'rootstocklaw05.RegsAgain', WHERE WHAT IT READS IS OF BULK AT MOST 1048576: true; the input reads as it did. -/
def regsAgainUptoRow : OpenClaim := { program := "ytabhplelhjcdiaa", sum := "88271acd37afa88da51d896ee50fb59b4482ad02866593cc26cdd3368a5dfd0b", func := "rootstock/rootstocklaw05.RegsAgain", spec := "regsAgain", unfollowed := true, recurses := true, loops := true, plainKeys := false, apart := false, narrowed := true }
def RegsAgainUptoSaid : Prop := regsAgainUptoRow.holds Try.pinned (OpenSpec.upto regsAgainSpec)

/-- 'rootstocklaw07.DfaReaches', WHERE WHAT IT READS IS OF BULK AT MOST 1048576: true; the input reads as it did. -/
def dfaReachesUptoRow : OpenClaim := { program := "ytabhplelhjcdiaa", sum := "88271acd37afa88da51d896ee50fb59b4482ad02866593cc26cdd3368a5dfd0b", func := "rootstock/rootstocklaw07.DfaReaches", spec := "dfaReaches", recurses := true, plainKeys := false, apart := false, narrowed := true }
def DfaReachesUptoSaid : Prop := dfaReachesUptoRow.holds Try.pinned (OpenSpec.upto dfaReachesSpec)

/-- 'rootstocklaw07.DfaTurned', WHERE WHAT IT READS IS OF BULK AT MOST 1048576: true; the input reads as it did. -/
def dfaTurnedUptoRow : OpenClaim := { program := "ytabhplelhjcdiaa", sum := "88271acd37afa88da51d896ee50fb59b4482ad02866593cc26cdd3368a5dfd0b", func := "rootstock/rootstocklaw07.DfaTurned", spec := "dfaTurned", recurses := true, plainKeys := false, apart := false, narrowed := true }
def DfaTurnedUptoSaid : Prop := dfaTurnedUptoRow.holds Try.pinned (OpenSpec.upto dfaTurnedSpec)

end Rows
end Go.Proofs.Ytabhplelhjcdiaa
