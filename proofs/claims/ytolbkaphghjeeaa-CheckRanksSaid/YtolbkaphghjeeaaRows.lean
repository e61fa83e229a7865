/-
  No cell of these rows narrows 'for every input' (looked for: loops, veiled, ifaces, maps, wideKeys, modest, calm, conditions, laid).
  DERIVED. THE GIVEN ROWS OF THIS SEAT. 13 by the template 'for every input the law returns true; each argument reads behind the call as it read before'; 0 by the template 'total and deterministic' (their statements: YtolbkaphghjeeaaTotals.lean).
  GIVEN WITH THE SEED: the statements are not yours to turn. If you find one false, say at which input.
  Laid BY PROGRAM, IN A SANDBOX (cutbox-rows.mjs): the forced cells as the released guide's own fill.sh prints them over the translation a4aee0145a6ffaf0… (all of the seat's roots in one cut). By AI agents, Wed Nov 11 2026. No macro, syntax, notation, axiom, sorry.
-/
import Derived.Test.YtolbkaphghjeeaaChecked
import GoSem.Claim
import GoSem.ClaimJoined
import GoSem.ClaimMapViews
import Derived.JoinedTies
import Derived.KernelRfl
namespace Go.Proofs.Ytolbkaphghjeeaa
/- THE CELL 'sum', in the pinned program and in every row, IS THE sha256 OF THE DUMP (.gsa) THAT YtolbkaphghjeeaaProg.lean LOADS. Nothing in Lean hashes anything: it is a label: what it is worth is what the hold of that sum in a sandbox is worth. -/
noncomputable def Try.pinned : Pinned := { name := "ytolbkaphghjeeaa", sum := "a4aee0145a6ffaf05d08dc7546cb38c983517302be2025c7afccdcb9bd5d2d6f", checked := Try.checked }
namespace Rows
def none {H : Type} : Left H := { results := [], args := [] }

/-- 'tinkerlaw02.CheckScores': WHATEVER THE INPUT: true; the input reads as it did. -/
def checkScoresSpec : ChangeSpec := { name := "checkScores", fn := fun _ => fun
  | [d1, d2] => { results := [.lit (.bool true)], args := [d1, d2] }
  | _ => none }
def checkScoresRow : OpenClaim := { program := "ytolbkaphghjeeaa", sum := "a4aee0145a6ffaf05d08dc7546cb38c983517302be2025c7afccdcb9bd5d2d6f", func := "tinker/tinkerlaw02.CheckScores", spec := "checkScores", unfollowed := true, recurses := true, apart := false }
def CheckScoresSaid : Prop := checkScoresRow.holds Try.pinned (OpenSpec.ofChange checkScoresSpec)

/-- ITS FALSE NEIGHBOUR: 'it returns false'. Refute it at one input. -/
def checkScoresWrong : ChangeSpec := { name := "checkScores", fn := fun _ => fun
  | [d1, d2] => { results := [.lit (.bool false)], args := [d1, d2] }
  | _ => none }
def CheckScoresWrongFalsely : Prop := checkScoresRow.holds Try.pinned (OpenSpec.ofChange checkScoresWrong)

/-- 'tinkerlaw02.CheckBoxes': WHATEVER THE INPUT: true; the input reads as it did. -/
def checkBoxesSpec : ChangeSpec := { name := "checkBoxes", fn := fun _ => fun
  | [d] => { results := [.lit (.bool true)], args := [d] }
  | _ => none }
def checkBoxesRow : OpenClaim := { program := "ytolbkaphghjeeaa", sum := "a4aee0145a6ffaf05d08dc7546cb38c983517302be2025c7afccdcb9bd5d2d6f", func := "tinker/tinkerlaw02.CheckBoxes", spec := "checkBoxes", unfollowed := true, recurses := true, apart := false }
def CheckBoxesSaid : Prop := checkBoxesRow.holds Try.pinned (OpenSpec.ofChange checkBoxesSpec)

/-- ITS FALSE NEIGHBOUR: 'it returns false'. Refute it at one input. -/
def checkBoxesWrong : ChangeSpec := { name := "checkBoxes", fn := fun _ => fun
  | [d] => { results := [.lit (.bool false)], args := [d] }
  | _ => none }
def CheckBoxesWrongFalsely : Prop := checkBoxesRow.holds Try.pinned (OpenSpec.ofChange checkBoxesWrong)

/-- 'tinkerlaw02.CheckPasses': WHATEVER THE INPUT: true; the input reads as it did. -/
def checkPassesSpec : ChangeSpec := { name := "checkPasses", fn := fun _ => fun
  | [d1, d2] => { results := [.lit (.bool true)], args := [d1, d2] }
  | _ => none }
def checkPassesRow : OpenClaim := { program := "ytolbkaphghjeeaa", sum := "a4aee0145a6ffaf05d08dc7546cb38c983517302be2025c7afccdcb9bd5d2d6f", func := "tinker/tinkerlaw02.CheckPasses", spec := "checkPasses", unfollowed := true, recurses := true, apart := false }
def CheckPassesSaid : Prop := checkPassesRow.holds Try.pinned (OpenSpec.ofChange checkPassesSpec)

/-- ITS FALSE NEIGHBOUR: 'it returns false'. Refute it at one input. -/
def checkPassesWrong : ChangeSpec := { name := "checkPasses", fn := fun _ => fun
  | [d1, d2] => { results := [.lit (.bool false)], args := [d1, d2] }
  | _ => none }
def CheckPassesWrongFalsely : Prop := checkPassesRow.holds Try.pinned (OpenSpec.ofChange checkPassesWrong)

/-- 'tinkerlaw02.CheckTells': WHATEVER THE INPUT: true; the input reads as it did. -/
def checkTellsSpec : ChangeSpec := { name := "checkTells", fn := fun _ => fun
  | [d1, d2, d3] => { results := [.lit (.bool true)], args := [d1, d2, d3] }
  | _ => none }
def checkTellsRow : OpenClaim := { program := "ytolbkaphghjeeaa", sum := "a4aee0145a6ffaf05d08dc7546cb38c983517302be2025c7afccdcb9bd5d2d6f", func := "tinker/tinkerlaw02.CheckTells", spec := "checkTells", unfollowed := true, recurses := true, apart := false }
def CheckTellsSaid : Prop := checkTellsRow.holds Try.pinned (OpenSpec.ofChange checkTellsSpec)

/-- ITS FALSE NEIGHBOUR: 'it returns false'. Refute it at one input. -/
def checkTellsWrong : ChangeSpec := { name := "checkTells", fn := fun _ => fun
  | [d1, d2, d3] => { results := [.lit (.bool false)], args := [d1, d2, d3] }
  | _ => none }
def CheckTellsWrongFalsely : Prop := checkTellsRow.holds Try.pinned (OpenSpec.ofChange checkTellsWrong)

/-- 'tinkerlaw02.CheckPassing': WHATEVER THE INPUT: true; the input reads as it did. -/
def checkPassingSpec : ChangeSpec := { name := "checkPassing", fn := fun _ => fun
  | [d1, d2] => { results := [.lit (.bool true)], args := [d1, d2] }
  | _ => none }
def checkPassingRow : OpenClaim := { program := "ytolbkaphghjeeaa", sum := "a4aee0145a6ffaf05d08dc7546cb38c983517302be2025c7afccdcb9bd5d2d6f", func := "tinker/tinkerlaw02.CheckPassing", spec := "checkPassing", unfollowed := true, recurses := true, apart := false }
def CheckPassingSaid : Prop := checkPassingRow.holds Try.pinned (OpenSpec.ofChange checkPassingSpec)

/-- ITS FALSE NEIGHBOUR: 'it returns false'. Refute it at one input. -/
def checkPassingWrong : ChangeSpec := { name := "checkPassing", fn := fun _ => fun
  | [d1, d2] => { results := [.lit (.bool false)], args := [d1, d2] }
  | _ => none }
def CheckPassingWrongFalsely : Prop := checkPassingRow.holds Try.pinned (OpenSpec.ofChange checkPassingWrong)

/-- 'tinkerlaw02.CheckTables': WHATEVER THE INPUT: true; the input reads as it did. -/
def checkTablesSpec : ChangeSpec := { name := "checkTables", fn := fun _ => fun
  | [d1, d2] => { results := [.lit (.bool true)], args := [d1, d2] }
  | _ => none }
def checkTablesRow : OpenClaim := { program := "ytolbkaphghjeeaa", sum := "a4aee0145a6ffaf05d08dc7546cb38c983517302be2025c7afccdcb9bd5d2d6f", func := "tinker/tinkerlaw02.CheckTables", spec := "checkTables", unfollowed := true, recurses := true, apart := false }
def CheckTablesSaid : Prop := checkTablesRow.holds Try.pinned (OpenSpec.ofChange checkTablesSpec)

/-- ITS FALSE NEIGHBOUR: 'it returns false'. Refute it at one input. -/
def checkTablesWrong : ChangeSpec := { name := "checkTables", fn := fun _ => fun
  | [d1, d2] => { results := [.lit (.bool false)], args := [d1, d2] }
  | _ => none }
def CheckTablesWrongFalsely : Prop := checkTablesRow.holds Try.pinned (OpenSpec.ofChange checkTablesWrong)

/-- 'tinkerlaw02.CheckMakes': WHATEVER THE INPUT: true; the input reads as it did. -/
def checkMakesSpec : ChangeSpec := { name := "checkMakes", fn := fun _ => fun
  | [d1, d2, d3] => { results := [.lit (.bool true)], args := [d1, d2, d3] }
  | _ => none }
def checkMakesRow : OpenClaim := { program := "ytolbkaphghjeeaa", sum := "a4aee0145a6ffaf05d08dc7546cb38c983517302be2025c7afccdcb9bd5d2d6f", func := "tinker/tinkerlaw02.CheckMakes", spec := "checkMakes", unfollowed := true, recurses := true, apart := false }
def CheckMakesSaid : Prop := checkMakesRow.holds Try.pinned (OpenSpec.ofChange checkMakesSpec)

/-- ITS FALSE NEIGHBOUR: 'it returns false'. Refute it at one input. -/
def checkMakesWrong : ChangeSpec := { name := "checkMakes", fn := fun _ => fun
  | [d1, d2, d3] => { results := [.lit (.bool false)], args := [d1, d2, d3] }
  | _ => none }
def CheckMakesWrongFalsely : Prop := checkMakesRow.holds Try.pinned (OpenSpec.ofChange checkMakesWrong)

/-- 'tinkerlaw02.CheckDiffers': WHATEVER THE INPUT: true; the input reads as it did. -/
def checkDiffersSpec : ChangeSpec := { name := "checkDiffers", fn := fun _ => fun
  | [d1, d2, d3] => { results := [.lit (.bool true)], args := [d1, d2, d3] }
  | _ => none }
def checkDiffersRow : OpenClaim := { program := "ytolbkaphghjeeaa", sum := "a4aee0145a6ffaf05d08dc7546cb38c983517302be2025c7afccdcb9bd5d2d6f", func := "tinker/tinkerlaw02.CheckDiffers", spec := "checkDiffers", unfollowed := true, recurses := true, apart := false }
def CheckDiffersSaid : Prop := checkDiffersRow.holds Try.pinned (OpenSpec.ofChange checkDiffersSpec)

/-- ITS FALSE NEIGHBOUR: 'it returns false'. Refute it at one input. -/
def checkDiffersWrong : ChangeSpec := { name := "checkDiffers", fn := fun _ => fun
  | [d1, d2, d3] => { results := [.lit (.bool false)], args := [d1, d2, d3] }
  | _ => none }
def CheckDiffersWrongFalsely : Prop := checkDiffersRow.holds Try.pinned (OpenSpec.ofChange checkDiffersWrong)

/-- 'tinkerlaw02.CheckFirsts': WHATEVER THE INPUT: true; the input reads as it did. -/
def checkFirstsSpec : ChangeSpec := { name := "checkFirsts", fn := fun _ => fun
  | [d1, d2] => { results := [.lit (.bool true)], args := [d1, d2] }
  | _ => none }
def checkFirstsRow : OpenClaim := { program := "ytolbkaphghjeeaa", sum := "a4aee0145a6ffaf05d08dc7546cb38c983517302be2025c7afccdcb9bd5d2d6f", func := "tinker/tinkerlaw02.CheckFirsts", spec := "checkFirsts", unfollowed := true, recurses := true, apart := false }
def CheckFirstsSaid : Prop := checkFirstsRow.holds Try.pinned (OpenSpec.ofChange checkFirstsSpec)

/-- ITS FALSE NEIGHBOUR: 'it returns false'. Refute it at one input. -/
def checkFirstsWrong : ChangeSpec := { name := "checkFirsts", fn := fun _ => fun
  | [d1, d2] => { results := [.lit (.bool false)], args := [d1, d2] }
  | _ => none }
def CheckFirstsWrongFalsely : Prop := checkFirstsRow.holds Try.pinned (OpenSpec.ofChange checkFirstsWrong)

/-- 'tinkerlaw02.CheckWitness': WHATEVER THE INPUT: true; the input reads as it did. -/
def checkWitnessSpec : ChangeSpec := { name := "checkWitness", fn := fun _ => fun
  | [d1, d2, d3] => { results := [.lit (.bool true)], args := [d1, d2, d3] }
  | _ => none }
def checkWitnessRow : OpenClaim := { program := "ytolbkaphghjeeaa", sum := "a4aee0145a6ffaf05d08dc7546cb38c983517302be2025c7afccdcb9bd5d2d6f", func := "tinker/tinkerlaw02.CheckWitness", spec := "checkWitness", unfollowed := true, recurses := true, apart := false }
def CheckWitnessSaid : Prop := checkWitnessRow.holds Try.pinned (OpenSpec.ofChange checkWitnessSpec)

/-- ITS FALSE NEIGHBOUR: 'it returns false'. Refute it at one input. -/
def checkWitnessWrong : ChangeSpec := { name := "checkWitness", fn := fun _ => fun
  | [d1, d2, d3] => { results := [.lit (.bool false)], args := [d1, d2, d3] }
  | _ => none }
def CheckWitnessWrongFalsely : Prop := checkWitnessRow.holds Try.pinned (OpenSpec.ofChange checkWitnessWrong)

/-- 'tinkerlaw02.CheckExtremes': WHATEVER THE INPUT: true; the input reads as it did. -/
def checkExtremesSpec : ChangeSpec := { name := "checkExtremes", fn := fun _ => fun
  | [d1, d2] => { results := [.lit (.bool true)], args := [d1, d2] }
  | _ => none }
def checkExtremesRow : OpenClaim := { program := "ytolbkaphghjeeaa", sum := "a4aee0145a6ffaf05d08dc7546cb38c983517302be2025c7afccdcb9bd5d2d6f", func := "tinker/tinkerlaw02.CheckExtremes", spec := "checkExtremes", unfollowed := true, recurses := true, apart := false }
def CheckExtremesSaid : Prop := checkExtremesRow.holds Try.pinned (OpenSpec.ofChange checkExtremesSpec)

/-- ITS FALSE NEIGHBOUR: 'it returns false'. Refute it at one input. -/
def checkExtremesWrong : ChangeSpec := { name := "checkExtremes", fn := fun _ => fun
  | [d1, d2] => { results := [.lit (.bool false)], args := [d1, d2] }
  | _ => none }
def CheckExtremesWrongFalsely : Prop := checkExtremesRow.holds Try.pinned (OpenSpec.ofChange checkExtremesWrong)

/-- 'tinkerlaw02.CheckKeeps': WHATEVER THE INPUT: true; the input reads as it did. -/
def checkKeepsSpec : ChangeSpec := { name := "checkKeeps", fn := fun _ => fun
  | [d1, d2] => { results := [.lit (.bool true)], args := [d1, d2] }
  | _ => none }
def checkKeepsRow : OpenClaim := { program := "ytolbkaphghjeeaa", sum := "a4aee0145a6ffaf05d08dc7546cb38c983517302be2025c7afccdcb9bd5d2d6f", func := "tinker/tinkerlaw02.CheckKeeps", spec := "checkKeeps", unfollowed := true, recurses := true, apart := false }
def CheckKeepsSaid : Prop := checkKeepsRow.holds Try.pinned (OpenSpec.ofChange checkKeepsSpec)

/-- ITS FALSE NEIGHBOUR: 'it returns false'. Refute it at one input. -/
def checkKeepsWrong : ChangeSpec := { name := "checkKeeps", fn := fun _ => fun
  | [d1, d2] => { results := [.lit (.bool false)], args := [d1, d2] }
  | _ => none }
def CheckKeepsWrongFalsely : Prop := checkKeepsRow.holds Try.pinned (OpenSpec.ofChange checkKeepsWrong)

/-- 'tinkerlaw02.CheckRanks': WHATEVER THE INPUT: true; the input reads as it did. -/
def checkRanksSpec : ChangeSpec := { name := "checkRanks", fn := fun _ => fun
  | [d1, d2] => { results := [.lit (.bool true)], args := [d1, d2] }
  | _ => none }
def checkRanksRow : OpenClaim := { program := "ytolbkaphghjeeaa", sum := "a4aee0145a6ffaf05d08dc7546cb38c983517302be2025c7afccdcb9bd5d2d6f", func := "tinker/tinkerlaw02.CheckRanks", spec := "checkRanks", unfollowed := true, recurses := true, apart := false }
def CheckRanksSaid : Prop := checkRanksRow.holds Try.pinned (OpenSpec.ofChange checkRanksSpec)

/-- ITS FALSE NEIGHBOUR: 'it returns false'. Refute it at one input. -/
def checkRanksWrong : ChangeSpec := { name := "checkRanks", fn := fun _ => fun
  | [d1, d2] => { results := [.lit (.bool false)], args := [d1, d2] }
  | _ => none }
def CheckRanksWrongFalsely : Prop := checkRanksRow.holds Try.pinned (OpenSpec.ofChange checkRanksWrong)

/- THE SECOND FORM. 'bulk': how many values and letters a reading holds, each counted each time it is reached (what is shared counts as often as it is met; a slice's spare places count too). A statement '..UptoSaid' is the law's where the arguments, and the package variables that the reading takes, are together of bulk at most 1048576: NARROWER than '..Said'. Prove '..Said' where nothing that the law and all that it calls make is longer than what came in: it says more and counts as full. Else prove '..UptoSaid'. A law counts once. -/
mutual
def uptoBulk {H : Type} : DataW H → Nat
  | .lit (.string bytes) => bytes.length + 1
  | .lit _ => 1
  | .nil => 1
  | .ptr d => uptoBulk d + 1
  | .slice elems spare => uptoBulkAll elems + uptoBulkAll spare + 1
  | .agg parts => uptoBulkAll parts + 1
  | .iface _ d => uptoBulk d + 1
  | .map entries => uptoBulkEntries entries + 1
  | .held _ => 1
def uptoBulkAll {H : Type} : List (DataW H) → Nat
  | [] => 0
  | d :: r => uptoBulk d + uptoBulkAll r
def uptoBulkEntries {H : Type} : List (Lit × DataW H) → Nat
  | [] => 0
  | x :: r => uptoBulkEntry x + uptoBulkEntries r
def uptoBulkEntry {H : Type} : Lit × DataW H → Nat
  | (.string bytes, d) => bytes.length + uptoBulk d + 1
  | (_, d) => uptoBulk d + 1
 end
def uptoSmall : (H : Type) → List (DataW H) → Bool := fun _ ds => decide (uptoBulkAll ds ≤ 1048576)
def OpenSpec.upto (s : _root_.Go.ChangeSpec) : _root_.Go.OpenSpec := { _root_.Go.OpenSpec.ofChange s with cond := some uptoSmall }

/-- 'tinkerlaw02.CheckScores', WHERE WHAT IT READS IS OF BULK AT MOST 1048576: true; the input reads as it did. -/
def checkScoresUptoRow : OpenClaim := { program := "ytolbkaphghjeeaa", sum := "a4aee0145a6ffaf05d08dc7546cb38c983517302be2025c7afccdcb9bd5d2d6f", func := "tinker/tinkerlaw02.CheckScores", spec := "checkScores", unfollowed := true, recurses := true, apart := false, narrowed := true }
def CheckScoresUptoSaid : Prop := checkScoresUptoRow.holds Try.pinned (OpenSpec.upto checkScoresSpec)

/-- 'tinkerlaw02.CheckBoxes', WHERE WHAT IT READS IS OF BULK AT MOST 1048576: true; the input reads as it did. -/
def checkBoxesUptoRow : OpenClaim := { program := "ytolbkaphghjeeaa", sum := "a4aee0145a6ffaf05d08dc7546cb38c983517302be2025c7afccdcb9bd5d2d6f", func := "tinker/tinkerlaw02.CheckBoxes", spec := "checkBoxes", unfollowed := true, recurses := true, apart := false, narrowed := true }
def CheckBoxesUptoSaid : Prop := checkBoxesUptoRow.holds Try.pinned (OpenSpec.upto checkBoxesSpec)

/-- 'tinkerlaw02.CheckPasses', WHERE WHAT IT READS IS OF BULK AT MOST 1048576: true; the input reads as it did. -/
def checkPassesUptoRow : OpenClaim := { program := "ytolbkaphghjeeaa", sum := "a4aee0145a6ffaf05d08dc7546cb38c983517302be2025c7afccdcb9bd5d2d6f", func := "tinker/tinkerlaw02.CheckPasses", spec := "checkPasses", unfollowed := true, recurses := true, apart := false, narrowed := true }
def CheckPassesUptoSaid : Prop := checkPassesUptoRow.holds Try.pinned (OpenSpec.upto checkPassesSpec)

/-- 'tinkerlaw02.CheckTells', WHERE WHAT IT READS IS OF BULK AT MOST 1048576: true; the input reads as it did. -/
def checkTellsUptoRow : OpenClaim := { program := "ytolbkaphghjeeaa", sum := "a4aee0145a6ffaf05d08dc7546cb38c983517302be2025c7afccdcb9bd5d2d6f", func := "tinker/tinkerlaw02.CheckTells", spec := "checkTells", unfollowed := true, recurses := true, apart := false, narrowed := true }
def CheckTellsUptoSaid : Prop := checkTellsUptoRow.holds Try.pinned (OpenSpec.upto checkTellsSpec)

/-- 'tinkerlaw02.CheckPassing', WHERE WHAT IT READS IS OF BULK AT MOST 1048576: true; the input reads as it did. -/
def checkPassingUptoRow : OpenClaim := { program := "ytolbkaphghjeeaa", sum := "a4aee0145a6ffaf05d08dc7546cb38c983517302be2025c7afccdcb9bd5d2d6f", func := "tinker/tinkerlaw02.CheckPassing", spec := "checkPassing", unfollowed := true, recurses := true, apart := false, narrowed := true }
def CheckPassingUptoSaid : Prop := checkPassingUptoRow.holds Try.pinned (OpenSpec.upto checkPassingSpec)

/-- 'tinkerlaw02.CheckTables', WHERE WHAT IT READS IS OF BULK AT MOST 1048576: true; the input reads as it did. -/
def checkTablesUptoRow : OpenClaim := { program := "ytolbkaphghjeeaa", sum := "a4aee0145a6ffaf05d08dc7546cb38c983517302be2025c7afccdcb9bd5d2d6f", func := "tinker/tinkerlaw02.CheckTables", spec := "checkTables", unfollowed := true, recurses := true, apart := false, narrowed := true }
def CheckTablesUptoSaid : Prop := checkTablesUptoRow.holds Try.pinned (OpenSpec.upto checkTablesSpec)

/-- 'tinkerlaw02.CheckMakes', WHERE WHAT IT READS IS OF BULK AT MOST 1048576: true; the input reads as it did. -/
def checkMakesUptoRow : OpenClaim := { program := "ytolbkaphghjeeaa", sum := "a4aee0145a6ffaf05d08dc7546cb38c983517302be2025c7afccdcb9bd5d2d6f", func := "tinker/tinkerlaw02.CheckMakes", spec := "checkMakes", unfollowed := true, recurses := true, apart := false, narrowed := true }
def CheckMakesUptoSaid : Prop := checkMakesUptoRow.holds Try.pinned (OpenSpec.upto checkMakesSpec)

/-- 'tinkerlaw02.CheckDiffers', WHERE WHAT IT READS IS OF BULK AT MOST 1048576: true; the input reads as it did. -/
def checkDiffersUptoRow : OpenClaim := { program := "ytolbkaphghjeeaa", sum := "a4aee0145a6ffaf05d08dc7546cb38c983517302be2025c7afccdcb9bd5d2d6f", func := "tinker/tinkerlaw02.CheckDiffers", spec := "checkDiffers", unfollowed := true, recurses := true, apart := false, narrowed := true }
def CheckDiffersUptoSaid : Prop := checkDiffersUptoRow.holds Try.pinned (OpenSpec.upto checkDiffersSpec)

/-- 'tinkerlaw02.CheckFirsts', WHERE WHAT IT READS IS OF BULK AT MOST 1048576: true; the input reads as it did. -/
def checkFirstsUptoRow : OpenClaim := { program := "ytolbkaphghjeeaa", sum := "a4aee0145a6ffaf05d08dc7546cb38c983517302be2025c7afccdcb9bd5d2d6f", func := "tinker/tinkerlaw02.CheckFirsts", spec := "checkFirsts", unfollowed := true, recurses := true, apart := false, narrowed := true }
def CheckFirstsUptoSaid : Prop := checkFirstsUptoRow.holds Try.pinned (OpenSpec.upto checkFirstsSpec)

/-- 'tinkerlaw02.CheckWitness', WHERE WHAT IT READS IS OF BULK AT MOST 1048576: true; the input reads as it did. -/
def checkWitnessUptoRow : OpenClaim := { program := "ytolbkaphghjeeaa", sum := "a4aee0145a6ffaf05d08dc7546cb38c983517302be2025c7afccdcb9bd5d2d6f", func := "tinker/tinkerlaw02.CheckWitness", spec := "checkWitness", unfollowed := true, recurses := true, apart := false, narrowed := true }
def CheckWitnessUptoSaid : Prop := checkWitnessUptoRow.holds Try.pinned (OpenSpec.upto checkWitnessSpec)

/-- 'tinkerlaw02.CheckExtremes', WHERE WHAT IT READS IS OF BULK AT MOST 1048576: true; the input reads as it did. -/
def checkExtremesUptoRow : OpenClaim := { program := "ytolbkaphghjeeaa", sum := "a4aee0145a6ffaf05d08dc7546cb38c983517302be2025c7afccdcb9bd5d2d6f", func := "tinker/tinkerlaw02.CheckExtremes", spec := "checkExtremes", unfollowed := true, recurses := true, apart := false, narrowed := true }
def CheckExtremesUptoSaid : Prop := checkExtremesUptoRow.holds Try.pinned (OpenSpec.upto checkExtremesSpec)

/-- 'tinkerlaw02.CheckKeeps', WHERE WHAT IT READS IS OF BULK AT MOST 1048576: true; the input reads as it did. -/
def checkKeepsUptoRow : OpenClaim := { program := "ytolbkaphghjeeaa", sum := "a4aee0145a6ffaf05d08dc7546cb38c983517302be2025c7afccdcb9bd5d2d6f", func := "tinker/tinkerlaw02.CheckKeeps", spec := "checkKeeps", unfollowed := true, recurses := true, apart := false, narrowed := true }
def CheckKeepsUptoSaid : Prop := checkKeepsUptoRow.holds Try.pinned (OpenSpec.upto checkKeepsSpec)

/-- 'tinkerlaw02.CheckRanks', WHERE WHAT IT READS IS OF BULK AT MOST 1048576: true; the input reads as it did. -/
def checkRanksUptoRow : OpenClaim := { program := "ytolbkaphghjeeaa", sum := "a4aee0145a6ffaf05d08dc7546cb38c983517302be2025c7afccdcb9bd5d2d6f", func := "tinker/tinkerlaw02.CheckRanks", spec := "checkRanks", unfollowed := true, recurses := true, apart := false, narrowed := true }
def CheckRanksUptoSaid : Prop := checkRanksUptoRow.holds Try.pinned (OpenSpec.upto checkRanksSpec)

end Rows
end Go.Proofs.Ytolbkaphghjeeaa
