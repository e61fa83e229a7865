/-
  No cell of these rows narrows 'for every input' (looked for: loops, veiled, ifaces, maps, wideKeys, modest, calm, conditions, laid).
  DERIVED. THE GIVEN ROWS OF THIS SEAT. 12 by the template 'for every input the law returns true; each argument reads behind the call as it read before'; 0 by the template 'total and deterministic' (their statements: YtjimjngkeaaifaaGreatTotals.lean).
  GIVEN WITH THE SEED: the statements are not yours to turn. If you find one false, say at which input.
  Laid BY PROGRAM, IN A SANDBOX (cutbox-rows.mjs): the forced cells as the released guide's own fill.sh prints them over the translation 6db84e4188c985ef… (all of the seat's roots in one cut). By AI agents, Wed Nov 11 2026. No macro, syntax, notation, axiom, sorry.
-/
import Derived.Test.YtjimjngkeaaifaaGreatChecked
import GoSem.Claim
import GoSem.ClaimJoined
import GoSem.ClaimMapViews
import Derived.JoinedTies
import Derived.KernelRfl
namespace Go.Proofs.YtjimjngkeaaifaaGreat
/- THE CELL 'sum', in the pinned program and in every row, IS THE sha256 OF THE DUMP (.gsa) THAT YtjimjngkeaaifaaGreatProg.lean LOADS. Nothing in Lean hashes anything: it is a label: what it is worth is what the hold of that sum in a sandbox is worth. -/
noncomputable def Tryz.pinned : Pinned := { name := "ytjimjngkeaaifaagreat", sum := "6db84e4188c985efecf9321c5f1b9b7102420d90a1352ba92d53e021a326074f", checked := Tryz.checked }
namespace Rows
def none {H : Type} : Left H := { results := [], args := [] }

/-- 'tinkerlaw04.PatchDoes': WHATEVER THE INPUT: true; the input reads as it did. -/
def patchDoesSpec : ChangeSpec := { name := "patchDoes", fn := fun _ => fun
  | [d1, d2] => { results := [.lit (.bool true)], args := [d1, d2] }
  | _ => none }
def patchDoesRow : OpenClaim := { program := "ytjimjngkeaaifaagreat", sum := "6db84e4188c985efecf9321c5f1b9b7102420d90a1352ba92d53e021a326074f", func := "tinker/tinkerlaw04.PatchDoes", spec := "patchDoes", unfollowed := true, recurses := true, apart := false }
def PatchDoesSaid : Prop := patchDoesRow.holds Tryz.pinned (OpenSpec.ofChange patchDoesSpec)

/-- ITS FALSE NEIGHBOUR: 'it returns false'. Refute it at one input. -/
def patchDoesWrong : ChangeSpec := { name := "patchDoes", fn := fun _ => fun
  | [d1, d2] => { results := [.lit (.bool false)], args := [d1, d2] }
  | _ => none }
def PatchDoesWrongFalsely : Prop := patchDoesRow.holds Tryz.pinned (OpenSpec.ofChange patchDoesWrong)

/-- 'tinkerlaw04.PatchUndoes': WHATEVER THE INPUT: true; the input reads as it did. -/
def patchUndoesSpec : ChangeSpec := { name := "patchUndoes", fn := fun _ => fun
  | [d1, d2] => { results := [.lit (.bool true)], args := [d1, d2] }
  | _ => none }
def patchUndoesRow : OpenClaim := { program := "ytjimjngkeaaifaagreat", sum := "6db84e4188c985efecf9321c5f1b9b7102420d90a1352ba92d53e021a326074f", func := "tinker/tinkerlaw04.PatchUndoes", spec := "patchUndoes", unfollowed := true, recurses := true, apart := false }
def PatchUndoesSaid : Prop := patchUndoesRow.holds Tryz.pinned (OpenSpec.ofChange patchUndoesSpec)

/-- ITS FALSE NEIGHBOUR: 'it returns false'. Refute it at one input. -/
def patchUndoesWrong : ChangeSpec := { name := "patchUndoes", fn := fun _ => fun
  | [d1, d2] => { results := [.lit (.bool false)], args := [d1, d2] }
  | _ => none }
def PatchUndoesWrongFalsely : Prop := patchUndoesRow.holds Tryz.pinned (OpenSpec.ofChange patchUndoesWrong)

/-- 'tinkerlaw04.PatchSmallest': WHATEVER THE INPUT: true; the input reads as it did. -/
def patchSmallestSpec : ChangeSpec := { name := "patchSmallest", fn := fun _ => fun
  | [d1, d2, d3] => { results := [.lit (.bool true)], args := [d1, d2, d3] }
  | _ => none }
def patchSmallestRow : OpenClaim := { program := "ytjimjngkeaaifaagreat", sum := "6db84e4188c985efecf9321c5f1b9b7102420d90a1352ba92d53e021a326074f", func := "tinker/tinkerlaw04.PatchSmallest", spec := "patchSmallest", unfollowed := true, recurses := true, apart := false }
def PatchSmallestSaid : Prop := patchSmallestRow.holds Tryz.pinned (OpenSpec.ofChange patchSmallestSpec)

/-- ITS FALSE NEIGHBOUR: 'it returns false'. Refute it at one input. -/
def patchSmallestWrong : ChangeSpec := { name := "patchSmallest", fn := fun _ => fun
  | [d1, d2, d3] => { results := [.lit (.bool false)], args := [d1, d2, d3] }
  | _ => none }
def PatchSmallestWrongFalsely : Prop := patchSmallestRow.holds Tryz.pinned (OpenSpec.ofChange patchSmallestWrong)

/-- 'tinkerlaw04.PatchMerges': WHATEVER THE INPUT: true; the input reads as it did. -/
def patchMergesSpec : ChangeSpec := { name := "patchMerges", fn := fun _ => fun
  | [d1, d2] => { results := [.lit (.bool true)], args := [d1, d2] }
  | _ => none }
def patchMergesRow : OpenClaim := { program := "ytjimjngkeaaifaagreat", sum := "6db84e4188c985efecf9321c5f1b9b7102420d90a1352ba92d53e021a326074f", func := "tinker/tinkerlaw04.PatchMerges", spec := "patchMerges", unfollowed := true, recurses := true, apart := false }
def PatchMergesSaid : Prop := patchMergesRow.holds Tryz.pinned (OpenSpec.ofChange patchMergesSpec)

/-- ITS FALSE NEIGHBOUR: 'it returns false'. Refute it at one input. -/
def patchMergesWrong : ChangeSpec := { name := "patchMerges", fn := fun _ => fun
  | [d1, d2] => { results := [.lit (.bool false)], args := [d1, d2] }
  | _ => none }
def PatchMergesWrongFalsely : Prop := patchMergesRow.holds Tryz.pinned (OpenSpec.ofChange patchMergesWrong)

/-- 'tinkerlaw04.PatchSizes': WHATEVER THE INPUT: true; the input reads as it did. -/
def patchSizesSpec : ChangeSpec := { name := "patchSizes", fn := fun _ => fun
  | [d1, d2] => { results := [.lit (.bool true)], args := [d1, d2] }
  | _ => none }
def patchSizesRow : OpenClaim := { program := "ytjimjngkeaaifaagreat", sum := "6db84e4188c985efecf9321c5f1b9b7102420d90a1352ba92d53e021a326074f", func := "tinker/tinkerlaw04.PatchSizes", spec := "patchSizes", unfollowed := true, recurses := true, apart := false }
def PatchSizesSaid : Prop := patchSizesRow.holds Tryz.pinned (OpenSpec.ofChange patchSizesSpec)

/-- ITS FALSE NEIGHBOUR: 'it returns false'. Refute it at one input. -/
def patchSizesWrong : ChangeSpec := { name := "patchSizes", fn := fun _ => fun
  | [d1, d2] => { results := [.lit (.bool false)], args := [d1, d2] }
  | _ => none }
def PatchSizesWrongFalsely : Prop := patchSizesRow.holds Tryz.pinned (OpenSpec.ofChange patchSizesWrong)

/-- 'tinkerlaw04.PatchThen': WHATEVER THE INPUT: true; the input reads as it did. -/
def patchThenSpec : ChangeSpec := { name := "patchThen", fn := fun _ => fun
  | [d1, d2, d3] => { results := [.lit (.bool true)], args := [d1, d2, d3] }
  | _ => none }
def patchThenRow : OpenClaim := { program := "ytjimjngkeaaifaagreat", sum := "6db84e4188c985efecf9321c5f1b9b7102420d90a1352ba92d53e021a326074f", func := "tinker/tinkerlaw04.PatchThen", spec := "patchThen", unfollowed := true, recurses := true, apart := false }
def PatchThenSaid : Prop := patchThenRow.holds Tryz.pinned (OpenSpec.ofChange patchThenSpec)

/-- ITS FALSE NEIGHBOUR: 'it returns false'. Refute it at one input. -/
def patchThenWrong : ChangeSpec := { name := "patchThen", fn := fun _ => fun
  | [d1, d2, d3] => { results := [.lit (.bool false)], args := [d1, d2, d3] }
  | _ => none }
def PatchThenWrongFalsely : Prop := patchThenRow.holds Tryz.pinned (OpenSpec.ofChange patchThenWrong)

/-- 'tinkerlaw04.PatchThrees': WHATEVER THE INPUT: true; the input reads as it did. -/
def patchThreesSpec : ChangeSpec := { name := "patchThrees", fn := fun _ => fun
  | [d1, d2, d3] => { results := [.lit (.bool true)], args := [d1, d2, d3] }
  | _ => none }
def patchThreesRow : OpenClaim := { program := "ytjimjngkeaaifaagreat", sum := "6db84e4188c985efecf9321c5f1b9b7102420d90a1352ba92d53e021a326074f", func := "tinker/tinkerlaw04.PatchThrees", spec := "patchThrees", unfollowed := true, recurses := true, apart := false }
def PatchThreesSaid : Prop := patchThreesRow.holds Tryz.pinned (OpenSpec.ofChange patchThreesSpec)

/-- ITS FALSE NEIGHBOUR: 'it returns false'. Refute it at one input. -/
def patchThreesWrong : ChangeSpec := { name := "patchThrees", fn := fun _ => fun
  | [d1, d2, d3] => { results := [.lit (.bool false)], args := [d1, d2, d3] }
  | _ => none }
def PatchThreesWrongFalsely : Prop := patchThreesRow.holds Tryz.pinned (OpenSpec.ofChange patchThreesWrong)

/-- 'tinkerlaw04.PatchDiffers': WHATEVER THE INPUT: true; the input reads as it did. -/
def patchDiffersSpec : ChangeSpec := { name := "patchDiffers", fn := fun _ => fun
  | [d1, d2] => { results := [.lit (.bool true)], args := [d1, d2] }
  | _ => none }
def patchDiffersRow : OpenClaim := { program := "ytjimjngkeaaifaagreat", sum := "6db84e4188c985efecf9321c5f1b9b7102420d90a1352ba92d53e021a326074f", func := "tinker/tinkerlaw04.PatchDiffers", spec := "patchDiffers", unfollowed := true, recurses := true, apart := false }
def PatchDiffersSaid : Prop := patchDiffersRow.holds Tryz.pinned (OpenSpec.ofChange patchDiffersSpec)

/-- ITS FALSE NEIGHBOUR: 'it returns false'. Refute it at one input. -/
def patchDiffersWrong : ChangeSpec := { name := "patchDiffers", fn := fun _ => fun
  | [d1, d2] => { results := [.lit (.bool false)], args := [d1, d2] }
  | _ => none }
def PatchDiffersWrongFalsely : Prop := patchDiffersRow.holds Tryz.pinned (OpenSpec.ofChange patchDiffersWrong)

/-- 'tinkerlaw04.PatchKeeps': WHATEVER THE INPUT: true; the input reads as it did. -/
def patchKeepsSpec : ChangeSpec := { name := "patchKeeps", fn := fun _ => fun
  | [d1, d2] => { results := [.lit (.bool true)], args := [d1, d2] }
  | _ => none }
def patchKeepsRow : OpenClaim := { program := "ytjimjngkeaaifaagreat", sum := "6db84e4188c985efecf9321c5f1b9b7102420d90a1352ba92d53e021a326074f", func := "tinker/tinkerlaw04.PatchKeeps", spec := "patchKeeps", unfollowed := true, recurses := true, apart := false }
def PatchKeepsSaid : Prop := patchKeepsRow.holds Tryz.pinned (OpenSpec.ofChange patchKeepsSpec)

/-- ITS FALSE NEIGHBOUR: 'it returns false'. Refute it at one input. -/
def patchKeepsWrong : ChangeSpec := { name := "patchKeeps", fn := fun _ => fun
  | [d1, d2] => { results := [.lit (.bool false)], args := [d1, d2] }
  | _ => none }
def PatchKeepsWrongFalsely : Prop := patchKeepsRow.holds Tryz.pinned (OpenSpec.ofChange patchKeepsWrong)

/-- 'tinkerlaw04.PatchFixes': WHATEVER THE INPUT: true; the input reads as it did. -/
def patchFixesSpec : ChangeSpec := { name := "patchFixes", fn := fun _ => fun
  | [d1, d2, d3] => { results := [.lit (.bool true)], args := [d1, d2, d3] }
  | _ => none }
def patchFixesRow : OpenClaim := { program := "ytjimjngkeaaifaagreat", sum := "6db84e4188c985efecf9321c5f1b9b7102420d90a1352ba92d53e021a326074f", func := "tinker/tinkerlaw04.PatchFixes", spec := "patchFixes", unfollowed := true, recurses := true, apart := false }
def PatchFixesSaid : Prop := patchFixesRow.holds Tryz.pinned (OpenSpec.ofChange patchFixesSpec)

/-- ITS FALSE NEIGHBOUR: 'it returns false'. Refute it at one input. -/
def patchFixesWrong : ChangeSpec := { name := "patchFixes", fn := fun _ => fun
  | [d1, d2, d3] => { results := [.lit (.bool false)], args := [d1, d2, d3] }
  | _ => none }
def PatchFixesWrongFalsely : Prop := patchFixesRow.holds Tryz.pinned (OpenSpec.ofChange patchFixesWrong)

/-- 'tinkerlaw04.PatchGood': WHATEVER THE INPUT: true; the input reads as it did. -/
def patchGoodSpec : ChangeSpec := { name := "patchGood", fn := fun _ => fun
  | [d1, d2, d3] => { results := [.lit (.bool true)], args := [d1, d2, d3] }
  | _ => none }
def patchGoodRow : OpenClaim := { program := "ytjimjngkeaaifaagreat", sum := "6db84e4188c985efecf9321c5f1b9b7102420d90a1352ba92d53e021a326074f", func := "tinker/tinkerlaw04.PatchGood", spec := "patchGood", unfollowed := true, recurses := true, apart := false }
def PatchGoodSaid : Prop := patchGoodRow.holds Tryz.pinned (OpenSpec.ofChange patchGoodSpec)

/-- ITS FALSE NEIGHBOUR: 'it returns false'. Refute it at one input. -/
def patchGoodWrong : ChangeSpec := { name := "patchGood", fn := fun _ => fun
  | [d1, d2, d3] => { results := [.lit (.bool false)], args := [d1, d2, d3] }
  | _ => none }
def PatchGoodWrongFalsely : Prop := patchGoodRow.holds Tryz.pinned (OpenSpec.ofChange patchGoodWrong)

/-- 'tinkerlaw04.PatchReduces': WHATEVER THE INPUT: true; the input reads as it did. -/
def patchReducesSpec : ChangeSpec := { name := "patchReduces", fn := fun _ => fun
  | [d1, d2, d3] => { results := [.lit (.bool true)], args := [d1, d2, d3] }
  | _ => none }
def patchReducesRow : OpenClaim := { program := "ytjimjngkeaaifaagreat", sum := "6db84e4188c985efecf9321c5f1b9b7102420d90a1352ba92d53e021a326074f", func := "tinker/tinkerlaw04.PatchReduces", spec := "patchReduces", unfollowed := true, recurses := true, apart := false }
def PatchReducesSaid : Prop := patchReducesRow.holds Tryz.pinned (OpenSpec.ofChange patchReducesSpec)

/-- ITS FALSE NEIGHBOUR: 'it returns false'. Refute it at one input. -/
def patchReducesWrong : ChangeSpec := { name := "patchReduces", fn := fun _ => fun
  | [d1, d2, d3] => { results := [.lit (.bool false)], args := [d1, d2, d3] }
  | _ => none }
def PatchReducesWrongFalsely : Prop := patchReducesRow.holds Tryz.pinned (OpenSpec.ofChange patchReducesWrong)

/- THE SECOND FORM. 'bulk': how many values and letters a reading holds, each counted each time it is reached (what is shared counts as often as it is met; a slice's spare places count too). A statement '..UptoSaid' is the law's where the arguments, and the package variables that the reading takes, are together of bulk at most 1048576: NARROWER than '..Said'. Prove '..Said' where nothing that the law and all that it calls make is longer than what came in: it says more and counts as full. Else prove '..UptoSaid'. A law counts once. -/
mutual
def uptoBulk {H : Type} : DataW H → Nat
  | .lit (.string bytes) => bytes.length + 1
  | .lit _ => 1
  | .nil => 1
  | .ptr d => uptoBulk d + 1
  | .slice elems spare => uptoBulkAll elems + uptoBulkAll spare + 1
  | .agg parts => uptoBulkAll parts + 1
  | .iface _ d => uptoBulk d + 1
  | .map entries => uptoBulkEntries entries + 1
  | .held _ => 1
def uptoBulkAll {H : Type} : List (DataW H) → Nat
  | [] => 0
  | d :: r => uptoBulk d + uptoBulkAll r
def uptoBulkEntries {H : Type} : List (Lit × DataW H) → Nat
  | [] => 0
  | x :: r => uptoBulkEntry x + uptoBulkEntries r
def uptoBulkEntry {H : Type} : Lit × DataW H → Nat
  | (.string bytes, d) => bytes.length + uptoBulk d + 1
  | (_, d) => uptoBulk d + 1
 end
def uptoSmall : (H : Type) → List (DataW H) → Bool := fun _ ds => decide (uptoBulkAll ds ≤ 1048576)
def OpenSpec.upto (s : _root_.Go.ChangeSpec) : _root_.Go.OpenSpec := { _root_.Go.OpenSpec.ofChange s with cond := some uptoSmall }

/-- 'tinkerlaw04.PatchDoes', WHERE WHAT IT READS IS OF BULK AT MOST 1048576: true; the input reads as it did. -/
def patchDoesUptoRow : OpenClaim := { program := "ytjimjngkeaaifaagreat", sum := "6db84e4188c985efecf9321c5f1b9b7102420d90a1352ba92d53e021a326074f", func := "tinker/tinkerlaw04.PatchDoes", spec := "patchDoes", unfollowed := true, recurses := true, apart := false, narrowed := true }
def PatchDoesUptoSaid : Prop := patchDoesUptoRow.holds Tryz.pinned (OpenSpec.upto patchDoesSpec)

/-- 'tinkerlaw04.PatchUndoes', WHERE WHAT IT READS IS OF BULK AT MOST 1048576: true; the input reads as it did. -/
def patchUndoesUptoRow : OpenClaim := { program := "ytjimjngkeaaifaagreat", sum := "6db84e4188c985efecf9321c5f1b9b7102420d90a1352ba92d53e021a326074f", func := "tinker/tinkerlaw04.PatchUndoes", spec := "patchUndoes", unfollowed := true, recurses := true, apart := false, narrowed := true }
def PatchUndoesUptoSaid : Prop := patchUndoesUptoRow.holds Tryz.pinned (OpenSpec.upto patchUndoesSpec)

/-- 'tinkerlaw04.PatchSmallest', WHERE WHAT IT READS IS OF BULK AT MOST 1048576: true; the input reads as it did. -/
def patchSmallestUptoRow : OpenClaim := { program := "ytjimjngkeaaifaagreat", sum := "6db84e4188c985efecf9321c5f1b9b7102420d90a1352ba92d53e021a326074f", func := "tinker/tinkerlaw04.PatchSmallest", spec := "patchSmallest", unfollowed := true, recurses := true, apart := false, narrowed := true }
def PatchSmallestUptoSaid : Prop := patchSmallestUptoRow.holds Tryz.pinned (OpenSpec.upto patchSmallestSpec)

/-- 'tinkerlaw04.PatchMerges', WHERE WHAT IT READS IS OF BULK AT MOST 1048576: true; the input reads as it did. -/
def patchMergesUptoRow : OpenClaim := { program := "ytjimjngkeaaifaagreat", sum := "6db84e4188c985efecf9321c5f1b9b7102420d90a1352ba92d53e021a326074f", func := "tinker/tinkerlaw04.PatchMerges", spec := "patchMerges", unfollowed := true, recurses := true, apart := false, narrowed := true }
def PatchMergesUptoSaid : Prop := patchMergesUptoRow.holds Tryz.pinned (OpenSpec.upto patchMergesSpec)

/-- 'tinkerlaw04.PatchSizes', WHERE WHAT IT READS IS OF BULK AT MOST 1048576: true; the input reads as it did. -/
def patchSizesUptoRow : OpenClaim := { program := "ytjimjngkeaaifaagreat", sum := "6db84e4188c985efecf9321c5f1b9b7102420d90a1352ba92d53e021a326074f", func := "tinker/tinkerlaw04.PatchSizes", spec := "patchSizes", unfollowed := true, recurses := true, apart := false, narrowed := true }
def PatchSizesUptoSaid : Prop := patchSizesUptoRow.holds Tryz.pinned (OpenSpec.upto patchSizesSpec)

/-- 'tinkerlaw04.PatchThen', WHERE WHAT IT READS IS OF BULK AT MOST 1048576: true; the input reads as it did. -/
def patchThenUptoRow : OpenClaim := { program := "ytjimjngkeaaifaagreat", sum := "6db84e4188c985efecf9321c5f1b9b7102420d90a1352ba92d53e021a326074f", func := "tinker/tinkerlaw04.PatchThen", spec := "patchThen", unfollowed := true, recurses := true, apart := false, narrowed := true }
def PatchThenUptoSaid : Prop := patchThenUptoRow.holds Tryz.pinned (OpenSpec.upto patchThenSpec)

/-- 'tinkerlaw04.PatchThrees', WHERE WHAT IT READS IS OF BULK AT MOST 1048576: true; the input reads as it did. -/
def patchThreesUptoRow : OpenClaim := { program := "ytjimjngkeaaifaagreat", sum := "6db84e4188c985efecf9321c5f1b9b7102420d90a1352ba92d53e021a326074f", func := "tinker/tinkerlaw04.PatchThrees", spec := "patchThrees", unfollowed := true, recurses := true, apart := false, narrowed := true }
def PatchThreesUptoSaid : Prop := patchThreesUptoRow.holds Tryz.pinned (OpenSpec.upto patchThreesSpec)

/-- 'tinkerlaw04.PatchDiffers', WHERE WHAT IT READS IS OF BULK AT MOST 1048576: true; the input reads as it did. -/
def patchDiffersUptoRow : OpenClaim := { program := "ytjimjngkeaaifaagreat", sum := "6db84e4188c985efecf9321c5f1b9b7102420d90a1352ba92d53e021a326074f", func := "tinker/tinkerlaw04.PatchDiffers", spec := "patchDiffers", unfollowed := true, recurses := true, apart := false, narrowed := true }
def PatchDiffersUptoSaid : Prop := patchDiffersUptoRow.holds Tryz.pinned (OpenSpec.upto patchDiffersSpec)

/-- 'tinkerlaw04.PatchKeeps', WHERE WHAT IT READS IS OF BULK AT MOST 1048576: true; the input reads as it did. -/
def patchKeepsUptoRow : OpenClaim := { program := "ytjimjngkeaaifaagreat", sum := "6db84e4188c985efecf9321c5f1b9b7102420d90a1352ba92d53e021a326074f", func := "tinker/tinkerlaw04.PatchKeeps", spec := "patchKeeps", unfollowed := true, recurses := true, apart := false, narrowed := true }
def PatchKeepsUptoSaid : Prop := patchKeepsUptoRow.holds Tryz.pinned (OpenSpec.upto patchKeepsSpec)

/-- 'tinkerlaw04.PatchFixes', WHERE WHAT IT READS IS OF BULK AT MOST 1048576: true; the input reads as it did. -/
def patchFixesUptoRow : OpenClaim := { program := "ytjimjngkeaaifaagreat", sum := "6db84e4188c985efecf9321c5f1b9b7102420d90a1352ba92d53e021a326074f", func := "tinker/tinkerlaw04.PatchFixes", spec := "patchFixes", unfollowed := true, recurses := true, apart := false, narrowed := true }
def PatchFixesUptoSaid : Prop := patchFixesUptoRow.holds Tryz.pinned (OpenSpec.upto patchFixesSpec)

/-- 'tinkerlaw04.PatchGood', WHERE WHAT IT READS IS OF BULK AT MOST 1048576: true; the input reads as it did. -/
def patchGoodUptoRow : OpenClaim := { program := "ytjimjngkeaaifaagreat", sum := "6db84e4188c985efecf9321c5f1b9b7102420d90a1352ba92d53e021a326074f", func := "tinker/tinkerlaw04.PatchGood", spec := "patchGood", unfollowed := true, recurses := true, apart := false, narrowed := true }
def PatchGoodUptoSaid : Prop := patchGoodUptoRow.holds Tryz.pinned (OpenSpec.upto patchGoodSpec)

/-- 'tinkerlaw04.PatchReduces', WHERE WHAT IT READS IS OF BULK AT MOST 1048576: true; the input reads as it did. -/
def patchReducesUptoRow : OpenClaim := { program := "ytjimjngkeaaifaagreat", sum := "6db84e4188c985efecf9321c5f1b9b7102420d90a1352ba92d53e021a326074f", func := "tinker/tinkerlaw04.PatchReduces", spec := "patchReduces", unfollowed := true, recurses := true, apart := false, narrowed := true }
def PatchReducesUptoSaid : Prop := patchReducesUptoRow.holds Tryz.pinned (OpenSpec.upto patchReducesSpec)

end Rows
end Go.Proofs.YtjimjngkeaaifaaGreat
