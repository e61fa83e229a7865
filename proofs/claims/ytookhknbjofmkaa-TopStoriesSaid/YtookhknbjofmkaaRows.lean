/-
  No cell of these rows narrows 'for every input' (looked for: loops, veiled, ifaces, maps, wideKeys, modest, calm, conditions, laid).
  DERIVED. THE GIVEN ROWS OF THIS SEAT. 4 by the template 'for every input the law returns true; each argument reads behind the call as it read before'; 0 by the template 'total and deterministic' (their statements: YtookhknbjofmkaaTotals.lean).
  GIVEN WITH THE SEED: the statements are not yours to turn. If you find one false, say at which input.
  Laid BY PROGRAM, IN A SANDBOX (cutbox-rows.mjs): the forced cells as the released guide's own fill.sh prints them over the translation 2bee8826036a35f8… (all of the seat's roots in one cut). By AI agents, Wed Nov 11 2026. No macro, syntax, notation, axiom, sorry.
-/
import Derived.Test.YtookhknbjofmkaaChecked
import GoSem.Claim
import GoSem.ClaimJoined
import GoSem.ClaimMapViews
import Derived.JoinedTies
import Derived.KernelRfl
namespace Go.Proofs.Ytookhknbjofmkaa
/- THE CELL 'sum', in the pinned program and in every row, IS THE sha256 OF THE DUMP (.gsa) THAT YtookhknbjofmkaaProg.lean LOADS. Nothing in Lean hashes anything: it is a label: what it is worth is what the hold of that sum in a sandbox is worth. -/
noncomputable def Try.pinned : Pinned := { name := "ytookhknbjofmkaa", sum := "2bee8826036a35f832cbafb49253d998f00bcca937368b23fad4dac1c82c5ba0", checked := Try.checked }
namespace Rows
def none {H : Type} : Left H := { results := [], args := [] }

/-- 'tinkertop.TopChecks': WHATEVER THE INPUT: true; the input reads as it did. -/
def topChecksSpec : ChangeSpec := { name := "topChecks", fn := fun _ => fun
  | [d1, d2, d3] => { results := [.lit (.bool true)], args := [d1, d2, d3] }
  | _ => none }
def topChecksRow : OpenClaim := { program := "ytookhknbjofmkaa", sum := "2bee8826036a35f832cbafb49253d998f00bcca937368b23fad4dac1c82c5ba0", func := "tinker/tinkertop.TopChecks", spec := "topChecks", unfollowed := true, recurses := true, apart := false }
def TopChecksSaid : Prop := topChecksRow.holds Try.pinned (OpenSpec.ofChange topChecksSpec)

/-- ITS FALSE NEIGHBOUR: 'it returns false'. Refute it at one input. -/
def topChecksWrong : ChangeSpec := { name := "topChecks", fn := fun _ => fun
  | [d1, d2, d3] => { results := [.lit (.bool false)], args := [d1, d2, d3] }
  | _ => none }
def TopChecksWrongFalsely : Prop := topChecksRow.holds Try.pinned (OpenSpec.ofChange topChecksWrong)

/-- 'tinkertop.TopSpans': WHATEVER THE INPUT: true; the input reads as it did. -/
def topSpansSpec : ChangeSpec := { name := "topSpans", fn := fun _ => fun
  | [d1, d2, d3] => { results := [.lit (.bool true)], args := [d1, d2, d3] }
  | _ => none }
def topSpansRow : OpenClaim := { program := "ytookhknbjofmkaa", sum := "2bee8826036a35f832cbafb49253d998f00bcca937368b23fad4dac1c82c5ba0", func := "tinker/tinkertop.TopSpans", spec := "topSpans", unfollowed := true, recurses := true, apart := false }
def TopSpansSaid : Prop := topSpansRow.holds Try.pinned (OpenSpec.ofChange topSpansSpec)

/-- ITS FALSE NEIGHBOUR: 'it returns false'. Refute it at one input. -/
def topSpansWrong : ChangeSpec := { name := "topSpans", fn := fun _ => fun
  | [d1, d2, d3] => { results := [.lit (.bool false)], args := [d1, d2, d3] }
  | _ => none }
def TopSpansWrongFalsely : Prop := topSpansRow.holds Try.pinned (OpenSpec.ofChange topSpansWrong)

/-- 'tinkertop.TopStories': WHATEVER THE INPUT: true; the input reads as it did. -/
def topStoriesSpec : ChangeSpec := { name := "topStories", fn := fun _ => fun
  | [d1, d2, d3] => { results := [.lit (.bool true)], args := [d1, d2, d3] }
  | _ => none }
def topStoriesRow : OpenClaim := { program := "ytookhknbjofmkaa", sum := "2bee8826036a35f832cbafb49253d998f00bcca937368b23fad4dac1c82c5ba0", func := "tinker/tinkertop.TopStories", spec := "topStories", unfollowed := true, recurses := true, apart := false }
def TopStoriesSaid : Prop := topStoriesRow.holds Try.pinned (OpenSpec.ofChange topStoriesSpec)

/-- ITS FALSE NEIGHBOUR: 'it returns false'. Refute it at one input. -/
def topStoriesWrong : ChangeSpec := { name := "topStories", fn := fun _ => fun
  | [d1, d2, d3] => { results := [.lit (.bool false)], args := [d1, d2, d3] }
  | _ => none }
def TopStoriesWrongFalsely : Prop := topStoriesRow.holds Try.pinned (OpenSpec.ofChange topStoriesWrong)

/-- 'tinkertop.TopCodes': WHATEVER THE INPUT: true; the input reads as it did. -/
def topCodesSpec : ChangeSpec := { name := "topCodes", fn := fun _ => fun
  | [d1, d2, d3] => { results := [.lit (.bool true)], args := [d1, d2, d3] }
  | _ => none }
def topCodesRow : OpenClaim := { program := "ytookhknbjofmkaa", sum := "2bee8826036a35f832cbafb49253d998f00bcca937368b23fad4dac1c82c5ba0", func := "tinker/tinkertop.TopCodes", spec := "topCodes", unfollowed := true, recurses := true, apart := false }
def TopCodesSaid : Prop := topCodesRow.holds Try.pinned (OpenSpec.ofChange topCodesSpec)

/-- ITS FALSE NEIGHBOUR: 'it returns false'. Refute it at one input. -/
def topCodesWrong : ChangeSpec := { name := "topCodes", fn := fun _ => fun
  | [d1, d2, d3] => { results := [.lit (.bool false)], args := [d1, d2, d3] }
  | _ => none }
def TopCodesWrongFalsely : Prop := topCodesRow.holds Try.pinned (OpenSpec.ofChange topCodesWrong)

/- THE SECOND FORM. 'bulk': how many values and letters a reading holds, each counted each time it is reached (what is shared counts as often as it is met; a slice's spare places count too). A statement '..UptoSaid' is the law's where the arguments, and the package variables that the reading takes, are together of bulk at most 1048576: NARROWER than '..Said'. Prove '..Said' where nothing that the law and all that it calls make is longer than what came in: it says more and counts as full. Else prove '..UptoSaid'. A law counts once. -/
mutual
def uptoBulk {H : Type} : DataW H → Nat
  | .lit (.string bytes) => bytes.length + 1
  | .lit _ => 1
  | .nil => 1
  | .ptr d => uptoBulk d + 1
  | .slice elems spare => uptoBulkAll elems + uptoBulkAll spare + 1
  | .agg parts => uptoBulkAll parts + 1
  | .iface _ d => uptoBulk d + 1
  | .map entries => uptoBulkEntries entries + 1
  | .held _ => 1
def uptoBulkAll {H : Type} : List (DataW H) → Nat
  | [] => 0
  | d :: r => uptoBulk d + uptoBulkAll r
def uptoBulkEntries {H : Type} : List (Lit × DataW H) → Nat
  | [] => 0
  | x :: r => uptoBulkEntry x + uptoBulkEntries r
def uptoBulkEntry {H : Type} : Lit × DataW H → Nat
  | (.string bytes, d) => bytes.length + uptoBulk d + 1
  | (_, d) => uptoBulk d + 1
 end
def uptoSmall : (H : Type) → List (DataW H) → Bool := fun _ ds => decide (uptoBulkAll ds ≤ 1048576)
def OpenSpec.upto (s : _root_.Go.ChangeSpec) : _root_.Go.OpenSpec := { _root_.Go.OpenSpec.ofChange s with cond := some uptoSmall }

/-- 'tinkertop.TopChecks', WHERE WHAT IT READS IS OF BULK AT MOST 1048576: true; the input reads as it did. -/
def topChecksUptoRow : OpenClaim := { program := "ytookhknbjofmkaa", sum := "2bee8826036a35f832cbafb49253d998f00bcca937368b23fad4dac1c82c5ba0", func := "tinker/tinkertop.TopChecks", spec := "topChecks", unfollowed := true, recurses := true, apart := false, narrowed := true }
def TopChecksUptoSaid : Prop := topChecksUptoRow.holds Try.pinned (OpenSpec.upto topChecksSpec)

/-- 'tinkertop.TopSpans', WHERE WHAT IT READS IS OF BULK AT MOST 1048576: true; the input reads as it did. -/
def topSpansUptoRow : OpenClaim := { program := "ytookhknbjofmkaa", sum := "2bee8826036a35f832cbafb49253d998f00bcca937368b23fad4dac1c82c5ba0", func := "tinker/tinkertop.TopSpans", spec := "topSpans", unfollowed := true, recurses := true, apart := false, narrowed := true }
def TopSpansUptoSaid : Prop := topSpansUptoRow.holds Try.pinned (OpenSpec.upto topSpansSpec)

/-- 'tinkertop.TopStories', WHERE WHAT IT READS IS OF BULK AT MOST 1048576: true; the input reads as it did. -/
def topStoriesUptoRow : OpenClaim := { program := "ytookhknbjofmkaa", sum := "2bee8826036a35f832cbafb49253d998f00bcca937368b23fad4dac1c82c5ba0", func := "tinker/tinkertop.TopStories", spec := "topStories", unfollowed := true, recurses := true, apart := false, narrowed := true }
def TopStoriesUptoSaid : Prop := topStoriesUptoRow.holds Try.pinned (OpenSpec.upto topStoriesSpec)

/-- 'tinkertop.TopCodes', WHERE WHAT IT READS IS OF BULK AT MOST 1048576: true; the input reads as it did. -/
def topCodesUptoRow : OpenClaim := { program := "ytookhknbjofmkaa", sum := "2bee8826036a35f832cbafb49253d998f00bcca937368b23fad4dac1c82c5ba0", func := "tinker/tinkertop.TopCodes", spec := "topCodes", unfollowed := true, recurses := true, apart := false, narrowed := true }
def TopCodesUptoSaid : Prop := topCodesUptoRow.holds Try.pinned (OpenSpec.upto topCodesSpec)

end Rows
end Go.Proofs.Ytookhknbjofmkaa
