/-
  No cell of these rows narrows 'for every input' (looked for: loops, veiled, ifaces, maps, wideKeys, modest, calm, conditions, laid).
  DERIVED. THE GIVEN ROWS OF THIS SEAT. 12 by the template 'for every input the law returns true; each argument reads behind the call as it read before'; 0 by the template 'total and deterministic' (their statements: YthjkkjnnkkekeaaTotals.lean).
  GIVEN WITH THE SEED: the statements are not yours to turn. If you find one false, say at which input.
  Laid BY PROGRAM, IN A SANDBOX (cutbox-rows.mjs): the forced cells as the released guide's own fill.sh prints them over the translation 33a0fca1d0071be9… (all of the seat's roots in one cut). By AI agents, Wed Nov 11 2026. No macro, syntax, notation, axiom, sorry.
-/
import Derived.Test.YthjkkjnnkkekeaaChecked
import GoSem.Claim
import GoSem.ClaimJoined
import GoSem.ClaimMapViews
import Derived.JoinedTies
import Derived.KernelRfl
namespace Go.Proofs.Ythjkkjnnkkekeaa
/- THE CELL 'sum', in the pinned program and in every row, IS THE sha256 OF THE DUMP (.gsa) THAT YthjkkjnnkkekeaaProg.lean LOADS. Nothing in Lean hashes anything: it is a label: what it is worth is what the hold of that sum in a sandbox is worth. -/
noncomputable def Try.pinned : Pinned := { name := "ythjkkjnnkkekeaa", sum := "33a0fca1d0071be9390739dc43ba5f2fe989fdbaf64dcc3b644f0df4898b3958", checked := Try.checked }
namespace Rows
def none {H : Type} : Left H := { results := [], args := [] }

/-- 'tinkerlaw07.StoryMutual': WHATEVER THE INPUT: true; the input reads as it did. -/
def storyMutualSpec : ChangeSpec := { name := "storyMutual", fn := fun _ => fun
  | [d1, d2, d3] => { results := [.lit (.bool true)], args := [d1, d2, d3] }
  | _ => none }
def storyMutualRow : OpenClaim := { program := "ythjkkjnnkkekeaa", sum := "33a0fca1d0071be9390739dc43ba5f2fe989fdbaf64dcc3b644f0df4898b3958", func := "tinker/tinkerlaw07.StoryMutual", spec := "storyMutual", unfollowed := true, recurses := true, apart := false }
def StoryMutualSaid : Prop := storyMutualRow.holds Try.pinned (OpenSpec.ofChange storyMutualSpec)

/-- ITS FALSE NEIGHBOUR: 'it returns false'. Refute it at one input. -/
def storyMutualWrong : ChangeSpec := { name := "storyMutual", fn := fun _ => fun
  | [d1, d2, d3] => { results := [.lit (.bool false)], args := [d1, d2, d3] }
  | _ => none }
def StoryMutualWrongFalsely : Prop := storyMutualRow.holds Try.pinned (OpenSpec.ofChange storyMutualWrong)

/-- 'tinkerlaw07.StoryReverts': WHATEVER THE INPUT: true; the input reads as it did. -/
def storyRevertsSpec : ChangeSpec := { name := "storyReverts", fn := fun _ => fun
  | [d1, d2, d3] => { results := [.lit (.bool true)], args := [d1, d2, d3] }
  | _ => none }
def storyRevertsRow : OpenClaim := { program := "ythjkkjnnkkekeaa", sum := "33a0fca1d0071be9390739dc43ba5f2fe989fdbaf64dcc3b644f0df4898b3958", func := "tinker/tinkerlaw07.StoryReverts", spec := "storyReverts", unfollowed := true, recurses := true, apart := false }
def StoryRevertsSaid : Prop := storyRevertsRow.holds Try.pinned (OpenSpec.ofChange storyRevertsSpec)

/-- ITS FALSE NEIGHBOUR: 'it returns false'. Refute it at one input. -/
def storyRevertsWrong : ChangeSpec := { name := "storyReverts", fn := fun _ => fun
  | [d1, d2, d3] => { results := [.lit (.bool false)], args := [d1, d2, d3] }
  | _ => none }
def StoryRevertsWrongFalsely : Prop := storyRevertsRow.holds Try.pinned (OpenSpec.ofChange storyRevertsWrong)

/-- 'tinkerlaw07.StoryLeaves': WHATEVER THE INPUT: true; the input reads as it did. -/
def storyLeavesSpec : ChangeSpec := { name := "storyLeaves", fn := fun _ => fun
  | [d1, d2, d3] => { results := [.lit (.bool true)], args := [d1, d2, d3] }
  | _ => none }
def storyLeavesRow : OpenClaim := { program := "ythjkkjnnkkekeaa", sum := "33a0fca1d0071be9390739dc43ba5f2fe989fdbaf64dcc3b644f0df4898b3958", func := "tinker/tinkerlaw07.StoryLeaves", spec := "storyLeaves", unfollowed := true, recurses := true, apart := false }
def StoryLeavesSaid : Prop := storyLeavesRow.holds Try.pinned (OpenSpec.ofChange storyLeavesSpec)

/-- ITS FALSE NEIGHBOUR: 'it returns false'. Refute it at one input. -/
def storyLeavesWrong : ChangeSpec := { name := "storyLeaves", fn := fun _ => fun
  | [d1, d2, d3] => { results := [.lit (.bool false)], args := [d1, d2, d3] }
  | _ => none }
def StoryLeavesWrongFalsely : Prop := storyLeavesRow.holds Try.pinned (OpenSpec.ofChange storyLeavesWrong)

/-- 'tinkerlaw07.StoryNeeds': WHATEVER THE INPUT: true; the input reads as it did. -/
def storyNeedsSpec : ChangeSpec := { name := "storyNeeds", fn := fun _ => fun
  | [d1, d2, d3] => { results := [.lit (.bool true)], args := [d1, d2, d3] }
  | _ => none }
def storyNeedsRow : OpenClaim := { program := "ythjkkjnnkkekeaa", sum := "33a0fca1d0071be9390739dc43ba5f2fe989fdbaf64dcc3b644f0df4898b3958", func := "tinker/tinkerlaw07.StoryNeeds", spec := "storyNeeds", unfollowed := true, recurses := true, apart := false }
def StoryNeedsSaid : Prop := storyNeedsRow.holds Try.pinned (OpenSpec.ofChange storyNeedsSpec)

/-- ITS FALSE NEIGHBOUR: 'it returns false'. Refute it at one input. -/
def storyNeedsWrong : ChangeSpec := { name := "storyNeeds", fn := fun _ => fun
  | [d1, d2, d3] => { results := [.lit (.bool false)], args := [d1, d2, d3] }
  | _ => none }
def StoryNeedsWrongFalsely : Prop := storyNeedsRow.holds Try.pinned (OpenSpec.ofChange storyNeedsWrong)

/-- 'tinkerlaw07.StoryPlays': WHATEVER THE INPUT: true; the input reads as it did. -/
def storyPlaysSpec : ChangeSpec := { name := "storyPlays", fn := fun _ => fun
  | [d1, d2, d3] => { results := [.lit (.bool true)], args := [d1, d2, d3] }
  | _ => none }
def storyPlaysRow : OpenClaim := { program := "ythjkkjnnkkekeaa", sum := "33a0fca1d0071be9390739dc43ba5f2fe989fdbaf64dcc3b644f0df4898b3958", func := "tinker/tinkerlaw07.StoryPlays", spec := "storyPlays", unfollowed := true, recurses := true, apart := false }
def StoryPlaysSaid : Prop := storyPlaysRow.holds Try.pinned (OpenSpec.ofChange storyPlaysSpec)

/-- ITS FALSE NEIGHBOUR: 'it returns false'. Refute it at one input. -/
def storyPlaysWrong : ChangeSpec := { name := "storyPlays", fn := fun _ => fun
  | [d1, d2, d3] => { results := [.lit (.bool false)], args := [d1, d2, d3] }
  | _ => none }
def StoryPlaysWrongFalsely : Prop := storyPlaysRow.holds Try.pinned (OpenSpec.ofChange storyPlaysWrong)

/-- 'tinkerlaw07.StoryWhos': WHATEVER THE INPUT: true; the input reads as it did. -/
def storyWhosSpec : ChangeSpec := { name := "storyWhos", fn := fun _ => fun
  | [d1, d2, d3] => { results := [.lit (.bool true)], args := [d1, d2, d3] }
  | _ => none }
def storyWhosRow : OpenClaim := { program := "ythjkkjnnkkekeaa", sum := "33a0fca1d0071be9390739dc43ba5f2fe989fdbaf64dcc3b644f0df4898b3958", func := "tinker/tinkerlaw07.StoryWhos", spec := "storyWhos", unfollowed := true, recurses := true, apart := false }
def StoryWhosSaid : Prop := storyWhosRow.holds Try.pinned (OpenSpec.ofChange storyWhosSpec)

/-- ITS FALSE NEIGHBOUR: 'it returns false'. Refute it at one input. -/
def storyWhosWrong : ChangeSpec := { name := "storyWhos", fn := fun _ => fun
  | [d1, d2, d3] => { results := [.lit (.bool false)], args := [d1, d2, d3] }
  | _ => none }
def StoryWhosWrongFalsely : Prop := storyWhosRow.holds Try.pinned (OpenSpec.ofChange storyWhosWrong)

/-- 'tinkerlaw07.StoryOrders': WHATEVER THE INPUT: true; the input reads as it did. -/
def storyOrdersSpec : ChangeSpec := { name := "storyOrders", fn := fun _ => fun
  | [d1, d2, d3] => { results := [.lit (.bool true)], args := [d1, d2, d3] }
  | _ => none }
def storyOrdersRow : OpenClaim := { program := "ythjkkjnnkkekeaa", sum := "33a0fca1d0071be9390739dc43ba5f2fe989fdbaf64dcc3b644f0df4898b3958", func := "tinker/tinkerlaw07.StoryOrders", spec := "storyOrders", unfollowed := true, recurses := true, apart := false }
def StoryOrdersSaid : Prop := storyOrdersRow.holds Try.pinned (OpenSpec.ofChange storyOrdersSpec)

/-- ITS FALSE NEIGHBOUR: 'it returns false'. Refute it at one input. -/
def storyOrdersWrong : ChangeSpec := { name := "storyOrders", fn := fun _ => fun
  | [d1, d2, d3] => { results := [.lit (.bool false)], args := [d1, d2, d3] }
  | _ => none }
def StoryOrdersWrongFalsely : Prop := storyOrdersRow.holds Try.pinned (OpenSpec.ofChange storyOrdersWrong)

/-- 'tinkerlaw07.StoryCounts': WHATEVER THE INPUT: true; the input reads as it did. -/
def storyCountsSpec : ChangeSpec := { name := "storyCounts", fn := fun _ => fun
  | [d1, d2] => { results := [.lit (.bool true)], args := [d1, d2] }
  | _ => none }
def storyCountsRow : OpenClaim := { program := "ythjkkjnnkkekeaa", sum := "33a0fca1d0071be9390739dc43ba5f2fe989fdbaf64dcc3b644f0df4898b3958", func := "tinker/tinkerlaw07.StoryCounts", spec := "storyCounts", unfollowed := true, recurses := true, apart := false }
def StoryCountsSaid : Prop := storyCountsRow.holds Try.pinned (OpenSpec.ofChange storyCountsSpec)

/-- ITS FALSE NEIGHBOUR: 'it returns false'. Refute it at one input. -/
def storyCountsWrong : ChangeSpec := { name := "storyCounts", fn := fun _ => fun
  | [d1, d2] => { results := [.lit (.bool false)], args := [d1, d2] }
  | _ => none }
def StoryCountsWrongFalsely : Prop := storyCountsRow.holds Try.pinned (OpenSpec.ofChange storyCountsWrong)

/-- 'tinkerlaw07.StoryGreens': WHATEVER THE INPUT: true; the input reads as it did. -/
def storyGreensSpec : ChangeSpec := { name := "storyGreens", fn := fun _ => fun
  | [d1, d2, d3] => { results := [.lit (.bool true)], args := [d1, d2, d3] }
  | _ => none }
def storyGreensRow : OpenClaim := { program := "ythjkkjnnkkekeaa", sum := "33a0fca1d0071be9390739dc43ba5f2fe989fdbaf64dcc3b644f0df4898b3958", func := "tinker/tinkerlaw07.StoryGreens", spec := "storyGreens", unfollowed := true, recurses := true, apart := false }
def StoryGreensSaid : Prop := storyGreensRow.holds Try.pinned (OpenSpec.ofChange storyGreensSpec)

/-- ITS FALSE NEIGHBOUR: 'it returns false'. Refute it at one input. -/
def storyGreensWrong : ChangeSpec := { name := "storyGreens", fn := fun _ => fun
  | [d1, d2, d3] => { results := [.lit (.bool false)], args := [d1, d2, d3] }
  | _ => none }
def StoryGreensWrongFalsely : Prop := storyGreensRow.holds Try.pinned (OpenSpec.ofChange storyGreensWrong)

/-- 'tinkerlaw07.StoryLosses': WHATEVER THE INPUT: true; the input reads as it did. -/
def storyLossesSpec : ChangeSpec := { name := "storyLosses", fn := fun _ => fun
  | [d1, d2, d3] => { results := [.lit (.bool true)], args := [d1, d2, d3] }
  | _ => none }
def storyLossesRow : OpenClaim := { program := "ythjkkjnnkkekeaa", sum := "33a0fca1d0071be9390739dc43ba5f2fe989fdbaf64dcc3b644f0df4898b3958", func := "tinker/tinkerlaw07.StoryLosses", spec := "storyLosses", unfollowed := true, recurses := true, apart := false }
def StoryLossesSaid : Prop := storyLossesRow.holds Try.pinned (OpenSpec.ofChange storyLossesSpec)

/-- ITS FALSE NEIGHBOUR: 'it returns false'. Refute it at one input. -/
def storyLossesWrong : ChangeSpec := { name := "storyLosses", fn := fun _ => fun
  | [d1, d2, d3] => { results := [.lit (.bool false)], args := [d1, d2, d3] }
  | _ => none }
def StoryLossesWrongFalsely : Prop := storyLossesRow.holds Try.pinned (OpenSpec.ofChange storyLossesWrong)

/-- 'tinkerlaw07.StoryBisects': WHATEVER THE INPUT: true; the input reads as it did. -/
def storyBisectsSpec : ChangeSpec := { name := "storyBisects", fn := fun _ => fun
  | [d1, d2, d3] => { results := [.lit (.bool true)], args := [d1, d2, d3] }
  | _ => none }
def storyBisectsRow : OpenClaim := { program := "ythjkkjnnkkekeaa", sum := "33a0fca1d0071be9390739dc43ba5f2fe989fdbaf64dcc3b644f0df4898b3958", func := "tinker/tinkerlaw07.StoryBisects", spec := "storyBisects", unfollowed := true, recurses := true, apart := false }
def StoryBisectsSaid : Prop := storyBisectsRow.holds Try.pinned (OpenSpec.ofChange storyBisectsSpec)

/-- ITS FALSE NEIGHBOUR: 'it returns false'. Refute it at one input. -/
def storyBisectsWrong : ChangeSpec := { name := "storyBisects", fn := fun _ => fun
  | [d1, d2, d3] => { results := [.lit (.bool false)], args := [d1, d2, d3] }
  | _ => none }
def StoryBisectsWrongFalsely : Prop := storyBisectsRow.holds Try.pinned (OpenSpec.ofChange storyBisectsWrong)

/-- 'tinkerlaw07.StorySquashes': WHATEVER THE INPUT: true; the input reads as it did. -/
def storySquashesSpec : ChangeSpec := { name := "storySquashes", fn := fun _ => fun
  | [d1, d2] => { results := [.lit (.bool true)], args := [d1, d2] }
  | _ => none }
def storySquashesRow : OpenClaim := { program := "ythjkkjnnkkekeaa", sum := "33a0fca1d0071be9390739dc43ba5f2fe989fdbaf64dcc3b644f0df4898b3958", func := "tinker/tinkerlaw07.StorySquashes", spec := "storySquashes", unfollowed := true, recurses := true, apart := false }
def StorySquashesSaid : Prop := storySquashesRow.holds Try.pinned (OpenSpec.ofChange storySquashesSpec)

/-- ITS FALSE NEIGHBOUR: 'it returns false'. Refute it at one input. -/
def storySquashesWrong : ChangeSpec := { name := "storySquashes", fn := fun _ => fun
  | [d1, d2] => { results := [.lit (.bool false)], args := [d1, d2] }
  | _ => none }
def StorySquashesWrongFalsely : Prop := storySquashesRow.holds Try.pinned (OpenSpec.ofChange storySquashesWrong)

/- THE SECOND FORM. 'bulk': how many values and letters a reading holds, each counted each time it is reached (what is shared counts as often as it is met; a slice's spare places count too). A statement '..UptoSaid' is the law's where the arguments, and the package variables that the reading takes, are together of bulk at most 1048576: NARROWER than '..Said'. Prove '..Said' where nothing that the law and all that it calls make is longer than what came in: it says more and counts as full. Else prove '..UptoSaid'. A law counts once. -/
mutual
def uptoBulk {H : Type} : DataW H → Nat
  | .lit (.string bytes) => bytes.length + 1
  | .lit _ => 1
  | .nil => 1
  | .ptr d => uptoBulk d + 1
  | .slice elems spare => uptoBulkAll elems + uptoBulkAll spare + 1
  | .agg parts => uptoBulkAll parts + 1
  | .iface _ d => uptoBulk d + 1
  | .map entries => uptoBulkEntries entries + 1
  | .held _ => 1
def uptoBulkAll {H : Type} : List (DataW H) → Nat
  | [] => 0
  | d :: r => uptoBulk d + uptoBulkAll r
def uptoBulkEntries {H : Type} : List (Lit × DataW H) → Nat
  | [] => 0
  | x :: r => uptoBulkEntry x + uptoBulkEntries r
def uptoBulkEntry {H : Type} : Lit × DataW H → Nat
  | (.string bytes, d) => bytes.length + uptoBulk d + 1
  | (_, d) => uptoBulk d + 1
 end
def uptoSmall : (H : Type) → List (DataW H) → Bool := fun _ ds => decide (uptoBulkAll ds ≤ 1048576)
def OpenSpec.upto (s : _root_.Go.ChangeSpec) : _root_.Go.OpenSpec := { _root_.Go.OpenSpec.ofChange s with cond := some uptoSmall }

/-- 'tinkerlaw07.StoryMutual', WHERE WHAT IT READS IS OF BULK AT MOST 1048576: true; the input reads as it did. -/
def storyMutualUptoRow : OpenClaim := { program := "ythjkkjnnkkekeaa", sum := "33a0fca1d0071be9390739dc43ba5f2fe989fdbaf64dcc3b644f0df4898b3958", func := "tinker/tinkerlaw07.StoryMutual", spec := "storyMutual", unfollowed := true, recurses := true, apart := false, narrowed := true }
def StoryMutualUptoSaid : Prop := storyMutualUptoRow.holds Try.pinned (OpenSpec.upto storyMutualSpec)

/-- 'tinkerlaw07.StoryReverts', WHERE WHAT IT READS IS OF BULK AT MOST 1048576: true; the input reads as it did. -/
def storyRevertsUptoRow : OpenClaim := { program := "ythjkkjnnkkekeaa", sum := "33a0fca1d0071be9390739dc43ba5f2fe989fdbaf64dcc3b644f0df4898b3958", func := "tinker/tinkerlaw07.StoryReverts", spec := "storyReverts", unfollowed := true, recurses := true, apart := false, narrowed := true }
def StoryRevertsUptoSaid : Prop := storyRevertsUptoRow.holds Try.pinned (OpenSpec.upto storyRevertsSpec)

/-- 'tinkerlaw07.StoryLeaves', WHERE WHAT IT READS IS OF BULK AT MOST 1048576: true; the input reads as it did. -/
def storyLeavesUptoRow : OpenClaim := { program := "ythjkkjnnkkekeaa", sum := "33a0fca1d0071be9390739dc43ba5f2fe989fdbaf64dcc3b644f0df4898b3958", func := "tinker/tinkerlaw07.StoryLeaves", spec := "storyLeaves", unfollowed := true, recurses := true, apart := false, narrowed := true }
def StoryLeavesUptoSaid : Prop := storyLeavesUptoRow.holds Try.pinned (OpenSpec.upto storyLeavesSpec)

/-- 'tinkerlaw07.StoryNeeds', WHERE WHAT IT READS IS OF BULK AT MOST 1048576: true; the input reads as it did. -/
def storyNeedsUptoRow : OpenClaim := { program := "ythjkkjnnkkekeaa", sum := "33a0fca1d0071be9390739dc43ba5f2fe989fdbaf64dcc3b644f0df4898b3958", func := "tinker/tinkerlaw07.StoryNeeds", spec := "storyNeeds", unfollowed := true, recurses := true, apart := false, narrowed := true }
def StoryNeedsUptoSaid : Prop := storyNeedsUptoRow.holds Try.pinned (OpenSpec.upto storyNeedsSpec)

/-- 'tinkerlaw07.StoryPlays', WHERE WHAT IT READS IS OF BULK AT MOST 1048576: true; the input reads as it did. -/
def storyPlaysUptoRow : OpenClaim := { program := "ythjkkjnnkkekeaa", sum := "33a0fca1d0071be9390739dc43ba5f2fe989fdbaf64dcc3b644f0df4898b3958", func := "tinker/tinkerlaw07.StoryPlays", spec := "storyPlays", unfollowed := true, recurses := true, apart := false, narrowed := true }
def StoryPlaysUptoSaid : Prop := storyPlaysUptoRow.holds Try.pinned (OpenSpec.upto storyPlaysSpec)

/-- 'tinkerlaw07.StoryWhos', WHERE WHAT IT READS IS OF BULK AT MOST 1048576: true; the input reads as it did. -/
def storyWhosUptoRow : OpenClaim := { program := "ythjkkjnnkkekeaa", sum := "33a0fca1d0071be9390739dc43ba5f2fe989fdbaf64dcc3b644f0df4898b3958", func := "tinker/tinkerlaw07.StoryWhos", spec := "storyWhos", unfollowed := true, recurses := true, apart := false, narrowed := true }
def StoryWhosUptoSaid : Prop := storyWhosUptoRow.holds Try.pinned (OpenSpec.upto storyWhosSpec)

/-- 'tinkerlaw07.StoryOrders', WHERE WHAT IT READS IS OF BULK AT MOST 1048576: true; the input reads as it did. -/
def storyOrdersUptoRow : OpenClaim := { program := "ythjkkjnnkkekeaa", sum := "33a0fca1d0071be9390739dc43ba5f2fe989fdbaf64dcc3b644f0df4898b3958", func := "tinker/tinkerlaw07.StoryOrders", spec := "storyOrders", unfollowed := true, recurses := true, apart := false, narrowed := true }
def StoryOrdersUptoSaid : Prop := storyOrdersUptoRow.holds Try.pinned (OpenSpec.upto storyOrdersSpec)

/-- 'tinkerlaw07.StoryCounts', WHERE WHAT IT READS IS OF BULK AT MOST 1048576: true; the input reads as it did. -/
def storyCountsUptoRow : OpenClaim := { program := "ythjkkjnnkkekeaa", sum := "33a0fca1d0071be9390739dc43ba5f2fe989fdbaf64dcc3b644f0df4898b3958", func := "tinker/tinkerlaw07.StoryCounts", spec := "storyCounts", unfollowed := true, recurses := true, apart := false, narrowed := true }
def StoryCountsUptoSaid : Prop := storyCountsUptoRow.holds Try.pinned (OpenSpec.upto storyCountsSpec)

/-- 'tinkerlaw07.StoryGreens', WHERE WHAT IT READS IS OF BULK AT MOST 1048576: true; the input reads as it did. -/
def storyGreensUptoRow : OpenClaim := { program := "ythjkkjnnkkekeaa", sum := "33a0fca1d0071be9390739dc43ba5f2fe989fdbaf64dcc3b644f0df4898b3958", func := "tinker/tinkerlaw07.StoryGreens", spec := "storyGreens", unfollowed := true, recurses := true, apart := false, narrowed := true }
def StoryGreensUptoSaid : Prop := storyGreensUptoRow.holds Try.pinned (OpenSpec.upto storyGreensSpec)

/-- 'tinkerlaw07.StoryLosses', WHERE WHAT IT READS IS OF BULK AT MOST 1048576: true; the input reads as it did. -/
def storyLossesUptoRow : OpenClaim := { program := "ythjkkjnnkkekeaa", sum := "33a0fca1d0071be9390739dc43ba5f2fe989fdbaf64dcc3b644f0df4898b3958", func := "tinker/tinkerlaw07.StoryLosses", spec := "storyLosses", unfollowed := true, recurses := true, apart := false, narrowed := true }
def StoryLossesUptoSaid : Prop := storyLossesUptoRow.holds Try.pinned (OpenSpec.upto storyLossesSpec)

/-- 'tinkerlaw07.StoryBisects', WHERE WHAT IT READS IS OF BULK AT MOST 1048576: true; the input reads as it did. -/
def storyBisectsUptoRow : OpenClaim := { program := "ythjkkjnnkkekeaa", sum := "33a0fca1d0071be9390739dc43ba5f2fe989fdbaf64dcc3b644f0df4898b3958", func := "tinker/tinkerlaw07.StoryBisects", spec := "storyBisects", unfollowed := true, recurses := true, apart := false, narrowed := true }
def StoryBisectsUptoSaid : Prop := storyBisectsUptoRow.holds Try.pinned (OpenSpec.upto storyBisectsSpec)

/-- 'tinkerlaw07.StorySquashes', WHERE WHAT IT READS IS OF BULK AT MOST 1048576: true; the input reads as it did. -/
def storySquashesUptoRow : OpenClaim := { program := "ythjkkjnnkkekeaa", sum := "33a0fca1d0071be9390739dc43ba5f2fe989fdbaf64dcc3b644f0df4898b3958", func := "tinker/tinkerlaw07.StorySquashes", spec := "storySquashes", unfollowed := true, recurses := true, apart := false, narrowed := true }
def StorySquashesUptoSaid : Prop := storySquashesUptoRow.holds Try.pinned (OpenSpec.upto storySquashesSpec)

end Rows
end Go.Proofs.Ythjkkjnnkkekeaa
