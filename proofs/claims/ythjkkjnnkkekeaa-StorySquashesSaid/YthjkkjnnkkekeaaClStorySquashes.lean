/- The statement StorySquashes: for every input the law returns true, and its arguments read as before. No conditions. -/
import Derived.Test.YthjkkjnnkkekeaaMg2
import Derived.Test.YthjkkjnnkkekeaaEngR
import Derived.Test.YthjkkjnnkkekeaaRows
namespace Go.Proofs.Ythjkkjnnkkekeaa
open Go.ChangeShapes Go.WideShapes Go.ChangeAt Go.RowKit
theorem c_own : ownKnob Try.prog.godebug = none := by kernel_rfl
theorem c_laid : laidOutB Try.prog = true := by kernel_rfl
theorem cStorySquashes_lifted (os : Os) (started : os.Started) (H : Type) (enc : TypeId × Value → H) :
    ReturnsInHanded {} Try.checked os 14 .any (Rows.storySquashesSpec.pre6 enc Try.prog Try.f14 Rows.storySquashesRow.domain false) (Rows.storySquashesSpec.post enc Try.prog Try.f14 false true false false) := by
  refine Tk.lifts (C := Try.checked) (c_own) c_laid (by kernel_rfl) Try.func14 (A := Tk.cStorySquashes.A) (by kernel_rfl) (tb := 4) rfl Try.underlying4 rfl ?_ Tk.cStorySquashes_ok (fun x _ => ⟨trivial, rfl⟩) started
    (ChangeSpec.witness6 (enc := enc) (C := Try.checked) false ⟨#[], #[.slice none 0 0, .slice none 0 0], []⟩ 8 (by kernel_rfl) (by kernel_rfl) (by kernel_rfl) (by kernel_rfl))
  intro ds hl
  have hl : ds.length = 2 := hl
  match ds, hl with
    | [d0, d1], _ => rfl
theorem StorySquashes_holds : Rows.StorySquashesSaid :=
  OpenClaim.holds_of_wide 14 Try.f14 rfl rfl rfl rfl rfl rfl rfl ⟨rfl, rfl, rfl, rfl, rfl⟩ rfl rfl rfl rfl rfl (by kernel_rfl) Try.func14 (by kernel_rfl)
    (of_decide_eq_true (by kernel_rfl)) (by unfold Func.isWrapper; first | (rw [if_pos (by decide +kernel)]; kernel_rfl) | (rw [if_neg (by decide +kernel)]; exact ⟨rfl, rfl⟩))
    (fun os started H enc _ => cStorySquashes_lifted os started H enc)
#print axioms StorySquashes_holds
end Go.Proofs.Ythjkkjnnkkekeaa
