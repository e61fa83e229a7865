/- The statement PatchSizes: for every input the law returns true, and its arguments read as before. No conditions. -/
import Derived.Test.YtjimjngkeaaifaaGreatMg3
import Derived.Test.YtjimjngkeaaifaaGreatEngR
import Derived.Test.YtjimjngkeaaifaaGreatRows
namespace Go.Proofs.YtjimjngkeaaifaaGreat
open Go.ChangeShapes Go.WideShapes Go.ChangeAt Go.RowKit
theorem c_own : ownKnob Tryz.prog.godebug = none := by kernel_rfl
theorem c_laid : laidOutB Tryz.prog = true := by kernel_rfl
theorem cPatchSizes_lifted (os : Os) (started : os.Started) (H : Type) (enc : TypeId × Value → H) :
    ReturnsInHanded {} Tryz.checked os 7 .any (Rows.patchSizesSpec.pre6 enc Tryz.prog Tryz.f7 Rows.patchSizesRow.domain false) (Rows.patchSizesSpec.post enc Tryz.prog Tryz.f7 false true false false) := by
  refine Tk.lifts (C := Tryz.checked) (c_own) c_laid (by kernel_rfl) Tryz.func7 (A := Tk.cPatchSizes.A) (by kernel_rfl) (tb := 4) rfl Tryz.underlying4 rfl ?_ Tk.cPatchSizes_ok (fun x _ => ⟨trivial, rfl⟩) started
    (ChangeSpec.witness6 (enc := enc) (C := Tryz.checked) false ⟨#[], #[.slice none 0 0, .slice none 0 0], []⟩ 8 (by kernel_rfl) (by kernel_rfl) (by kernel_rfl) (by kernel_rfl))
  intro ds hl
  have hl : ds.length = 2 := hl
  match ds, hl with
    | [d0, d1], _ => rfl
theorem PatchSizes_holds : Rows.PatchSizesSaid :=
  OpenClaim.holds_of_wide 7 Tryz.f7 rfl rfl rfl rfl rfl rfl rfl ⟨rfl, rfl, rfl, rfl, rfl⟩ rfl rfl rfl rfl rfl (by kernel_rfl) Tryz.func7 (by kernel_rfl)
    (of_decide_eq_true (by kernel_rfl)) (by unfold Func.isWrapper; first | (rw [if_pos (by decide +kernel)]; kernel_rfl) | (rw [if_neg (by decide +kernel)]; exact ⟨rfl, rfl⟩))
    (fun os started H enc _ => cPatchSizes_lifted os started H enc)
#print axioms PatchSizes_holds
end Go.Proofs.YtjimjngkeaaifaaGreat
