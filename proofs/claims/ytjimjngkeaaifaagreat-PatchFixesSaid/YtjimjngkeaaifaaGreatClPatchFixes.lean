/- The statement PatchFixes: for every input the law returns true, and its arguments read as before. No conditions. -/
import Derived.Test.YtjimjngkeaaifaaGreatMg3
import Derived.Test.YtjimjngkeaaifaaGreatEngR
import Derived.Test.YtjimjngkeaaifaaGreatRows
namespace Go.Proofs.YtjimjngkeaaifaaGreat
open Go.ChangeShapes Go.WideShapes Go.ChangeAt Go.RowKit
theorem c_own : ownKnob Tryz.prog.godebug = none := by kernel_rfl
theorem c_laid : laidOutB Tryz.prog = true := by kernel_rfl
theorem cPatchFixes_lifted (os : Os) (started : os.Started) (H : Type) (enc : TypeId × Value → H) :
    ReturnsInHanded {} Tryz.checked os 12 .any (Rows.patchFixesSpec.pre6 enc Tryz.prog Tryz.f12 Rows.patchFixesRow.domain false) (Rows.patchFixesSpec.post enc Tryz.prog Tryz.f12 false true false false) := by
  refine Tk.lifts (C := Tryz.checked) (c_own) c_laid (by kernel_rfl) Tryz.func12 (A := Tk.cPatchFixes.A) (by kernel_rfl) (tb := 4) rfl Tryz.underlying4 rfl ?_ Tk.cPatchFixes_ok (fun x _ => ⟨trivial, rfl⟩) started
    (ChangeSpec.witness6 (enc := enc) (C := Tryz.checked) false ⟨#[], #[.slice none 0 0, .slice none 0 0, .slice none 0 0], []⟩ 8 (by kernel_rfl) (by kernel_rfl) (by kernel_rfl) (by kernel_rfl))
  intro ds hl
  have hl : ds.length = 3 := hl
  match ds, hl with
    | [d0, d1, d2], _ => rfl
theorem PatchFixes_holds : Rows.PatchFixesSaid :=
  OpenClaim.holds_of_wide 12 Tryz.f12 rfl rfl rfl rfl rfl rfl rfl ⟨rfl, rfl, rfl, rfl, rfl⟩ rfl rfl rfl rfl rfl (by kernel_rfl) Tryz.func12 (by kernel_rfl)
    (of_decide_eq_true (by kernel_rfl)) (by unfold Func.isWrapper; first | (rw [if_pos (by decide +kernel)]; kernel_rfl) | (rw [if_neg (by decide +kernel)]; exact ⟨rfl, rfl⟩))
    (fun os started H enc _ => cPatchFixes_lifted os started H enc)
#print axioms PatchFixes_holds
end Go.Proofs.YtjimjngkeaaifaaGreat
