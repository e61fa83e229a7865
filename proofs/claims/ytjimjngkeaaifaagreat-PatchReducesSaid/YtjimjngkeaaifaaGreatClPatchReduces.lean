/- The statement PatchReduces: for every input the law returns true, and its arguments read as before. No conditions. -/
import Derived.Test.YtjimjngkeaaifaaGreatMg4
import Derived.Test.YtjimjngkeaaifaaGreatEngR
import Derived.Test.YtjimjngkeaaifaaGreatRows
namespace Go.Proofs.YtjimjngkeaaifaaGreat
open Go.ChangeShapes Go.WideShapes Go.ChangeAt Go.RowKit
theorem c_own : ownKnob Tryz.prog.godebug = none := by kernel_rfl
theorem c_laid : laidOutB Tryz.prog = true := by kernel_rfl
theorem cPatchReduces_lifted (os : Os) (started : os.Started) (H : Type) (enc : TypeId × Value → H) :
    ReturnsInHanded {} Tryz.checked os 14 .any (Rows.patchReducesSpec.pre6 enc Tryz.prog Tryz.f14 Rows.patchReducesRow.domain false) (Rows.patchReducesSpec.post enc Tryz.prog Tryz.f14 false true false false) := by
  refine Tk.lifts (C := Tryz.checked) (c_own) c_laid (by kernel_rfl) Tryz.func14 (A := Tk.cPatchReduces.A) (by kernel_rfl) (tb := 4) rfl Tryz.underlying4 rfl ?_ Tk.cPatchReduces_ok (fun x _ => ⟨trivial, rfl⟩) started
    (ChangeSpec.witness6 (enc := enc) (C := Tryz.checked) false ⟨#[], #[.slice none 0 0, .slice none 0 0, .slice none 0 0], []⟩ 8 (by kernel_rfl) (by kernel_rfl) (by kernel_rfl) (by kernel_rfl))
  intro ds hl
  have hl : ds.length = 3 := hl
  match ds, hl with
    | [d0, d1, d2], _ => rfl
theorem PatchReduces_holds : Rows.PatchReducesSaid :=
  OpenClaim.holds_of_wide 14 Tryz.f14 rfl rfl rfl rfl rfl rfl rfl ⟨rfl, rfl, rfl, rfl, rfl⟩ rfl rfl rfl rfl rfl (by kernel_rfl) Tryz.func14 (by kernel_rfl)
    (of_decide_eq_true (by kernel_rfl)) (by unfold Func.isWrapper; first | (rw [if_pos (by decide +kernel)]; kernel_rfl) | (rw [if_neg (by decide +kernel)]; exact ⟨rfl, rfl⟩))
    (fun os started H enc _ => cPatchReduces_lifted os started H enc)
#print axioms PatchReduces_holds
end Go.Proofs.YtjimjngkeaaifaaGreat
