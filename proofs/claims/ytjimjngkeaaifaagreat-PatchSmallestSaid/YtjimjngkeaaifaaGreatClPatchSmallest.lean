/- The statement PatchSmallest: for every input the law returns true, and its arguments read as before. No conditions. -/
import Derived.Test.YtjimjngkeaaifaaGreatMg3
import Derived.Test.YtjimjngkeaaifaaGreatEngR
import Derived.Test.YtjimjngkeaaifaaGreatRows
namespace Go.Proofs.YtjimjngkeaaifaaGreat
open Go.ChangeShapes Go.WideShapes Go.ChangeAt Go.RowKit
theorem c_own : ownKnob Tryz.prog.godebug = none := by kernel_rfl
theorem c_laid : laidOutB Tryz.prog = true := by kernel_rfl
theorem cPatchSmallest_lifted (os : Os) (started : os.Started) (H : Type) (enc : TypeId × Value → H) :
    ReturnsInHanded {} Tryz.checked os 5 .any (Rows.patchSmallestSpec.pre6 enc Tryz.prog Tryz.f5 Rows.patchSmallestRow.domain false) (Rows.patchSmallestSpec.post enc Tryz.prog Tryz.f5 false true false false) := by
  refine Tk.lifts (C := Tryz.checked) (c_own) c_laid (by kernel_rfl) Tryz.func5 (A := Tk.cPatchSmallest.A) (by kernel_rfl) (tb := 4) rfl Tryz.underlying4 rfl ?_ Tk.cPatchSmallest_ok (fun x _ => ⟨trivial, rfl⟩) started
    (ChangeSpec.witness6 (enc := enc) (C := Tryz.checked) false ⟨#[], #[.slice none 0 0, .slice none 0 0, .slice none 0 0], []⟩ 8 (by kernel_rfl) (by kernel_rfl) (by kernel_rfl) (by kernel_rfl))
  intro ds hl
  have hl : ds.length = 3 := hl
  match ds, hl with
    | [d0, d1, d2], _ => rfl
theorem PatchSmallest_holds : Rows.PatchSmallestSaid :=
  OpenClaim.holds_of_wide 5 Tryz.f5 rfl rfl rfl rfl rfl rfl rfl ⟨rfl, rfl, rfl, rfl, rfl⟩ rfl rfl rfl rfl rfl (by kernel_rfl) Tryz.func5 (by kernel_rfl)
    (of_decide_eq_true (by kernel_rfl)) (by unfold Func.isWrapper; first | (rw [if_pos (by decide +kernel)]; kernel_rfl) | (rw [if_neg (by decide +kernel)]; exact ⟨rfl, rfl⟩))
    (fun os started H enc _ => cPatchSmallest_lifted os started H enc)
#print axioms PatchSmallest_holds
end Go.Proofs.YtjimjngkeaaifaaGreat
