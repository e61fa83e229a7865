/- The statement TopPatches: for every input the law returns true, and its arguments read as before. No conditions. -/
import Derived.Test.YtookhknbjofmkaaGreatMg3
import Derived.Test.YtookhknbjofmkaaGreatEngR
import Derived.Test.YtookhknbjofmkaaGreatRows
namespace Go.Proofs.YtookhknbjofmkaaGreat
open Go.ChangeShapes Go.WideShapes Go.ChangeAt Go.RowKit
theorem c_own : ownKnob Tryz.prog.godebug = none := by kernel_rfl
theorem c_laid : laidOutB Tryz.prog = true := by kernel_rfl
theorem cTopPatches_lifted (os : Os) (started : os.Started) (H : Type) (enc : TypeId × Value → H) :
    ReturnsInHanded {} Tryz.checked os 3 .any (Rows.topPatchesSpec.pre6 enc Tryz.prog Tryz.f3 Rows.topPatchesRow.domain false) (Rows.topPatchesSpec.post enc Tryz.prog Tryz.f3 false true false false) := by
  refine Tk.lifts (C := Tryz.checked) (c_own) c_laid (by kernel_rfl) Tryz.func3 (A := Tk.cTopPatches.A) (by kernel_rfl) (tb := 4) rfl Tryz.underlying4 rfl ?_ Tk.cTopPatches_ok (fun x _ => ⟨trivial, rfl⟩) started
    (ChangeSpec.witness6 (enc := enc) (C := Tryz.checked) false ⟨#[], #[.slice none 0 0, .agg #[.slice none 0 0, .slice none 0 0], .slice none 0 0], []⟩ 8 (by kernel_rfl) (by kernel_rfl) (by kernel_rfl) (by kernel_rfl))
  intro ds hl
  have hl : ds.length = 3 := hl
  match ds, hl with
    | [d0, d1, d2], _ => rfl
theorem TopPatches_holds : Rows.TopPatchesSaid :=
  OpenClaim.holds_of_wide 3 Tryz.f3 rfl rfl rfl rfl rfl rfl rfl ⟨rfl, rfl, rfl, rfl, rfl⟩ rfl rfl rfl rfl rfl (by kernel_rfl) Tryz.func3 (by kernel_rfl)
    (of_decide_eq_true (by kernel_rfl)) (by unfold Func.isWrapper; first | (rw [if_pos (by decide +kernel)]; kernel_rfl) | (rw [if_neg (by decide +kernel)]; exact ⟨rfl, rfl⟩))
    (fun os started H enc _ => cTopPatches_lifted os started H enc)
#print axioms TopPatches_holds
end Go.Proofs.YtookhknbjofmkaaGreat
