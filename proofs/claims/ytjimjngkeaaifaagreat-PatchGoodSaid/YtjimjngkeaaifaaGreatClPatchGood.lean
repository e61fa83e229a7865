/- The statement PatchGood: for every input the law returns true, and its arguments read as before. No conditions. -/
import Derived.Test.YtjimjngkeaaifaaGreatMg3
import Derived.Test.YtjimjngkeaaifaaGreatEngR
import Derived.Test.YtjimjngkeaaifaaGreatRows
namespace Go.Proofs.YtjimjngkeaaifaaGreat
open Go.ChangeShapes Go.WideShapes Go.ChangeAt Go.RowKit
theorem c_own : ownKnob Tryz.prog.godebug = none := by kernel_rfl
theorem c_laid : laidOutB Tryz.prog = true := by kernel_rfl
theorem cPatchGood_lifted (os : Os) (started : os.Started) (H : Type) (enc : TypeId × Value → H) :
    ReturnsInHanded {} Tryz.checked os 13 .any (Rows.patchGoodSpec.pre6 enc Tryz.prog Tryz.f13 Rows.patchGoodRow.domain false) (Rows.patchGoodSpec.post enc Tryz.prog Tryz.f13 false true false false) := by
  refine Tk.lifts (C := Tryz.checked) (c_own) c_laid (by kernel_rfl) Tryz.func13 (A := Tk.cPatchGood.A) (by kernel_rfl) (tb := 4) rfl Tryz.underlying4 rfl ?_ Tk.cPatchGood_ok (fun x _ => ⟨trivial, rfl⟩) started
    (ChangeSpec.witness6 (enc := enc) (C := Tryz.checked) false ⟨#[], #[.slice none 0 0, .slice none 0 0, .slice none 0 0], []⟩ 8 (by kernel_rfl) (by kernel_rfl) (by kernel_rfl) (by kernel_rfl))
  intro ds hl
  have hl : ds.length = 3 := hl
  match ds, hl with
    | [d0, d1, d2], _ => rfl
theorem PatchGood_holds : Rows.PatchGoodSaid :=
  OpenClaim.holds_of_wide 13 Tryz.f13 rfl rfl rfl rfl rfl rfl rfl ⟨rfl, rfl, rfl, rfl, rfl⟩ rfl rfl rfl rfl rfl (by kernel_rfl) Tryz.func13 (by kernel_rfl)
    (of_decide_eq_true (by kernel_rfl)) (by unfold Func.isWrapper; first | (rw [if_pos (by decide +kernel)]; kernel_rfl) | (rw [if_neg (by decide +kernel)]; exact ⟨rfl, rfl⟩))
    (fun os started H enc _ => cPatchGood_lifted os started H enc)
#print axioms PatchGood_holds
end Go.Proofs.YtjimjngkeaaifaaGreat
