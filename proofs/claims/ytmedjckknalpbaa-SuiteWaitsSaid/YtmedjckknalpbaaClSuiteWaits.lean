/- The statement SuiteWaits: for every input the law returns true, and its arguments read as before. No conditions. -/
import Derived.Test.YtmedjckknalpbaaC8v
import Derived.Test.YtmedjckknalpbaaEngR
import Derived.Test.YtmedjckknalpbaaRows
namespace Go.Proofs.Ytmedjckknalpbaa
open Go.ChangeShapes Go.WideShapes Go.ChangeAt Go.RowKit
theorem c_own : ownKnob Try.prog.godebug = none := by kernel_rfl
theorem c_laid : laidOutB Try.prog = true := by kernel_rfl
theorem cWaitsL_lifted (os : Os) (started : os.Started) (H : Type) (enc : TypeId × Value → H) :
    ReturnsInHanded {} Try.checked os 14 .any (Rows.suiteWaitsSpec.pre6 enc Try.prog Try.f14 Rows.suiteWaitsRow.domain false) (Rows.suiteWaitsSpec.post enc Try.prog Try.f14 false true false false) := by
  refine Tk.lifts (C := Try.checked) (c_own) c_laid (by kernel_rfl) Try.func14 (A := Tk.cWaitsL.A) (by kernel_rfl) (tb := 4) rfl Try.underlying4 rfl ?_ Tk.cWaitsL_ok (fun x _ => ⟨trivial, rfl⟩) started
    (ChangeSpec.witness6 (enc := enc) (C := Try.checked) false ⟨#[], #[.slice none 0 0, .slice none 0 0], []⟩ 8 (by kernel_rfl) (by kernel_rfl) (by kernel_rfl) (by kernel_rfl))
  intro ds hl
  have hl : ds.length = 2 := hl
  match ds, hl with
    | [d0, d1], _ => rfl
theorem SuiteWaits_holds : Rows.SuiteWaitsSaid :=
  OpenClaim.holds_of_wide 14 Try.f14 rfl rfl rfl rfl rfl rfl rfl ⟨rfl, rfl, rfl, rfl, rfl⟩ rfl rfl rfl rfl rfl (by kernel_rfl) Try.func14 (by kernel_rfl)
    (of_decide_eq_true (by kernel_rfl)) (by unfold Func.isWrapper; first | (rw [if_pos (by decide +kernel)]; kernel_rfl) | (rw [if_neg (by decide +kernel)]; exact ⟨rfl, rfl⟩))
    (fun os started H enc _ => cWaitsL_lifted os started H enc)
#print axioms SuiteWaits_holds
end Go.Proofs.Ytmedjckknalpbaa
