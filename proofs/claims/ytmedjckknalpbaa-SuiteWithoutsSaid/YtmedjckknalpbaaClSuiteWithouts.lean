/- The statement SuiteWithouts: for every input the law returns true, and its arguments read as before. No conditions. -/
import Derived.Test.YtmedjckknalpbaaMg5
import Derived.Test.YtmedjckknalpbaaEngR
import Derived.Test.YtmedjckknalpbaaRows
namespace Go.Proofs.Ytmedjckknalpbaa
open Go.ChangeShapes Go.WideShapes Go.ChangeAt Go.RowKit
theorem c_own : ownKnob Try.prog.godebug = none := by kernel_rfl
theorem c_laid : laidOutB Try.prog = true := by kernel_rfl
theorem cWithouts_lifted (os : Os) (started : os.Started) (H : Type) (enc : TypeId × Value → H) :
    ReturnsInHanded {} Try.checked os 10 .any (Rows.suiteWithoutsSpec.pre6 enc Try.prog Try.f10 Rows.suiteWithoutsRow.domain false) (Rows.suiteWithoutsSpec.post enc Try.prog Try.f10 false true false false) := by
  refine Tk.lifts (C := Try.checked) (c_own) c_laid (by kernel_rfl) Try.func10 (A := Tk.cWithouts.A) (by kernel_rfl) (tb := 4) rfl Try.underlying4 rfl ?_ Tk.cWithouts_ok (fun x _ => ⟨trivial, rfl⟩) started
    (ChangeSpec.witness6 (enc := enc) (C := Try.checked) false ⟨#[], #[.slice none 0 0, .int .i64 0], []⟩ 8 (by kernel_rfl) (by kernel_rfl) (by kernel_rfl) (by kernel_rfl))
  intro ds hl
  have hl : ds.length = 2 := hl
  match ds, hl with
    | [d0, d1], _ => rfl
theorem SuiteWithouts_holds : Rows.SuiteWithoutsSaid :=
  OpenClaim.holds_of_wide 10 Try.f10 rfl rfl rfl rfl rfl rfl rfl ⟨rfl, rfl, rfl, rfl, rfl⟩ rfl rfl rfl rfl rfl (by kernel_rfl) Try.func10 (by kernel_rfl)
    (of_decide_eq_true (by kernel_rfl)) (by unfold Func.isWrapper; first | (rw [if_pos (by decide +kernel)]; kernel_rfl) | (rw [if_neg (by decide +kernel)]; exact ⟨rfl, rfl⟩))
    (fun os started H enc _ => cWithouts_lifted os started H enc)
#print axioms SuiteWithouts_holds
end Go.Proofs.Ytmedjckknalpbaa
