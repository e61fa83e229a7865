/- The statement SuiteGreedies: for every input the law returns true, and its arguments read as before. No conditions. -/
import Derived.Test.YtmedjckknalpbaaMg3
import Derived.Test.YtmedjckknalpbaaEngR
import Derived.Test.YtmedjckknalpbaaRows
namespace Go.Proofs.Ytmedjckknalpbaa
open Go.ChangeShapes Go.WideShapes Go.ChangeAt Go.RowKit
theorem c_own : ownKnob Try.prog.godebug = none := by kernel_rfl
theorem c_laid : laidOutB Try.prog = true := by kernel_rfl
theorem cGreediesL_lifted (os : Os) (started : os.Started) (H : Type) (enc : TypeId × Value → H) :
    ReturnsInHanded {} Try.checked os 16 .any (Rows.suiteGreediesSpec.pre6 enc Try.prog Try.f16 Rows.suiteGreediesRow.domain false) (Rows.suiteGreediesSpec.post enc Try.prog Try.f16 false true false false) := by
  refine Tk.lifts (C := Try.checked) (c_own) c_laid (by kernel_rfl) Try.func16 (A := Tk.cGreediesL.A) (by kernel_rfl) (tb := 4) rfl Try.underlying4 rfl ?_ Tk.cGreediesL_ok (fun x _ => ⟨trivial, rfl⟩) started
    (ChangeSpec.witness6 (enc := enc) (C := Try.checked) false ⟨#[], #[.slice none 0 0], []⟩ 8 (by kernel_rfl) (by kernel_rfl) (by kernel_rfl) (by kernel_rfl))
  intro ds hl
  have hl : ds.length = 1 := hl
  match ds, hl with
    | [d0], _ => rfl
theorem SuiteGreedies_holds : Rows.SuiteGreediesSaid :=
  OpenClaim.holds_of_wide 16 Try.f16 rfl rfl rfl rfl rfl rfl rfl ⟨rfl, rfl, rfl, rfl, rfl⟩ rfl rfl rfl rfl rfl (by kernel_rfl) Try.func16 (by kernel_rfl)
    (of_decide_eq_true (by kernel_rfl)) (by unfold Func.isWrapper; first | (rw [if_pos (by decide +kernel)]; kernel_rfl) | (rw [if_neg (by decide +kernel)]; exact ⟨rfl, rfl⟩))
    (fun os started H enc _ => cGreediesL_lifted os started H enc)
#print axioms SuiteGreedies_holds
end Go.Proofs.Ytmedjckknalpbaa
