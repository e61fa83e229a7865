/- The statement TopCodes: for every input the law returns true, and its arguments read as before. No conditions. -/
import Derived.Test.YtgimfjbnbnnjeaaC1w
import Derived.Test.YtgimfjbnbnnjeaaEngR
import Derived.Test.YtgimfjbnbnnjeaaRows
namespace Go.Proofs.Ytgimfjbnbnnjeaa
open Go.ChangeShapes Go.WideShapes Go.ChangeAt Go.RowKit
theorem c_own : ownKnob Try.prog.godebug = none := by kernel_rfl
theorem c_laid : laidOutB Try.prog = true := by kernel_rfl
theorem cTopCodes_lifted (os : Os) (started : os.Started) (H : Type) (enc : TypeId × Value → H) :
    ReturnsInHanded {} Try.checked os 3 .any (Rows.topCodesSpec.pre6 enc Try.prog Try.f3 Rows.topCodesRow.domain false) (Rows.topCodesSpec.post enc Try.prog Try.f3 false true false false) := by
  refine Tk.lifts (C := Try.checked) (c_own) c_laid (by kernel_rfl) Try.func3 (A := Tk.cTopCodes.A) (by kernel_rfl) (tb := 4) rfl Try.underlying4 rfl ?_ Tk.cTopCodes_ok (fun x _ => ⟨trivial, rfl⟩) started
    (ChangeSpec.witness6 (enc := enc) (C := Try.checked) false ⟨#[], #[.slice none 0 0, .agg #[.slice none 0 0, .int .i64 0], .slice none 0 0], []⟩ 8 (by kernel_rfl) (by kernel_rfl) (by kernel_rfl) (by kernel_rfl))
  intro ds hl
  have hl : ds.length = 3 := hl
  match ds, hl with
    | [d0, d1, d2], _ => rfl
theorem TopCodes_holds : Rows.TopCodesSaid :=
  OpenClaim.holds_of_wide 3 Try.f3 rfl rfl rfl rfl rfl rfl rfl ⟨rfl, rfl, rfl, rfl, rfl⟩ rfl rfl rfl rfl rfl (by kernel_rfl) Try.func3 (by kernel_rfl)
    (of_decide_eq_true (by kernel_rfl)) (by unfold Func.isWrapper; first | (rw [if_pos (by decide +kernel)]; kernel_rfl) | (rw [if_neg (by decide +kernel)]; exact ⟨rfl, rfl⟩))
    (fun os started H enc _ => cTopCodes_lifted os started H enc)
#print axioms TopCodes_holds
end Go.Proofs.Ytgimfjbnbnnjeaa
