/- The statement CheckExtremes: for every input the law returns true, and its arguments read as before. No conditions. -/
import Derived.Test.YtolbkaphghjeeaaC2x
import Derived.Test.YtolbkaphghjeeaaEngR
import Derived.Test.YtolbkaphghjeeaaRows
namespace Go.Proofs.Ytolbkaphghjeeaa
open Go.ChangeShapes Go.WideShapes Go.ChangeAt Go.RowKit
theorem c_own : ownKnob Try.prog.godebug = none := by kernel_rfl
theorem c_laid : laidOutB Try.prog = true := by kernel_rfl
theorem cExtremesL_lifted (os : Os) (started : os.Started) (H : Type) (enc : TypeId × Value → H) :
    ReturnsInHanded {} Try.checked os 13 .any (Rows.checkExtremesSpec.pre6 enc Try.prog Try.f13 Rows.checkExtremesRow.domain false) (Rows.checkExtremesSpec.post enc Try.prog Try.f13 false true false false) := by
  refine Tk.lifts (C := Try.checked) (c_own) c_laid (by kernel_rfl) Try.func13 (A := Tk.cExtremesL.A) (by kernel_rfl) (tb := 4) rfl Try.underlying4 rfl ?_ Tk.cExtremesL_ok (fun x _ => ⟨trivial, rfl⟩) started
    (ChangeSpec.witness6 (enc := enc) (C := Try.checked) false ⟨#[], #[.slice none 0 0, .agg #[.slice none 0 0, .slice none 0 0, .int .i64 0, .int .i64 0, .int .i64 0]], []⟩ 8 (by kernel_rfl) (by kernel_rfl) (by kernel_rfl) (by kernel_rfl))
  intro ds hl
  have hl : ds.length = 2 := hl
  match ds, hl with
    | [d0, d1], _ => rfl
theorem CheckExtremes_holds : Rows.CheckExtremesSaid :=
  OpenClaim.holds_of_wide 13 Try.f13 rfl rfl rfl rfl rfl rfl rfl ⟨rfl, rfl, rfl, rfl, rfl⟩ rfl rfl rfl rfl rfl (by kernel_rfl) Try.func13 (by kernel_rfl)
    (of_decide_eq_true (by kernel_rfl)) (by unfold Func.isWrapper; first | (rw [if_pos (by decide +kernel)]; kernel_rfl) | (rw [if_neg (by decide +kernel)]; exact ⟨rfl, rfl⟩))
    (fun os started H enc _ => cExtremesL_lifted os started H enc)
#print axioms CheckExtremes_holds
end Go.Proofs.Ytolbkaphghjeeaa
