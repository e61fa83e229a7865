/- The statement SpanLosses: for every input the law returns true, and its arguments read as before. No conditions. -/
import Derived.Test.YtblegpocdjoihaaC6t
import Derived.Test.YtblegpocdjoihaaEngR
import Derived.Test.YtblegpocdjoihaaRows
namespace Go.Proofs.Ytblegpocdjoihaa
open Go.ChangeShapes Go.WideShapes Go.ChangeAt Go.RowKit
theorem c_own : ownKnob Try.prog.godebug = none := by kernel_rfl
theorem c_laid : laidOutB Try.prog = true := by kernel_rfl
theorem cSpanLosses_lifted (os : Os) (started : os.Started) (H : Type) (enc : TypeId × Value → H) :
    ReturnsInHanded {} Try.checked os 13 .any (Rows.spanLossesSpec.pre6 enc Try.prog Try.f13 Rows.spanLossesRow.domain false) (Rows.spanLossesSpec.post enc Try.prog Try.f13 false true false false) := by
  refine Tk.lifts (C := Try.checked) (c_own) c_laid (by kernel_rfl) Try.func13 (A := Tk.cSpanLosses.A) (by kernel_rfl) (tb := 4) rfl Try.underlying4 rfl ?_ Tk.cSpanLosses_ok (fun x _ => ⟨trivial, rfl⟩) started
    (ChangeSpec.witness6 (enc := enc) (C := Try.checked) false ⟨#[], #[.slice none 0 0, .agg #[.slice none 0 0, .slice none 0 0, .int .i64 0, .int .i64 0, .int .i64 0]], []⟩ 8 (by kernel_rfl) (by kernel_rfl) (by kernel_rfl) (by kernel_rfl))
  intro ds hl
  have hl : ds.length = 2 := hl
  match ds, hl with
    | [d0, d1], _ => rfl
theorem SpanLosses_holds : Rows.SpanLossesSaid :=
  OpenClaim.holds_of_wide 13 Try.f13 rfl rfl rfl rfl rfl rfl rfl ⟨rfl, rfl, rfl, rfl, rfl⟩ rfl rfl rfl rfl rfl (by kernel_rfl) Try.func13 (by kernel_rfl)
    (of_decide_eq_true (by kernel_rfl)) (by unfold Func.isWrapper; first | (rw [if_pos (by decide +kernel)]; kernel_rfl) | (rw [if_neg (by decide +kernel)]; exact ⟨rfl, rfl⟩))
    (fun os started H enc _ => cSpanLosses_lifted os started H enc)
#print axioms SpanLosses_holds
end Go.Proofs.Ytblegpocdjoihaa
