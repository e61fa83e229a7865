/- The statement CheckRanks: for every input the law returns true, and its arguments read as before. No conditions. -/
import Derived.Test.YtolbkaphghjeeaaMg2
import Derived.Test.YtolbkaphghjeeaaEngR
import Derived.Test.YtolbkaphghjeeaaRows
namespace Go.Proofs.Ytolbkaphghjeeaa
open Go.ChangeShapes Go.WideShapes Go.ChangeAt Go.RowKit
theorem c_own : ownKnob Try.prog.godebug = none := by kernel_rfl
theorem c_laid : laidOutB Try.prog = true := by kernel_rfl
theorem cRanksL_lifted (os : Os) (started : os.Started) (H : Type) (enc : TypeId × Value → H) :
    ReturnsInHanded {} Try.checked os 15 .any (Rows.checkRanksSpec.pre6 enc Try.prog Try.f15 Rows.checkRanksRow.domain false) (Rows.checkRanksSpec.post enc Try.prog Try.f15 false true false false) := by
  refine Tk.lifts (C := Try.checked) (c_own) c_laid (by kernel_rfl) Try.func15 (A := Tk.cRanksL.A) (by kernel_rfl) (tb := 4) rfl Try.underlying4 rfl ?_ Tk.cRanksL_ok (fun x _ => ⟨trivial, rfl⟩) started
    (ChangeSpec.witness6 (enc := enc) (C := Try.checked) false ⟨#[], #[.slice none 0 0, .slice none 0 0], []⟩ 8 (by kernel_rfl) (by kernel_rfl) (by kernel_rfl) (by kernel_rfl))
  intro ds hl
  have hl : ds.length = 2 := hl
  match ds, hl with
    | [d0, d1], _ => rfl
theorem CheckRanks_holds : Rows.CheckRanksSaid :=
  OpenClaim.holds_of_wide 15 Try.f15 rfl rfl rfl rfl rfl rfl rfl ⟨rfl, rfl, rfl, rfl, rfl⟩ rfl rfl rfl rfl rfl (by kernel_rfl) Try.func15 (by kernel_rfl)
    (of_decide_eq_true (by kernel_rfl)) (by unfold Func.isWrapper; first | (rw [if_pos (by decide +kernel)]; kernel_rfl) | (rw [if_neg (by decide +kernel)]; exact ⟨rfl, rfl⟩))
    (fun os started H enc _ => cRanksL_lifted os started H enc)
#print axioms CheckRanks_holds
end Go.Proofs.Ytolbkaphghjeeaa
