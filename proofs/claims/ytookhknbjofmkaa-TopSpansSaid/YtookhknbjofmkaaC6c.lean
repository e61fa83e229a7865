import Derived.Test.YtookhknbjofmkaaC6b
set_option linter.unusedSimpArgs false
set_option linter.unusedVariables false
namespace Go.Tk
open Go Go.RowKit

theorem set_set_same {α : Type} (l : List α) (i : Nat) (x y : α) : (l.set i x).set i y = l.set i y := by simp

theorem join_take {a b : List Rng} {i : Nat} (ha : i < a.length) (hb : i < b.length) :
    (((join hull2 a b).take i ++ a.drop i).set i (hull2 (a.getD i tR.dflt) (b.getD i tR.dflt))) = (join hull2 a b).take (i + 1) ++ a.drop (i + 1) := by
  have hl : ((join hull2 a b).take i).length = i := by simp [join]; omega
  unfold join at *
  rw [zip_snoc2 hull2 tR.dflt tR.dflt ha hb, List.append_assoc]
  rw [List.set_append_right _ _ (by omega), hl, Nat.sub_self]
  congr 1
  rw [show a.drop i = a.getD i tR.dflt :: a.drop (i + 1) by
    rw [List.getD_eq_getElem?_getD, List.getElem?_eq_getElem ha, Option.getD_some, List.getElem_cons_drop]]
  rfl

theorem join_take_get {a b : List Rng} {i : Nat} (ha : i < a.length) (hb : i < b.length) : ((join hull2 a b).take i ++ a.drop i).getD i tR.dflt = a.getD i tR.dflt := by
  have hl : ((join hull2 a b).take i).length = i := by simp [join]; omega
  rw [List.getD_eq_getElem?_getD, List.getElem?_append_right (by omega), hl, Nat.sub_self, List.getElem?_drop, Nat.add_zero, ← List.getD_eq_getElem?_getD]

theorem isRange_meet {r s : Rng} (h1 : isRange r = true) (h2 : isRange s = true) : isRange (meet2 r s) = decide (max r.1 s.1 ≤ min r.2.1 s.2.1) := by
  rw [Bool.eq_iff_iff, isRange_iff, decide_eq_true_eq]
  rw [isRange_iff] at *
  unfold meet2
  dsimp only
  omega

end Go.Tk
