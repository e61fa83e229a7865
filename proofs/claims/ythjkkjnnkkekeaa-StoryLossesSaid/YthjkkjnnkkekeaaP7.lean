/- Plain facts: patches and histories (layers 4, 7). No program in sight. -/
import Derived.Test.YthjkkjnnkkekeaaP1
set_option linter.unusedSimpArgs false
set_option linter.unusedVariables false
set_option linter.unnecessarySimpa false
namespace Go.Tk
open Go Go.RowKit

def edOK (x : List Edt) (i : Nat) : Bool := !(decide ((x.getD i tEd.dflt).1 < 0) || decide ((x.getD i tEd.dflt).1 ≥ 8) || (decide (i > 0) && decide ((x.getD (i - 1) tEd.dflt).1 ≥ (x.getD i tEd.dflt).1)) || !(validLine (x.getD i tEd.dflt).2.1))
def okTo (x : List Edt) : Nat → Bool
  | 0 => true
  | i + 1 => okTo x i && edOK x i
def validX (x : List Edt) : Int := if x.length > 4 then 3 else argErr (okTo x x.length)
theorem okTo_false {x : List Edt} {i : Nat} (h : edOK x i = false) : ∀ n, i < n → okTo x n = false
  | 0, hn => by omega
  | n + 1, hn => by
    unfold okTo
    by_cases e : i = n
    · subst e; rw [h, Bool.and_false]
    · rw [okTo_false h n (by omega), Bool.false_and]
theorem okTo_at {x : List Edt} : ∀ n, okTo x n = true → ∀ i, i < n → edOK x i = true
  | 0, _, i, hi => by omega
  | n + 1, h, i, hi => by
    unfold okTo at h
    rw [Bool.and_eq_true] at h
    by_cases e : i = n
    · subst e; exact h.2
    · exact okTo_at n h.1 i (by omega)
def far (n : Nat) (x : List Edt) : Bool := x.any fun e => decide (e.1 ≥ (n : Int))
def errH (n : Nat) : List (List Edt) → Int
  | [] => 0
  | x :: hs => if validX x = 0 then (if far n x = true then 4 else errH n hs) else validX x
def err7 (p : List Lin) (h : List (List Edt)) : Int := if validP p = 0 then (if h.length > 8 then 3 else errH p.length h) else validP p
def playX (p : List Lin) (x : List Edt) : List Lin := x.foldl (fun o e => o.set e.1.toNat e.2.1) p
def playH (p : List Lin) (h : List (List Edt)) : List Lin := h.foldl playX p
theorem playX_len (x : List Edt) : ∀ p, (playX p x).length = p.length := by
  induction x with
  | nil => intro p; rfl
  | cons e x ih => intro p; show (playX (p.set e.1.toNat e.2.1) x).length = _; rw [ih, List.length_set]
theorem playH_len (h : List (List Edt)) : ∀ p, (playH p h).length = p.length := by
  induction h with
  | nil => intro p; rfl
  | cons x h ih => intro p; show (playH (playX p x) h).length = _; rw [ih, playX_len]
theorem playX_take (p : List Lin) (x : List Edt) {i : Nat} (hi : i < x.length) : playX p (x.take (i + 1)) = (playX p (x.take i)).set (x.getD i tEd.dflt).1.toNat (x.getD i tEd.dflt).2.1 := by
  unfold playX
  rw [take_snoc tEd.dflt hi, List.foldl_append]; rfl
theorem playH_take (p : List Lin) (h : List (List Edt)) {i : Nat} (hi : i < h.length) : playH p (h.take (i + 1)) = playX (playH p (h.take i)) (h.getD i []) := by
  unfold playH
  rw [take_snoc [] hi, List.foldl_append]; rfl
/-- What is known of a history that is right. -/
def okH (n : Nat) (h : List (List Edt)) : Prop := ∀ x ∈ h, ∀ e ∈ x, 0 ≤ e.1 ∧ e.1 < n
theorem validX_ok {x : List Edt} (h : validX x = 0) : x.length ≤ 4 ∧ ∀ e ∈ x, 0 ≤ e.1 ∧ e.1 < 8 := by
  unfold validX at h
  split at h
  · omega
  · refine ⟨by omega, fun e he => ?_⟩
    obtain ⟨i, hi, rfl⟩ := List.getElem_of_mem he
    have g := okTo_at _ (argErr_zero.1 h) i hi
    unfold edOK at g
    have ee : x.getD i tEd.dflt = x[i] := by simp [List.getD_eq_getElem?_getD, hi]
    rw [ee] at g
    simp at g
    omega
theorem errH_ok {n : Nat} : ∀ {h : List (List Edt)}, errH n h = 0 → okH n h ∧ ∀ x ∈ h, x.length ≤ 4
  | [], _ => ⟨fun x hx => by simp at hx, fun x hx => by simp at hx⟩
  | x :: hs, e => by
    unfold errH at e
    split at e
    · rename_i hv
      split at e
      · cases e
      · rename_i hf
        obtain ⟨i1, i2⟩ := errH_ok e
        obtain ⟨v1, v2⟩ := validX_ok hv
        refine ⟨fun y hy q hq => ?_, fun y hy => ?_⟩
        · rcases List.mem_cons.1 hy with rfl | hy
          · have := List.any_eq_false.1 (Bool.eq_false_iff.2 hf) q hq
            have h2 := v2 q hq
            simp at this
            omega
          · exact i1 y hy q hq
        · rcases List.mem_cons.1 hy with rfl | hy
          · exact v1
          · exact i2 y hy
    · rename_i hv; exact absurd e hv
theorem err7_ok {p : List Lin} {h : List (List Edt)} (e : err7 p h = 0) : validP p = 0 ∧ h.length ≤ 8 ∧ okH p.length h ∧ ∀ x ∈ h, x.length ≤ 4 := by
  unfold err7 at e
  split at e
  · rename_i hv
    split at e
    · cases e
    · obtain ⟨a, b⟩ := errH_ok e
      exact ⟨hv, by omega, a, b⟩
  · rename_i hv; exact absurd e hv
end Go.Tk
