/- Merged: P1 C1 P7 C7 C7s C7r EngX P4m C4a P4n C4b C4d C4e C4c P4o. -/
import Derived.Test.YthjkkjnnkkekeaaTy
import Derived.Test.YthjkkjnnkkekeaaEngW
import Derived.Lib.SlKeysI
import Derived.Lib.SlMapMerge
import Derived.Maps.Views
import Derived.WalkKit
import Derived.Maps.OwnSet
import Derived.Maps.Range
import Derived.Maps.RangeWalk
import Derived.Shelf.SlIterI.Keys
import Derived.Shelf.SlIterI.Sorted
import Derived.Shelf.SlIterI.Collect
import Derived.Shelf.SortM.Plain
import Derived.Shelf.SortM.SortNone
import Derived.Ground.GgzProg
import Derived.Ground.SlgmProg
/- Plain facts: lists, numbers, and what the functions of layer 1 (code) give. No program in sight. -/
set_option linter.unusedSimpArgs false
set_option linter.unusedVariables false
namespace Go.Tk
open Go Go.RowKit

/-- From the end down: for loops that count up. -/
theorem upto {n : Nat} {Q : Nat → Prop} (last : Q n) (step : ∀ i, i < n → Q (i + 1) → Q i) : ∀ i, i ≤ n → Q i := by
  intro i hi
  obtain ⟨k, rfl⟩ : ∃ k, n = i + k := ⟨n - i, by omega⟩
  clear hi
  induction k generalizing i with
  | zero => exact last
  | succ k ih =>
    have e : i + (k + 1) = i + 1 + k := by omega
    rw [e] at last step
    exact step i (by omega) (ih (i + 1) last step)

theorem all_take_next {α : Type} {p : α → Bool} {l : List α} {i : Nat} (d : α) (h : i < l.length) (h1 : (l.take i).all p = true) (h2 : p (l.getD i d) = true) : (l.take (i + 1)).all p = true := by
  rw [take_snoc d h, List.all_append, h1]; simp only [List.all_cons, h2]; rfl

theorem all_false_at {α : Type} {p : α → Bool} {l : List α} {i : Nat} (d : α) (h : i < l.length) (h2 : p (l.getD i d) = false) : l.all p = false := by
  rw [List.all_eq_false]
  refine ⟨l[i], List.getElem_mem h, ?_⟩
  simp [List.getD_eq_getElem?_getD, h] at h2
  simp [h2]

theorem mem_getD {α : Type} {d : α} {l : List α} {i : Nat} (h : i < l.length) : l.getD i d ∈ l := by
  simp [List.getD_eq_getElem?_getD, h]

theorem findIdx?_at {α : Type} {p : α → Bool} {l : List α} {i : Nat} (d : α) (h : i < l.length) (h1 : (l.take i).any p = false) (h2 : p (l.getD i d) = true) : l.findIdx? p = some i := by
  rw [List.findIdx?_eq_some_iff_getElem]
  refine ⟨h, by simpa [List.getD_eq_getElem?_getD, h] using h2, fun j hj => ?_⟩
  rw [List.any_eq_false] at h1
  have := h1 (l[j]) (by rw [List.mem_take_iff_getElem]; exact ⟨j, by omega, rfl⟩)
  simpa using this

theorem any_take_next {α : Type} {p : α → Bool} {l : List α} {i : Nat} (d : α) (h : i < l.length) (h1 : (l.take i).any p = false) (h2 : p (l.getD i d) = false) : (l.take (i + 1)).any p = false := by
  rw [take_snoc d h, List.any_append, h1]; simp only [List.any_cons, h2]; rfl

/-- The place of the first element with a property, as Go gives it. -/
def idxF {α : Type} (p : α → Bool) (l : List α) : Int := match l.findIdx? p with | some i => (i : Int) | none => -1

theorem idxF_any {α : Type} (p : α → Bool) (l : List α) : decide (idxF p l ≥ 0) = l.any p := by
  unfold idxF
  cases h : l.findIdx? p with
  | none =>
    rw [List.findIdx?_eq_none_iff] at h
    have : l.any p = false := by rw [List.any_eq_false]; intro x hx; simp [h x hx]
    rw [this]; rfl
  | some i =>
    rw [List.findIdx?_eq_some_iff_getElem] at h
    obtain ⟨h1, h2, _⟩ := h
    have : l.any p = true := List.any_eq_true.2 ⟨_, List.getElem_mem h1, h2⟩
    rw [this]
    simp

theorem idxF_at {α : Type} {p : α → Bool} {l : List α} {i : Nat} (d : α) (h : i < l.length) (h1 : (l.take i).any p = false) (h2 : p (l.getD i d) = true) : idxF p l = i := by
  unfold idxF; rw [findIdx?_at d h h1 h2]

theorem idxF_none {α : Type} {p : α → Bool} {l : List α} (h1 : l.any p = false) : idxF p l = -1 := by
  unfold idxF
  rw [List.findIdx?_eq_none_iff.2 (by intro x hx; rw [List.any_eq_false] at h1; simpa using h1 x hx)]

theorem any_not_all {α : Type} (p : α → Bool) (l : List α) : (l.any fun x => !p x) = !l.all p := by
  induction l with
  | nil => rfl
  | cons a l ih => simp [ih]

theorem beq_dec (a b : Int) : (a == b) = decide (a = b) := by by_cases h : a = b <;> simp [h]

theorem take_eq_next {α : Type} {a b : List α} {i : Nat} (d : α) (h : i < a.length) (hl : a.length = b.length) (h1 : a.take i = b.take i) (h2 : a.getD i d = b.getD i d) : a.take (i + 1) = b.take (i + 1) := by
  rw [take_snoc d h, take_snoc d (by omega), h1, h2]

theorem ne_at {α : Type} {a b : List α} {i : Nat} (d : α) (h2 : a.getD i d ≠ b.getD i d) : a ≠ b := fun e => h2 (by rw [e])

/-! ### Layer 1 -/
def within (n lo hi : Int) : Bool := decide (lo ≤ n) && decide (n ≤ hi)
def isReg (n : Int) : Bool := within n 0 3
def argErr (b : Bool) : Int := bif b then 0 else 1
def validLine (l : Lin) : Bool := match l with
  | (op, t, a, b, _) =>
    if op = 0 then decide (t = 0 ∧ a = 0 ∧ b = 0)
    else if op = 1 then isReg t && within a (-9) 9 && decide (b = 0)
    else if op = 2 then isReg t && isReg a && decide (b = 0)
    else if op = 3 ∨ op = 4 ∨ op = 5 ∨ op = 6 then isReg t && isReg a && isReg b
    else if op = 7 then within t 1 8 && isReg a && isReg b
    else false
def validP (p : List Lin) : Int := if p.length > 8 then 3 else argErr (p.all validLine)
def isVal (n : Int) : Bool := within n (-999) 999
def validS (s : List Int) : Bool := decide (s.length = 4) && s.all isVal

theorem within_iff {n lo hi : Int} : within n lo hi = true ↔ lo ≤ n ∧ n ≤ hi := by
  simp [within]

theorem argErr_zero {b : Bool} : argErr b = 0 ↔ b = true := by cases b <;> simp [argErr]

theorem validLine_regs {op t x y : Int} (h1 : validLine (op, t, x, y, ()) = true) : (2 ≤ op ∧ op ≤ 7 → 0 ≤ x ∧ x ≤ 3) ∧ (3 ≤ op ∧ op ≤ 7 → 0 ≤ y ∧ y ≤ 3) ∧ (1 ≤ op ∧ op ≤ 6 → 0 ≤ t ∧ t ≤ 3) ∧ (op = 7 → 1 ≤ t ∧ t ≤ 8) ∧ (op = 1 → -9 ≤ x ∧ x ≤ 9) ∧ 0 ≤ op ∧ op ≤ 7 := by
  unfold validLine at h1
  simp only at h1
  split at h1
  · omega
  · split at h1
    · simp [isReg, within] at h1; omega
    · split at h1
      · simp [isReg, within] at h1; omega
      · split at h1
        · simp [isReg, within] at h1; omega
        · split at h1
          · simp [isReg, within] at h1; omega
          · cases h1

theorem validP_ok {p : List Lin} (h : validP p = 0) : p.length ≤ 8 ∧ p.all validLine = true := by
  unfold validP at h
  split at h
  · omega
  · refine ⟨by omega, ?_⟩
    cases hh : p.all validLine
    · rw [hh] at h; exact absurd h (by decide)
    · rfl

end Go.Tk
set_option linter.unusedSimpArgs false
set_option linter.unusedVariables false
namespace Go.Tk
open Go Go.RowKit

theorem idx_nat {i n : Nat} (h : i < n) : idx (i : Int) (n : Int) := ⟨by omega, by omega⟩
theorem inI_succ {i n : Nat} (h : i < n) (hn : n ≤ 140737488355328) : inI ((i : Int) + 1) := by unfold inI; omega

abbrev cWithin1 : Con := { A := (.cons .int (.cons .int (.cons .int .nil))), R := (.cons .bool .nil), pre := fun x => True, F := fun x => (within x.1 x.2.1 x.2.2.1, ()) }
def cWithin1_0  (n : Int) (lo : Int) (hi : Int) (y0 : Bool) : Prop :=
  if (decide (n ≥ lo)) = true then (True ∧ ((bif true then (decide (n ≤ hi)) else false) = y0 ∧ True)) else (false = false ∧ (false = y0 ∧ True))
theorem cWithin1_law (h : ∀ (n : Int) (lo : Int) (hi : Int), cWithin1.A.wf (n, lo, hi, ()) → cWithin1_0  n lo hi (within n lo hi)) : ConOK Go.Proofs.Try.prog 114 cWithin1 := by
  refine lawL (Γ := []) (Θ := Th) (n := 15) [] trivial (by kernel_rfl) th_ok mix_ok Go.Proofs.Try.func114 (by kernel_rfl) ?_
  intro x hw hp Λ hC
  have h0 := h x.1 x.2.1 x.2.2.1 hw  
  exact Eq.mpr (by kernel_rfl) h0
theorem cWithin1_ok : ConOK Go.Proofs.Try.prog 114 cWithin1 := by
  refine cWithin1_law ?_
  intro n lo hi hw
  unfold cWithin1_0
  unfold within
  split <;> simp_all
  omega
abbrev cIsReg1 : Con := { A := (.cons .int .nil), R := (.cons .bool .nil), pre := fun x => True, F := fun x => (isReg x.1, ()) }
def cIsReg1_0  (n : Int) (y0 : Bool) : Prop :=
  True ∧ ((within n (0 : Int) (3 : Int)) = y0 ∧ True)
theorem cIsReg1_law (h : ∀ (n : Int), cIsReg1.A.wf (n, ()) → cIsReg1_0  n (isReg n)) : ConOK Go.Proofs.Try.prog 113 cIsReg1 := by
  refine lawL (Γ := [(114, cWithin1)]) (Θ := Th) (n := 5) [] ⟨cWithin1_ok, trivial⟩ (by kernel_rfl) th_ok mix_ok Go.Proofs.Try.func113 (by kernel_rfl) ?_
  intro x hw hp Λ hC
  have h0 := h x.1 hw  
  exact Eq.mpr (by kernel_rfl) h0
theorem cIsReg1_ok : ConOK Go.Proofs.Try.prog 113 cIsReg1 := by
  refine cIsReg1_law ?_
  intro n hw
  unfold cIsReg1_0
  exact ⟨trivial, rfl, trivial⟩
abbrev cValLine : Con := { A := (.cons tL .nil), R := (.cons .int .nil), pre := fun x => True, F := fun x => (argErr (validLine x.1), ()) }
def cValLine_0  (l : Lin) (y0 : Int) : Prop :=
  if (l.1 == (0 : Int)) = true then (if (!(T.eqB tL l (0, 0, 0, 0, ()))) = true then ((1 : Int) = y0 ∧ True) else ((0 : Int) = y0 ∧ True)) else (if (l.1 == (1 : Int)) = true then (True ∧ (if (isReg l.2.1) = true then (True ∧ (True ∧ (if (bif true then (within l.2.2.1 (-9 : Int) (9 : Int)) else false) = true then (True ∧ (if (!(bif true then (l.2.2.2.1 == (0 : Int)) else false)) = true then ((1 : Int) = y0 ∧ True) else ((0 : Int) = y0 ∧ True))) else (false = false ∧ ((1 : Int) = y0 ∧ True))))) else (false = false ∧ (false = false ∧ ((1 : Int) = y0 ∧ True))))) else (if (l.1 == (2 : Int)) = true then (True ∧ (if (isReg l.2.1) = true then (True ∧ (True ∧ (if (bif true then (isReg l.2.2.1) else false) = true then (True ∧ (if (!(bif true then (l.2.2.2.1 == (0 : Int)) else false)) = true then ((1 : Int) = y0 ∧ True) else ((0 : Int) = y0 ∧ True))) else (false = false ∧ ((1 : Int) = y0 ∧ True))))) else (false = false ∧ (false = false ∧ ((1 : Int) = y0 ∧ True))))) else (if (l.1 == (3 : Int)) = true then (if (l.1 == (3 : Int)) = true then (True ∧ (if (isReg l.2.1) = true then (True ∧ (True ∧ (if (bif true then (isReg l.2.2.1) else false) = true then (True ∧ (True ∧ (if (!(bif true then (isReg l.2.2.2.1) else false)) = true then ((1 : Int) = y0 ∧ True) else ((0 : Int) = y0 ∧ True)))) else (false = false ∧ ((1 : Int) = y0 ∧ True))))) else (false = false ∧ (false = false ∧ ((1 : Int) = y0 ∧ True))))) else (if (l.1 == (7 : Int)) = true then (True ∧ (if (within l.2.1 (1 : Int) (8 : Int)) = true then (True ∧ (True ∧ (if (bif true then (isReg l.2.2.1) else false) = true then (True ∧ (True ∧ (if (!(bif true then (isReg l.2.2.2.1) else false)) = true then ((1 : Int) = y0 ∧ True) else ((0 : Int) = y0 ∧ True)))) else (false = false ∧ ((1 : Int) = y0 ∧ True))))) else (false = false ∧ (false = false ∧ ((1 : Int) = y0 ∧ True))))) else ((1 : Int) = y0 ∧ True))) else (if (l.1 == (4 : Int)) = true then (if (l.1 == (4 : Int)) = true then (True ∧ (if (isReg l.2.1) = true then (True ∧ (True ∧ (if (bif true then (isReg l.2.2.1) else false) = true then (True ∧ (True ∧ (if (!(bif true then (isReg l.2.2.2.1) else false)) = true then ((1 : Int) = y0 ∧ True) else ((0 : Int) = y0 ∧ True)))) else (false = false ∧ ((1 : Int) = y0 ∧ True))))) else (false = false ∧ (false = false ∧ ((1 : Int) = y0 ∧ True))))) else (if (l.1 == (7 : Int)) = true then (True ∧ (if (within l.2.1 (1 : Int) (8 : Int)) = true then (True ∧ (True ∧ (if (bif true then (isReg l.2.2.1) else false) = true then (True ∧ (True ∧ (if (!(bif true then (isReg l.2.2.2.1) else false)) = true then ((1 : Int) = y0 ∧ True) else ((0 : Int) = y0 ∧ True)))) else (false = false ∧ ((1 : Int) = y0 ∧ True))))) else (false = false ∧ (false = false ∧ ((1 : Int) = y0 ∧ True))))) else ((1 : Int) = y0 ∧ True))) else (if (l.1 == (5 : Int)) = true then (if (l.1 == (5 : Int)) = true then (True ∧ (if (isReg l.2.1) = true then (True ∧ (True ∧ (if (bif true then (isReg l.2.2.1) else false) = true then (True ∧ (True ∧ (if (!(bif true then (isReg l.2.2.2.1) else false)) = true then ((1 : Int) = y0 ∧ True) else ((0 : Int) = y0 ∧ True)))) else (false = false ∧ ((1 : Int) = y0 ∧ True))))) else (false = false ∧ (false = false ∧ ((1 : Int) = y0 ∧ True))))) else (if (l.1 == (7 : Int)) = true then (True ∧ (if (within l.2.1 (1 : Int) (8 : Int)) = true then (True ∧ (True ∧ (if (bif true then (isReg l.2.2.1) else false) = true then (True ∧ (True ∧ (if (!(bif true then (isReg l.2.2.2.1) else false)) = true then ((1 : Int) = y0 ∧ True) else ((0 : Int) = y0 ∧ True)))) else (false = false ∧ ((1 : Int) = y0 ∧ True))))) else (false = false ∧ (false = false ∧ ((1 : Int) = y0 ∧ True))))) else ((1 : Int) = y0 ∧ True))) else (if (l.1 == (6 : Int)) = true then (True ∧ (if (isReg l.2.1) = true then (True ∧ (True ∧ (if (bif true then (isReg l.2.2.1) else false) = true then (True ∧ (True ∧ (if (!(bif true then (isReg l.2.2.2.1) else false)) = true then ((1 : Int) = y0 ∧ True) else ((0 : Int) = y0 ∧ True)))) else (false = false ∧ ((1 : Int) = y0 ∧ True))))) else (false = false ∧ (false = false ∧ ((1 : Int) = y0 ∧ True))))) else (if (l.1 == (7 : Int)) = true then (True ∧ (if (within l.2.1 (1 : Int) (8 : Int)) = true then (True ∧ (True ∧ (if (bif true then (isReg l.2.2.1) else false) = true then (True ∧ (True ∧ (if (!(bif true then (isReg l.2.2.2.1) else false)) = true then ((1 : Int) = y0 ∧ True) else ((0 : Int) = y0 ∧ True)))) else (false = false ∧ ((1 : Int) = y0 ∧ True))))) else (false = false ∧ (false = false ∧ ((1 : Int) = y0 ∧ True))))) else ((1 : Int) = y0 ∧ True))))))))
theorem cValLine_law (h : ∀ (l : Lin), cValLine.A.wf (l, ()) → cValLine_0  l (argErr (validLine l))) : ConOK Go.Proofs.Try.prog 97 cValLine := by
  refine lawL (Γ := [(113, cIsReg1), (114, cWithin1)]) (Θ := Th) (n := 76) [] ⟨cIsReg1_ok, cWithin1_ok, trivial⟩ (by kernel_rfl) th_ok mix_ok Go.Proofs.Try.func97 (by kernel_rfl) ?_
  intro x hw hp Λ hC
  have h0 := h x.1 hw  
  exact Eq.mpr (by kernel_rfl) h0
theorem cValLine_ok : ConOK Go.Proofs.Try.prog 97 cValLine := by
  refine cValLine_law ?_
  intro l hw
  unfold cValLine_0
  obtain ⟨op, t, a, b, ⟨⟩⟩ := l
  repeat' split
  all_goals (simp_all [validLine, argErr, T.eqB, T.dflt])
  rintro rfl
  by_cases h1 : t = 0 <;> by_cases h2 : a = 0 <;> by_cases h3 : b = 0 <;> simp_all
abbrev cValP : Con := { A := (.cons (.sl tL) .nil), R := (.cons .int .nil), pre := fun x => True, F := fun x => (validP x.1, ()) }
def cValP_0 (Λ1 : Int → Prop) (p : (List Lin)) (y0 : Int) : Prop :=
  if (decide ((List.length p : Int) > (8 : Int))) = true then ((3 : Int) = y0 ∧ True) else Λ1 (0 : Int)
def cValP_1 (Λ1 : Int → Prop) (p : (List Lin)) (y0 : Int)  (t11_1 : Int) : Prop :=
  if (decide (t11_1 < (List.length p : Int))) = true then (idx t11_1 (List.length p : Int) ∧ (True ∧ (if ((argErr (validLine (List.getD p (Int.toNat t11_1) tL.dflt))) != (0 : Int)) = true then ((argErr (validLine (List.getD p (Int.toNat t11_1) tL.dflt))) = y0 ∧ True) else (inI (t11_1 + (1 : Int)) ∧ Λ1 (t11_1 + (1 : Int)))))) else ((0 : Int) = y0 ∧ True)
theorem cValP_law (h : ∀ (p : (List Lin)), cValP.A.wf (p, ()) → ∀ (Λ1 : Int → Prop), (∀ (t11_1 : Int), cValP_1 Λ1 p (validP p) t11_1 → Λ1 t11_1) → cValP_0 Λ1 p (validP p)) : ConOK Go.Proofs.Try.prog 73 cValP := by
  refine lawL (Γ := [(97, cValLine)]) (Θ := Th) (n := 21) [([1, 1, 0, 1, 0], ⟨[(9, false), (10, true), (11, true)], []⟩)] ⟨cValLine_ok, trivial⟩ (by kernel_rfl) th_ok mix_ok Go.Proofs.Try.func73 (by kernel_rfl) ?_
  intro x hw hp Λ hC
  have h0 := h x.1 hw (fun t11_1 => Λ [1, 1, 0, 1, 0] ([(9, .d false (.sl tL) x.1), (10, .d true .int (List.length x.1 : Int)), (11, .d true .int t11_1)], [])) (fun t11_1 hb => hC [1, 1, 0, 1, 0] ([(9, .d false (.sl tL) x.1), (10, .d true .int (List.length x.1 : Int)), (11, .d true .int t11_1)], []) (Eq.mpr (by kernel_rfl) hb))
  exact Eq.mpr (by kernel_rfl) h0
theorem cValP_ok : ConOK Go.Proofs.Try.prog 73 cValP := by
  refine cValP_law ?_
  intro p hw Λ1 h1
  unfold cValP_0
  simp only [decide_eq_true_eq]
  split
  · refine ⟨?_, trivial⟩
    unfold validP
    rw [if_pos (by omega)]
  · rename_i h8
    refine upto (n := p.length) (Q := fun i => (p.take i).all validLine = true → Λ1 i) ?_ ?_ 0 (Nat.zero_le _) rfl
    · intro ha
      rw [List.take_length] at ha
      apply h1; unfold cValP_1; rw [if_neg (by simp)]
      refine ⟨?_, trivial⟩
      unfold validP
      rw [if_neg (by omega), ha]; rfl
    · intro i hi ih ha
      apply h1; unfold cValP_1; rw [if_pos (by simpa using hi)]
      refine ⟨idx_nat hi, trivial, ?_⟩
      rw [Int.toNat_natCast]
      cases hv : validLine (List.getD p i tL.dflt)
      · rw [if_pos (by rfl)]
        refine ⟨?_, trivial⟩
        unfold validP
        rw [if_neg (by omega), all_false_at (p := validLine) tL.dflt hi hv]
      · rw [if_neg (by simp [argErr])]
        exact ⟨inI_succ hi (by omega), ih (all_take_next tL.dflt hi ha hv)⟩
abbrev cIndexI : Con := { A := (.cons (.sl .int) (.cons (.fn (.cons .int .nil) (.cons .bool .nil)) .nil)), R := (.cons .int .nil), pre := fun x => ∀ r, inI r → x.2.1.1 (r, ()), F := fun x => (idxF (fun r => (x.2.1.2 (r, ())).1) x.1, ()) }
def cIndexI_0 (Λ1 : Int → Prop) (s : (List Int)) (f : (T.fn (.cons .int .nil) (.cons .bool .nil)).den) (y0 : Int) : Prop :=
  Λ1 (0 : Int)
def cIndexI_1 (Λ1 : Int → Prop) (s : (List Int)) (f : (T.fn (.cons .int .nil) (.cons .bool .nil)).den) (y0 : Int)  (t8_1 : Int) : Prop :=
  if (decide (t8_1 < (List.length s : Int))) = true then (idx t8_1 (List.length s : Int) ∧ (f.1 ((List.getD s (Int.toNat t8_1) 0), ()) ∧ (if ((f.2 ((List.getD s (Int.toNat t8_1) 0), ())).1) = true then (t8_1 = y0 ∧ True) else (inI (t8_1 + (1 : Int)) ∧ Λ1 (t8_1 + (1 : Int)))))) else ((-1 : Int) = y0 ∧ True)
theorem cIndexI_law (h : ∀ (s : (List Int)) (f : (T.fn (.cons .int .nil) (.cons .bool .nil)).den), cIndexI.A.wf (s, f, ()) → (∀ r, inI r → f.1 (r, ())) → ∀ (Λ1 : Int → Prop), (∀ (t8_1 : Int), cIndexI_1 Λ1 s f (idxF (fun r => (f.2 (r, ())).1) s) t8_1 → Λ1 t8_1) → cIndexI_0 Λ1 s f (idxF (fun r => (f.2 (r, ())).1) s)) : ConOK Go.Proofs.Try.prog 117 cIndexI := by
  refine lawL (Γ := []) (Θ := Th) (n := 19) [([1, 0, 1, 0], ⟨[(0, false), (1, false), (7, true), (8, true)], []⟩)] trivial (by kernel_rfl) th_ok mix_ok Go.Proofs.Try.func117 (by kernel_rfl) ?_
  intro x hw hp Λ hC
  have h0 := h x.1 x.2.1 hw hp (fun t8_1 => Λ [1, 0, 1, 0] ([(0, .d false (.sl .int) x.1), (1, .d false (.fn (.cons .int .nil) (.cons .bool .nil)) x.2.1), (7, .d true .int (List.length x.1 : Int)), (8, .d true .int t8_1)], [])) (fun t8_1 hb => hC [1, 0, 1, 0] ([(0, .d false (.sl .int) x.1), (1, .d false (.fn (.cons .int .nil) (.cons .bool .nil)) x.2.1), (7, .d true .int (List.length x.1 : Int)), (8, .d true .int t8_1)], []) (Eq.mpr (by kernel_rfl) hb))
  exact Eq.mpr (by kernel_rfl) h0
theorem cIndexI_ok : ConOK Go.Proofs.Try.prog 117 cIndexI := by
  refine cIndexI_law ?_
  intro s f hw hp Λ1 h1
  unfold cIndexI_0
  refine upto (n := s.length) (Q := fun i => (s.take i).any (fun r => (f.2 (r, ())).1) = false → Λ1 i) ?_ ?_ 0 (Nat.zero_le _) rfl
  · intro ha
    rw [List.take_length] at ha
    apply h1; unfold cIndexI_1; rw [if_neg (by simp), idxF_none ha]
    exact ⟨rfl, trivial⟩
  · intro i hi ih ha
    apply h1; unfold cIndexI_1; rw [if_pos (by simpa using hi), Int.toNat_natCast]
    refine ⟨idx_nat hi, hp _ (hw.1.2 _ (mem_getD hi)), ?_⟩
    cases hv : (f.2 (List.getD s i 0, ())).1
    · rw [if_neg (by simp)]
      exact ⟨inI_succ hi hw.1.1, ih (any_take_next (p := fun r => (f.2 (r, ())).1) 0 hi ha hv)⟩
    · rw [if_pos (by rfl), idxF_at (p := fun r => (f.2 (r, ())).1) 0 hi ha hv]
      exact ⟨rfl, trivial⟩
abbrev cContI : Con := { A := (.cons (.sl .int) (.cons (.fn (.cons .int .nil) (.cons .bool .nil)) .nil)), R := (.cons .bool .nil), pre := fun x => ∀ r, inI r → x.2.1.1 (r, ()), F := fun x => (x.1.any (fun r => (x.2.1.2 (r, ())).1), ()) }
def cContI_0  (s : (List Int)) (f : (T.fn (.cons .int .nil) (.cons .bool .nil)).den) (y0 : Bool) : Prop :=
  (∀ r, inI r → f.1 (r, ())) ∧ ((decide ((idxF (fun r => (f.2 (r, ())).1) s) ≥ (0 : Int))) = y0 ∧ True)
theorem cContI_law (h : ∀ (s : (List Int)) (f : (T.fn (.cons .int .nil) (.cons .bool .nil)).den), cContI.A.wf (s, f, ()) → (∀ r, inI r → f.1 (r, ())) → cContI_0  s f (s.any (fun r => (f.2 (r, ())).1))) : ConOK Go.Proofs.Try.prog 103 cContI := by
  refine lawL (Γ := [(117, cIndexI)]) (Θ := Th) (n := 9) [] ⟨cIndexI_ok, trivial⟩ (by kernel_rfl) th_ok mix_ok Go.Proofs.Try.func103 (by kernel_rfl) ?_
  intro x hw hp Λ hC
  have h0 := h x.1 x.2.1 hw hp  
  exact Eq.mpr (by kernel_rfl) h0
theorem cContI_ok : ConOK Go.Proofs.Try.prog 103 cContI := by
  refine cContI_law ?_
  intro s f hw hp
  unfold cContI_0
  exact ⟨hp, idxF_any _ _, trivial⟩
abbrev cNotVal1 : Con := { A := (.cons .int .nil), R := (.cons .bool .nil), pre := fun x => True, F := fun x => (!(isVal x.1), ()) }
def cNotVal1_0  (n : Int) (y0 : Bool) : Prop :=
  True ∧ ((!(within n (-999 : Int) (999 : Int))) = y0 ∧ True)
theorem cNotVal1_law (h : ∀ (n : Int), cNotVal1.A.wf (n, ()) → cNotVal1_0  n (!(isVal n))) : ConOK Go.Proofs.Try.prog 146 cNotVal1 := by
  refine lawL (Γ := [(114, cWithin1)]) (Θ := Th) (n := 6) [] ⟨cWithin1_ok, trivial⟩ (by kernel_rfl) th_ok mix_ok Go.Proofs.Try.func146 (by kernel_rfl) ?_
  intro x hw hp Λ hC
  have h0 := h x.1 hw  
  exact Eq.mpr (by kernel_rfl) h0
theorem cNotVal1_ok : ConOK Go.Proofs.Try.prog 146 cNotVal1 := by
  refine cNotVal1_law ?_
  intro n hw
  unfold cNotVal1_0
  exact ⟨trivial, rfl, trivial⟩
abbrev cValS : Con := { A := (.cons (.sl .int) .nil), R := (.cons .int .nil), pre := fun x => True, F := fun x => (argErr (validS x.1), ()) }
def cValS_0  (in_ : (List Int)) (y0 : Int) : Prop :=
  if ((List.length in_ : Int) != (4 : Int)) = true then (true = true ∧ ((1 : Int) = y0 ∧ True)) else ((∀ r, inI r → (fun (xx : (Int × Unit)) => True, fun (xx : (Int × Unit)) => (!(isVal xx.1), ())).1 (r, ())) ∧ (True ∧ (if (bif false then true else (in_.any (fun r => ((fun (xx : (Int × Unit)) => True, fun (xx : (Int × Unit)) => (!(isVal xx.1), ())).2 (r, ())).1))) = true then ((1 : Int) = y0 ∧ True) else ((0 : Int) = y0 ∧ True))))
theorem cValS_law (h : ∀ (in_ : (List Int)), cValS.A.wf (in_, ()) → cValS_0  in_ (argErr (validS in_))) : ConOK Go.Proofs.Try.prog 138 cValS := by
  refine lawL (Γ := [(103, cContI), (146, cNotVal1)]) (Θ := Th) (n := 10) [] ⟨cContI_ok, cNotVal1_ok, trivial⟩ (by kernel_rfl) th_ok mix_ok Go.Proofs.Try.func138 (by kernel_rfl) ?_
  intro x hw hp Λ hC
  have h0 := h x.1 hw  
  exact Eq.mpr (by kernel_rfl) h0
theorem cValS_ok : ConOK Go.Proofs.Try.prog 138 cValS := by
  refine cValS_law ?_
  intro in_ hw
  unfold cValS_0
  unfold validS
  simp only [bne_iff_ne, ne_eq]
  split
  · rename_i h4
    rw [show decide (in_.length = 4) = false by simp; omega]
    exact ⟨trivial, rfl, trivial⟩
  · rename_i h4
    rw [show decide (in_.length = 4) = true by simp; omega]
    refine ⟨fun _ _ => trivial, trivial, ?_⟩
    show if (in_.any fun r => !isVal r) = true then _ else _
    rw [any_not_all]
    cases in_.all isVal <;> exact ⟨rfl, trivial⟩
abbrev cCheck1 : Con := { A := (.cons (.sl tL) (.cons (.sl .int) .nil)), R := (.cons .int .nil), pre := fun x => True, F := fun x => ((if validP x.1 = 0 then argErr (validS x.2.1) else validP x.1), ()) }
def cCheck1_0  (p : (List Lin)) (in_ : (List Int)) (y0 : Int) : Prop :=
  True ∧ (if ((validP p) != (0 : Int)) = true then ((validP p) = y0 ∧ True) else (True ∧ ((argErr (validS in_)) = y0 ∧ True)))
theorem cCheck1_law (h : ∀ (p : (List Lin)) (in_ : (List Int)), cCheck1.A.wf (p, in_, ()) → cCheck1_0  p in_ (if validP p = 0 then argErr (validS in_) else validP p)) : ConOK Go.Proofs.Try.prog 133 cCheck1 := by
  refine lawL (Γ := [(73, cValP), (138, cValS)]) (Θ := Th) (n := 13) [] ⟨cValP_ok, cValS_ok, trivial⟩ (by kernel_rfl) th_ok mix_ok Go.Proofs.Try.func133 (by kernel_rfl) ?_
  intro x hw hp Λ hC
  have h0 := h x.1 x.2.1 hw  
  exact Eq.mpr (by kernel_rfl) h0
theorem cCheck1_ok : ConOK Go.Proofs.Try.prog 133 cCheck1 := by
  refine cCheck1_law ?_
  intro p in_ hw
  unfold cCheck1_0
  split <;> simp_all
/-! The reference's -/
abbrev cWithinR1 : Con := { A := (.cons .int (.cons .int (.cons .int .nil))), R := (.cons .bool .nil), pre := fun x => True, F := fun x => (within x.1 x.2.1 x.2.2.1, ()) }
def cWithinR1_0  (n : Int) (lo : Int) (hi : Int) (y0 : Bool) : Prop :=
  if (decide (n ≥ lo)) = true then (True ∧ ((bif true then (decide (n ≤ hi)) else false) = y0 ∧ True)) else (false = false ∧ (false = y0 ∧ True))
theorem cWithinR1_law (h : ∀ (n : Int) (lo : Int) (hi : Int), cWithinR1.A.wf (n, lo, hi, ()) → cWithinR1_0  n lo hi (within n lo hi)) : ConOK Go.Proofs.Try.prog 116 cWithinR1 := by
  refine lawL (Γ := []) (Θ := Th) (n := 15) [] trivial (by kernel_rfl) th_ok mix_ok Go.Proofs.Try.func116 (by kernel_rfl) ?_
  intro x hw hp Λ hC
  have h0 := h x.1 x.2.1 x.2.2.1 hw  
  exact Eq.mpr (by kernel_rfl) h0
theorem cWithinR1_ok : ConOK Go.Proofs.Try.prog 116 cWithinR1 := by
  refine cWithinR1_law ?_
  intro n lo hi hw
  unfold cWithinR1_0
  unfold within
  split <;> simp_all
  omega
abbrev cIsRegR1 : Con := { A := (.cons .int .nil), R := (.cons .bool .nil), pre := fun x => True, F := fun x => (isReg x.1, ()) }
def cIsRegR1_0  (n : Int) (y0 : Bool) : Prop :=
  True ∧ ((within n (0 : Int) (3 : Int)) = y0 ∧ True)
theorem cIsRegR1_law (h : ∀ (n : Int), cIsRegR1.A.wf (n, ()) → cIsRegR1_0  n (isReg n)) : ConOK Go.Proofs.Try.prog 115 cIsRegR1 := by
  refine lawL (Γ := [(116, cWithinR1)]) (Θ := Th) (n := 5) [] ⟨cWithinR1_ok, trivial⟩ (by kernel_rfl) th_ok mix_ok Go.Proofs.Try.func115 (by kernel_rfl) ?_
  intro x hw hp Λ hC
  have h0 := h x.1 hw  
  exact Eq.mpr (by kernel_rfl) h0
theorem cIsRegR1_ok : ConOK Go.Proofs.Try.prog 115 cIsRegR1 := by
  refine cIsRegR1_law ?_
  intro n hw
  unfold cIsRegR1_0
  exact ⟨trivial, rfl, trivial⟩
abbrev cIsLineR : Con := { A := (.cons tL .nil), R := (.cons .bool .nil), pre := fun x => True, F := fun x => (validLine x.1, ()) }
def cIsLineR_0  (l : Lin) (y0 : Bool) : Prop :=
  if (l.1 == (0 : Int)) = true then (if (l.2.1 == (0 : Int)) = true then (True ∧ (if (bif true then (l.2.2.1 == (0 : Int)) else false) = true then (True ∧ ((bif true then (l.2.2.2.1 == (0 : Int)) else false) = y0 ∧ True)) else (false = false ∧ (false = y0 ∧ True)))) else (false = false ∧ (false = false ∧ (false = y0 ∧ True)))) else (if (l.1 == (1 : Int)) = true then (True ∧ (if (isReg l.2.1) = true then (True ∧ (True ∧ (if (bif true then (within l.2.2.1 (-9 : Int) (9 : Int)) else false) = true then (True ∧ ((bif true then (l.2.2.2.1 == (0 : Int)) else false) = y0 ∧ True)) else (false = false ∧ (false = y0 ∧ True))))) else (false = false ∧ (false = false ∧ (false = y0 ∧ True))))) else (if (l.1 == (2 : Int)) = true then (True ∧ (if (isReg l.2.1) = true then (True ∧ (True ∧ (if (bif true then (isReg l.2.2.1) else false) = true then (True ∧ ((bif true then (l.2.2.2.1 == (0 : Int)) else false) = y0 ∧ True)) else (false = false ∧ (false = y0 ∧ True))))) else (false = false ∧ (false = false ∧ (false = y0 ∧ True))))) else (if (l.1 == (3 : Int)) = true then (if (l.1 == (3 : Int)) = true then (True ∧ (if (isReg l.2.1) = true then (True ∧ (True ∧ (if (bif true then (isReg l.2.2.1) else false) = true then (True ∧ (True ∧ ((bif true then (isReg l.2.2.2.1) else false) = y0 ∧ True))) else (false = false ∧ (false = y0 ∧ True))))) else (false = false ∧ (false = false ∧ (false = y0 ∧ True))))) else (if (l.1 == (7 : Int)) = true then (True ∧ (if (within l.2.1 (1 : Int) (8 : Int)) = true then (True ∧ (True ∧ (if (bif true then (isReg l.2.2.1) else false) = true then (True ∧ (True ∧ ((bif true then (isReg l.2.2.2.1) else false) = y0 ∧ True))) else (false = false ∧ (false = y0 ∧ True))))) else (false = false ∧ (false = false ∧ (false = y0 ∧ True))))) else (false = y0 ∧ True))) else (if (l.1 == (4 : Int)) = true then (if (l.1 == (4 : Int)) = true then (True ∧ (if (isReg l.2.1) = true then (True ∧ (True ∧ (if (bif true then (isReg l.2.2.1) else false) = true then (True ∧ (True ∧ ((bif true then (isReg l.2.2.2.1) else false) = y0 ∧ True))) else (false = false ∧ (false = y0 ∧ True))))) else (false = false ∧ (false = false ∧ (false = y0 ∧ True))))) else (if (l.1 == (7 : Int)) = true then (True ∧ (if (within l.2.1 (1 : Int) (8 : Int)) = true then (True ∧ (True ∧ (if (bif true then (isReg l.2.2.1) else false) = true then (True ∧ (True ∧ ((bif true then (isReg l.2.2.2.1) else false) = y0 ∧ True))) else (false = false ∧ (false = y0 ∧ True))))) else (false = false ∧ (false = false ∧ (false = y0 ∧ True))))) else (false = y0 ∧ True))) else (if (l.1 == (5 : Int)) = true then (if (l.1 == (5 : Int)) = true then (True ∧ (if (isReg l.2.1) = true then (True ∧ (True ∧ (if (bif true then (isReg l.2.2.1) else false) = true then (True ∧ (True ∧ ((bif true then (isReg l.2.2.2.1) else false) = y0 ∧ True))) else (false = false ∧ (false = y0 ∧ True))))) else (false = false ∧ (false = false ∧ (false = y0 ∧ True))))) else (if (l.1 == (7 : Int)) = true then (True ∧ (if (within l.2.1 (1 : Int) (8 : Int)) = true then (True ∧ (True ∧ (if (bif true then (isReg l.2.2.1) else false) = true then (True ∧ (True ∧ ((bif true then (isReg l.2.2.2.1) else false) = y0 ∧ True))) else (false = false ∧ (false = y0 ∧ True))))) else (false = false ∧ (false = false ∧ (false = y0 ∧ True))))) else (false = y0 ∧ True))) else (if (l.1 == (6 : Int)) = true then (True ∧ (if (isReg l.2.1) = true then (True ∧ (True ∧ (if (bif true then (isReg l.2.2.1) else false) = true then (True ∧ (True ∧ ((bif true then (isReg l.2.2.2.1) else false) = y0 ∧ True))) else (false = false ∧ (false = y0 ∧ True))))) else (false = false ∧ (false = false ∧ (false = y0 ∧ True))))) else (if (l.1 == (7 : Int)) = true then (True ∧ (if (within l.2.1 (1 : Int) (8 : Int)) = true then (True ∧ (True ∧ (if (bif true then (isReg l.2.2.1) else false) = true then (True ∧ (True ∧ ((bif true then (isReg l.2.2.2.1) else false) = y0 ∧ True))) else (false = false ∧ (false = y0 ∧ True))))) else (false = false ∧ (false = false ∧ (false = y0 ∧ True))))) else (false = y0 ∧ True))))))))
theorem cIsLineR_law (h : ∀ (l : Lin), cIsLineR.A.wf (l, ()) → cIsLineR_0  l (validLine l)) : ConOK Go.Proofs.Try.prog 99 cIsLineR := by
  refine lawL (Γ := [(115, cIsRegR1), (116, cWithinR1)]) (Θ := Th) (n := 83) [] ⟨cIsRegR1_ok, cWithinR1_ok, trivial⟩ (by kernel_rfl) th_ok mix_ok Go.Proofs.Try.func99 (by kernel_rfl) ?_
  intro x hw hp Λ hC
  have h0 := h x.1 hw  
  exact Eq.mpr (by kernel_rfl) h0
theorem cIsLineR_ok : ConOK Go.Proofs.Try.prog 99 cIsLineR := by
  refine cIsLineR_law ?_
  intro l hw
  unfold cIsLineR_0
  obtain ⟨op, t, a, b, ⟨⟩⟩ := l
  repeat' split
  all_goals (simp_all [validLine, argErr, T.eqB, T.dflt, beq_dec])
abbrev cValLineR : Con := { A := (.cons tL .nil), R := (.cons .int .nil), pre := fun x => True, F := fun x => (argErr (validLine x.1), ()) }
def cValLineR_0  (l : Lin) (y0 : Int) : Prop :=
  True ∧ (if (!(validLine l)) = true then ((1 : Int) = y0 ∧ True) else ((0 : Int) = y0 ∧ True))
theorem cValLineR_law (h : ∀ (l : Lin), cValLineR.A.wf (l, ()) → cValLineR_0  l (argErr (validLine l))) : ConOK Go.Proofs.Try.prog 100 cValLineR := by
  refine lawL (Γ := [(99, cIsLineR)]) (Θ := Th) (n := 6) [] ⟨cIsLineR_ok, trivial⟩ (by kernel_rfl) th_ok mix_ok Go.Proofs.Try.func100 (by kernel_rfl) ?_
  intro x hw hp Λ hC
  have h0 := h x.1 hw  
  exact Eq.mpr (by kernel_rfl) h0
theorem cValLineR_ok : ConOK Go.Proofs.Try.prog 100 cValLineR := by
  refine cValLineR_law ?_
  intro l hw
  unfold cValLineR_0
  split <;> simp_all [argErr]
abbrev cValPR : Con := { A := (.cons (.sl tL) .nil), R := (.cons .int .nil), pre := fun x => True, F := fun x => (validP x.1, ()) }
def cValPR_0 (Λ1 : Int → Prop) (p : (List Lin)) (y0 : Int) : Prop :=
  if (decide ((List.length p : Int) > (8 : Int))) = true then ((3 : Int) = y0 ∧ True) else Λ1 (0 : Int)
def cValPR_1 (Λ1 : Int → Prop) (p : (List Lin)) (y0 : Int)  (i_1 : Int) : Prop :=
  if (decide (i_1 < (List.length p : Int))) = true then (idx i_1 (List.length p : Int) ∧ (True ∧ (if (!(validLine (List.getD p (Int.toNat i_1) tL.dflt))) = true then ((1 : Int) = y0 ∧ True) else (inI (i_1 + (1 : Int)) ∧ Λ1 (i_1 + (1 : Int)))))) else ((0 : Int) = y0 ∧ True)
theorem cValPR_law (h : ∀ (p : (List Lin)), cValPR.A.wf (p, ()) → ∀ (Λ1 : Int → Prop), (∀ (i_1 : Int), cValPR_1 Λ1 p (validP p) i_1 → Λ1 i_1) → cValPR_0 Λ1 p (validP p)) : ConOK Go.Proofs.Try.prog 77 cValPR := by
  refine lawL (Γ := [(99, cIsLineR)]) (Θ := Th) (n := 19) [([1, 1, 0, 1, 0], ⟨[(0, false), (3, true)], []⟩)] ⟨cIsLineR_ok, trivial⟩ (by kernel_rfl) th_ok mix_ok Go.Proofs.Try.func77 (by kernel_rfl) ?_
  intro x hw hp Λ hC
  have h0 := h x.1 hw (fun i_1 => Λ [1, 1, 0, 1, 0] ([(0, .d false (.sl tL) x.1), (3, .d true .int i_1)], [])) (fun i_1 hb => hC [1, 1, 0, 1, 0] ([(0, .d false (.sl tL) x.1), (3, .d true .int i_1)], []) (Eq.mpr (by kernel_rfl) hb))
  exact Eq.mpr (by kernel_rfl) h0
theorem cValPR_ok : ConOK Go.Proofs.Try.prog 77 cValPR := by
  refine cValPR_law ?_
  intro p hw Λ1 h1
  unfold cValPR_0
  simp only [decide_eq_true_eq]
  split
  · refine ⟨?_, trivial⟩
    unfold validP
    rw [if_pos (by omega)]
  · rename_i h8
    refine upto (n := p.length) (Q := fun i => (p.take i).all validLine = true → Λ1 i) ?_ ?_ 0 (Nat.zero_le _) rfl
    · intro ha
      rw [List.take_length] at ha
      apply h1; unfold cValPR_1; rw [if_neg (by simp)]
      refine ⟨?_, trivial⟩
      unfold validP
      rw [if_neg (by omega), ha]; rfl
    · intro i hi ih ha
      apply h1; unfold cValPR_1; rw [if_pos (by simpa using hi)]
      refine ⟨idx_nat hi, trivial, ?_⟩
      rw [Int.toNat_natCast]
      cases hv : validLine (List.getD p i tL.dflt)
      · rw [if_pos (by rfl)]
        refine ⟨?_, trivial⟩
        unfold validP
        rw [if_neg (by omega), all_false_at (p := validLine) tL.dflt hi hv]
        rfl
      · rw [if_neg (by simp)]
        exact ⟨inI_succ hi (by omega), ih (all_take_next tL.dflt hi ha hv)⟩
abbrev cValSR : Con := { A := (.cons (.sl .int) .nil), R := (.cons .int .nil), pre := fun x => True, F := fun x => (argErr (validS x.1), ()) }
def cValSR_0 (Λ1 : Int → Prop) (in_ : (List Int)) (y0 : Int) : Prop :=
  if ((List.length in_ : Int) != (4 : Int)) = true then ((1 : Int) = y0 ∧ True) else Λ1 (0 : Int)
def cValSR_1 (Λ1 : Int → Prop) (in_ : (List Int)) (y0 : Int)  (i_1 : Int) : Prop :=
  if (decide (i_1 < (List.length in_ : Int))) = true then (idx i_1 (List.length in_ : Int) ∧ (True ∧ (if (!(within (List.getD in_ (Int.toNat i_1) 0) (-999 : Int) (999 : Int))) = true then ((1 : Int) = y0 ∧ True) else (inI (i_1 + (1 : Int)) ∧ Λ1 (i_1 + (1 : Int)))))) else ((0 : Int) = y0 ∧ True)
theorem cValSR_law (h : ∀ (in_ : (List Int)), cValSR.A.wf (in_, ()) → ∀ (Λ1 : Int → Prop), (∀ (i_1 : Int), cValSR_1 Λ1 in_ (argErr (validS in_)) i_1 → Λ1 i_1) → cValSR_0 Λ1 in_ (argErr (validS in_))) : ConOK Go.Proofs.Try.prog 129 cValSR := by
  refine lawL (Γ := [(116, cWithinR1)]) (Θ := Th) (n := 19) [([1, 1, 0, 1, 0], ⟨[(0, false), (3, true)], []⟩)] ⟨cWithinR1_ok, trivial⟩ (by kernel_rfl) th_ok mix_ok Go.Proofs.Try.func129 (by kernel_rfl) ?_
  intro x hw hp Λ hC
  have h0 := h x.1 hw (fun i_1 => Λ [1, 1, 0, 1, 0] ([(0, .d false (.sl .int) x.1), (3, .d true .int i_1)], [])) (fun i_1 hb => hC [1, 1, 0, 1, 0] ([(0, .d false (.sl .int) x.1), (3, .d true .int i_1)], []) (Eq.mpr (by kernel_rfl) hb))
  exact Eq.mpr (by kernel_rfl) h0
theorem cValSR_ok : ConOK Go.Proofs.Try.prog 129 cValSR := by
  refine cValSR_law ?_
  intro in_ hw Λ1 h1
  unfold cValSR_0
  simp only [bne_iff_ne, ne_eq]
  split
  · refine ⟨?_, trivial⟩
    unfold validS
    rw [show decide (in_.length = 4) = false by simp; omega]; rfl
  · rename_i h8
    refine upto (n := in_.length) (Q := fun i => (in_.take i).all isVal = true → Λ1 i) ?_ ?_ 0 (Nat.zero_le _) rfl
    · intro ha
      rw [List.take_length] at ha
      apply h1; unfold cValSR_1; rw [if_neg (by simp)]
      refine ⟨?_, trivial⟩
      unfold validS
      rw [ha, show decide (in_.length = 4) = true by simp; omega]; rfl
    · intro i hi ih ha
      apply h1; unfold cValSR_1; rw [if_pos (by simpa using hi)]
      refine ⟨idx_nat hi, trivial, ?_⟩
      rw [Int.toNat_natCast]
      cases hv : isVal (List.getD in_ i 0)
      · rw [if_pos (by unfold isVal at hv; rw [hv]; rfl)]
        refine ⟨?_, trivial⟩
        unfold validS
        rw [all_false_at (p := isVal) 0 hi hv, Bool.and_false]; rfl
      · rw [if_neg (by unfold isVal at hv; rw [hv]; simp)]
        exact ⟨inI_succ hi (by omega), ih (all_take_next 0 hi ha hv)⟩
abbrev cAskedR : Con := { A := (.cons (.sl tL) (.cons (.sl .int) .nil)), R := (.cons .int .nil), pre := fun x => True, F := fun x => ((if validP x.1 = 0 then argErr (validS x.2.1) else validP x.1), ()) }
def cAskedR_0  (p : (List Lin)) (in_ : (List Int)) (y0 : Int) : Prop :=
  True ∧ (if ((validP p) != (0 : Int)) = true then ((validP p) = y0 ∧ True) else (True ∧ ((argErr (validS in_)) = y0 ∧ True)))
theorem cAskedR_law (h : ∀ (p : (List Lin)) (in_ : (List Int)), cAskedR.A.wf (p, in_, ()) → cAskedR_0  p in_ (if validP p = 0 then argErr (validS in_) else validP p)) : ConOK Go.Proofs.Try.prog 147 cAskedR := by
  refine lawL (Γ := [(77, cValPR), (129, cValSR)]) (Θ := Th) (n := 13) [] ⟨cValPR_ok, cValSR_ok, trivial⟩ (by kernel_rfl) th_ok mix_ok Go.Proofs.Try.func147 (by kernel_rfl) ?_
  intro x hw hp Λ hC
  have h0 := h x.1 x.2.1 hw  
  exact Eq.mpr (by kernel_rfl) h0
theorem cAskedR_ok : ConOK Go.Proofs.Try.prog 147 cAskedR := by
  refine cAskedR_law ?_
  intro p in_ hw
  unfold cAskedR_0
  split <;> simp_all
end Go.Tk
/- Plain facts: patches and histories (layers 4, 7). No program in sight. -/
set_option linter.unusedSimpArgs false
set_option linter.unusedVariables false
set_option linter.unnecessarySimpa false
namespace Go.Tk
open Go Go.RowKit

def edOK (x : List Edt) (i : Nat) : Bool := !(decide ((x.getD i tEd.dflt).1 < 0) || decide ((x.getD i tEd.dflt).1 ≥ 8) || (decide (i > 0) && decide ((x.getD (i - 1) tEd.dflt).1 ≥ (x.getD i tEd.dflt).1)) || !(validLine (x.getD i tEd.dflt).2.1))
def okTo (x : List Edt) : Nat → Bool
  | 0 => true
  | i + 1 => okTo x i && edOK x i
def validX (x : List Edt) : Int := if x.length > 4 then 3 else argErr (okTo x x.length)
theorem okTo_false {x : List Edt} {i : Nat} (h : edOK x i = false) : ∀ n, i < n → okTo x n = false
  | 0, hn => by omega
  | n + 1, hn => by
    unfold okTo
    by_cases e : i = n
    · subst e; rw [h, Bool.and_false]
    · rw [okTo_false h n (by omega), Bool.false_and]
theorem okTo_at {x : List Edt} : ∀ n, okTo x n = true → ∀ i, i < n → edOK x i = true
  | 0, _, i, hi => by omega
  | n + 1, h, i, hi => by
    unfold okTo at h
    rw [Bool.and_eq_true] at h
    by_cases e : i = n
    · subst e; exact h.2
    · exact okTo_at n h.1 i (by omega)
def far (n : Nat) (x : List Edt) : Bool := x.any fun e => decide (e.1 ≥ (n : Int))
def errH (n : Nat) : List (List Edt) → Int
  | [] => 0
  | x :: hs => if validX x = 0 then (if far n x = true then 4 else errH n hs) else validX x
def err7 (p : List Lin) (h : List (List Edt)) : Int := if validP p = 0 then (if h.length > 8 then 3 else errH p.length h) else validP p
def playX (p : List Lin) (x : List Edt) : List Lin := x.foldl (fun o e => o.set e.1.toNat e.2.1) p
def playH (p : List Lin) (h : List (List Edt)) : List Lin := h.foldl playX p
theorem playX_len (x : List Edt) : ∀ p, (playX p x).length = p.length := by
  induction x with
  | nil => intro p; rfl
  | cons e x ih => intro p; show (playX (p.set e.1.toNat e.2.1) x).length = _; rw [ih, List.length_set]
theorem playH_len (h : List (List Edt)) : ∀ p, (playH p h).length = p.length := by
  induction h with
  | nil => intro p; rfl
  | cons x h ih => intro p; show (playH (playX p x) h).length = _; rw [ih, playX_len]
theorem playX_take (p : List Lin) (x : List Edt) {i : Nat} (hi : i < x.length) : playX p (x.take (i + 1)) = (playX p (x.take i)).set (x.getD i tEd.dflt).1.toNat (x.getD i tEd.dflt).2.1 := by
  unfold playX
  rw [take_snoc tEd.dflt hi, List.foldl_append]; rfl
theorem playH_take (p : List Lin) (h : List (List Edt)) {i : Nat} (hi : i < h.length) : playH p (h.take (i + 1)) = playX (playH p (h.take i)) (h.getD i []) := by
  unfold playH
  rw [take_snoc [] hi, List.foldl_append]; rfl
/-- What is known of a history that is right. -/
def okH (n : Nat) (h : List (List Edt)) : Prop := ∀ x ∈ h, ∀ e ∈ x, 0 ≤ e.1 ∧ e.1 < n
theorem validX_ok {x : List Edt} (h : validX x = 0) : x.length ≤ 4 ∧ ∀ e ∈ x, 0 ≤ e.1 ∧ e.1 < 8 := by
  unfold validX at h
  split at h
  · omega
  · refine ⟨by omega, fun e he => ?_⟩
    obtain ⟨i, hi, rfl⟩ := List.getElem_of_mem he
    have g := okTo_at _ (argErr_zero.1 h) i hi
    unfold edOK at g
    have ee : x.getD i tEd.dflt = x[i] := by simp [List.getD_eq_getElem?_getD, hi]
    rw [ee] at g
    simp at g
    omega
theorem errH_ok {n : Nat} : ∀ {h : List (List Edt)}, errH n h = 0 → okH n h ∧ ∀ x ∈ h, x.length ≤ 4
  | [], _ => ⟨fun x hx => by simp at hx, fun x hx => by simp at hx⟩
  | x :: hs, e => by
    unfold errH at e
    split at e
    · rename_i hv
      split at e
      · cases e
      · rename_i hf
        obtain ⟨i1, i2⟩ := errH_ok e
        obtain ⟨v1, v2⟩ := validX_ok hv
        refine ⟨fun y hy q hq => ?_, fun y hy => ?_⟩
        · rcases List.mem_cons.1 hy with rfl | hy
          · have := List.any_eq_false.1 (Bool.eq_false_iff.2 hf) q hq
            have h2 := v2 q hq
            simp at this
            omega
          · exact i1 y hy q hq
        · rcases List.mem_cons.1 hy with rfl | hy
          · exact v1
          · exact i2 y hy
    · rename_i hv; exact absurd e hv
theorem err7_ok {p : List Lin} {h : List (List Edt)} (e : err7 p h = 0) : validP p = 0 ∧ h.length ≤ 8 ∧ okH p.length h ∧ ∀ x ∈ h, x.length ≤ 4 := by
  unfold err7 at e
  split at e
  · rename_i hv
    split at e
    · cases e
    · obtain ⟨a, b⟩ := errH_ok e
      exact ⟨hv, by omega, a, b⟩
  · rename_i hv; exact absurd e hv
end Go.Tk
set_option linter.unusedSimpArgs false
set_option linter.unusedVariables false
set_option linter.unnecessarySimpa false
namespace Go.Tk
open Go Go.RowKit

abbrev cValX : Con := { A := (.cons (.sl tEd) .nil), R := (.cons .int .nil), pre := fun x => True, F := fun x => (validX x.1, ()) }
def cValX_0 (Λ1 : Int → Prop) (x : (List Edt)) (y0 : Int) : Prop :=
  if (decide ((List.length x : Int) > (4 : Int))) = true then ((3 : Int) = y0 ∧ True) else Λ1 (0 : Int)
def cValX_1 (Λ1 : Int → Prop) (x : (List Edt)) (y0 : Int)  (t10_1 : Int) : Prop :=
  if (decide (t10_1 < (List.length x : Int))) = true then (idx t10_1 (List.length x : Int) ∧ (if (decide ((List.getD x (Int.toNat t10_1) tEd.dflt).1 < (0 : Int))) = true then (true = true ∧ (true = true ∧ (true = true ∧ ((1 : Int) = y0 ∧ True)))) else (True ∧ (if (bif false then true else (decide ((List.getD x (Int.toNat t10_1) tEd.dflt).1 ≥ (8 : Int)))) = true then (true = true ∧ (true = true ∧ ((1 : Int) = y0 ∧ True))) else (if (decide (t10_1 > (0 : Int))) = true then (inI (t10_1 - (1 : Int)) ∧ (idx (t10_1 - (1 : Int)) (List.length x : Int) ∧ (True ∧ (True ∧ (if (bif false then true else (bif true then (decide ((List.getD x (Int.toNat (t10_1 - (1 : Int))) tEd.dflt).1 ≥ (List.getD x (Int.toNat t10_1) tEd.dflt).1)) else false)) = true then (true = true ∧ ((1 : Int) = y0 ∧ True)) else (True ∧ (True ∧ (if (bif false then true else ((argErr (validLine ((List.getD x (Int.toNat t10_1) tEd.dflt).2.1))) != (0 : Int))) = true then ((1 : Int) = y0 ∧ True) else (inI (t10_1 + (1 : Int)) ∧ Λ1 (t10_1 + (1 : Int))))))))))) else (false = false ∧ (True ∧ (if (bif false then true else false) = true then (true = true ∧ ((1 : Int) = y0 ∧ True)) else (True ∧ (True ∧ (if (bif false then true else ((argErr (validLine ((List.getD x (Int.toNat t10_1) tEd.dflt).2.1))) != (0 : Int))) = true then ((1 : Int) = y0 ∧ True) else (inI (t10_1 + (1 : Int)) ∧ Λ1 (t10_1 + (1 : Int)))))))))))))) else ((0 : Int) = y0 ∧ True)
theorem cValX_law (h : ∀ (x : (List Edt)), cValX.A.wf (x, ()) → ∀ (Λ1 : Int → Prop), (∀ (t10_1 : Int), cValX_1 Λ1 x (validX x) t10_1 → Λ1 t10_1) → cValX_0 Λ1 x (validX x)) : ConOK Go.Proofs.Try.prog 74 cValX := by
  refine lawL (Γ := [(97, cValLine)]) (Θ := Th) (n := 45) [([1, 1, 0, 1, 0], ⟨[(0, false), (8, false), (9, true), (10, true)], []⟩)] ⟨cValLine_ok, trivial⟩ (by kernel_rfl) th_ok mix_ok Go.Proofs.Try.func74 (by kernel_rfl) ?_
  intro x hw hp Λ hC
  have h0 := h x.1 hw (fun t10_1 => Λ [1, 1, 0, 1, 0] ([(0, .d false (.sl tEd) x.1), (8, .d false (.sl tEd) x.1), (9, .d true .int (List.length x.1 : Int)), (10, .d true .int t10_1)], [])) (fun t10_1 hb => hC [1, 1, 0, 1, 0] ([(0, .d false (.sl tEd) x.1), (8, .d false (.sl tEd) x.1), (9, .d true .int (List.length x.1 : Int)), (10, .d true .int t10_1)], []) (Eq.mpr (by kernel_rfl) hb))
  exact Eq.mpr (by kernel_rfl) h0
theorem cValX_ok : ConOK Go.Proofs.Try.prog 74 cValX := by
  refine cValX_law ?_
  intro x hw Λ1 h1
  unfold cValX_0
  by_cases h4 : x.length > 4
  · rw [if_pos (by simp; omega)]
    unfold validX
    rw [if_pos h4]; exact ⟨rfl, trivial⟩
  · rw [if_neg (by simp; omega)]
    have hv : validX x = argErr (okTo x x.length) := by unfold validX; rw [if_neg h4]
    have bad : ∀ i, i < x.length → edOK x i = false → 1 = validX x := fun i hi e => by rw [hv, okTo_false e _ hi]; rfl
    refine upto (n := x.length) (Q := fun i => okTo x i = true → Λ1 i) ?_ ?_ 0 (Nat.zero_le _) rfl
    · intro ha
      apply h1; unfold cValX_1; rw [if_neg (by simp), hv, ha]
      exact ⟨rfl, trivial⟩
    · intro i hi ih ha
      apply h1; unfold cValX_1; rw [if_pos (by simpa using hi), Int.toNat_natCast]
      refine ⟨idx_nat hi, ?_⟩
      have hb := bad i hi
      have ok : edOK x i = true → okTo x (i + 1) = true := fun e => by unfold okTo; rw [ha, e]; rfl
      unfold edOK at hb ok
      by_cases a1 : (x.getD i tEd.dflt).1 < 0
      · rw [if_pos (by simpa using a1)]
        exact ⟨rfl, rfl, rfl, hb (by rw [decide_eq_true a1]; rfl), trivial⟩
      rw [if_neg (by simpa using a1)]
      refine ⟨trivial, ?_⟩
      by_cases a2 : (x.getD i tEd.dflt).1 ≥ 8
      · rw [if_pos (by simpa using a2)]
        exact ⟨rfl, rfl, hb (by rw [decide_eq_true a2, Bool.or_true]; rfl), trivial⟩
      rw [if_neg (by simpa using a2)]
      have fin : (decide (i > 0) && decide ((x.getD (i - 1) tEd.dflt).1 ≥ (x.getD i tEd.dflt).1)) = false → (if (bif false then true else ((argErr (validLine ((x.getD i tEd.dflt).2.1))) != (0 : Int))) = true then ((1 : Int) = validX x ∧ True) else (inI ((i : Int) + (1 : Int)) ∧ Λ1 ((i : Int) + (1 : Int)))) := by
        intro e3
        cases a4 : validLine (x.getD i tEd.dflt).2.1
        · rw [if_pos (by rfl)]
          exact ⟨hb (by rw [a4]; simp), trivial⟩
        · rw [if_neg (by simp [argErr])]
          refine ⟨inI_succ hi (by omega), ih (ok ?_)⟩
          rw [a4, e3, decide_eq_false a1, decide_eq_false a2]; rfl
      by_cases a3 : i > 0
      · rw [if_pos (by simp; omega)]
        have e1 : ((i : Int) - 1).toNat = i - 1 := by omega
        rw [e1]
        refine ⟨by unfold inI; omega, ⟨by omega, by omega⟩, trivial, trivial, ?_⟩
        by_cases a5 : (x.getD (i - 1) tEd.dflt).1 ≥ (x.getD i tEd.dflt).1
        · rw [if_pos (by simpa using a5)]
          refine ⟨rfl, hb ?_, trivial⟩
          rw [decide_eq_true a3, decide_eq_true a5]; simp
        · rw [if_neg (by simpa using a5)]
          exact ⟨trivial, trivial, fin (by rw [decide_eq_false a5, Bool.and_false])⟩
      · rw [if_neg (by simp; omega)]
        refine ⟨rfl, trivial, ?_⟩
        rw [if_neg (by simp)]
        exact ⟨trivial, trivial, fin (by rw [decide_eq_false a3, Bool.false_and])⟩
abbrev cWithin7 : Con := { A := (.cons .int (.cons .int (.cons .int .nil))), R := (.cons .bool .nil), pre := fun x => True, F := fun x => (within x.1 x.2.1 x.2.2.1, ()) }
def cWithin7_0  (n : Int) (lo : Int) (hi : Int) (y0 : Bool) : Prop :=
  if (decide (n ≥ lo)) = true then (True ∧ ((bif true then (decide (n ≤ hi)) else false) = y0 ∧ True)) else (false = false ∧ (false = y0 ∧ True))
theorem cWithin7_law (h : ∀ (n : Int) (lo : Int) (hi : Int), cWithin7.A.wf (n, lo, hi, ()) → cWithin7_0  n lo hi (within n lo hi)) : ConOK Go.Proofs.Try.prog 71 cWithin7 := by
  refine lawL (Γ := []) (Θ := Th) (n := 15) [] trivial (by kernel_rfl) th_ok mix_ok Go.Proofs.Try.func71 (by kernel_rfl) ?_
  intro x hw hp Λ hC
  have h0 := h x.1 x.2.1 x.2.2.1 hw  
  exact Eq.mpr (by kernel_rfl) h0
theorem cWithin7_ok : ConOK Go.Proofs.Try.prog 71 cWithin7 := by
  refine cWithin7_law ?_
  intro n lo hi hw
  unfold cWithin7_0
  unfold within
  split <;> simp_all
  omega
abbrev cVal71 : Con := { A := (.cons tEd (.cons (.ref (.sl tL)) .nil)), R := (.cons .bool .nil), pre := fun x => True, F := fun x => (decide (x.1.1 ≥ (x.2.1.length : Int)), ()) }
def cVal71_0  (e : Edt) (c0 : (List Lin)) (y0 : Bool) : Prop :=
  (decide (e.1 ≥ (List.length c0 : Int))) = y0 ∧ True
theorem cVal71_law (h : ∀ (e : Edt) (c0 : (List Lin)), cVal71.A.wf (e, c0, ()) → cVal71_0  e c0 (decide (e.1 ≥ (c0.length : Int)))) : ConOK Go.Proofs.Try.prog 76 cVal71 := by
  refine lawL (Γ := []) (Θ := Th) (n := 9) [] trivial (by kernel_rfl) th_ok mix_ok Go.Proofs.Try.func76 (by kernel_rfl) ?_
  intro x hw hp Λ hC
  have h0 := h x.1 x.2.1 hw  
  exact Eq.mpr (by kernel_rfl) h0
theorem cVal71_ok : ConOK Go.Proofs.Try.prog 76 cVal71 := by
  refine cVal71_law ?_
  intro e c0 hw
  unfold cVal71_0
  exact ⟨rfl, trivial⟩
abbrev cIndexE : Con := { A := (.cons (.sl tEd) (.cons (.fn (.cons tEd .nil) (.cons .bool .nil)) .nil)), R := (.cons .int .nil), pre := fun x => ∀ r' ∈ x.1, x.2.1.1 (r', ()), F := fun x => (idxF (fun r' => (x.2.1.2 (r', ())).1) x.1, ()) }
def cIndexE_0 (Λ1 : Int → Prop) (s : (List Edt)) (f : (T.fn (.cons tEd .nil) (.cons .bool .nil)).den) (y0 : Int) : Prop :=
  Λ1 (0 : Int)
def cIndexE_1 (Λ1 : Int → Prop) (s : (List Edt)) (f : (T.fn (.cons tEd .nil) (.cons .bool .nil)).den) (y0 : Int)  (t8_1 : Int) : Prop :=
  if (decide (t8_1 < (List.length s : Int))) = true then (idx t8_1 (List.length s : Int) ∧ (f.1 ((List.getD s (Int.toNat t8_1) tEd.dflt), ()) ∧ (if ((f.2 ((List.getD s (Int.toNat t8_1) tEd.dflt), ())).1) = true then (t8_1 = y0 ∧ True) else (inI (t8_1 + (1 : Int)) ∧ Λ1 (t8_1 + (1 : Int)))))) else ((-1 : Int) = y0 ∧ True)
theorem cIndexE_law (h : ∀ (s : (List Edt)) (f : (T.fn (.cons tEd .nil) (.cons .bool .nil)).den), cIndexE.A.wf (s, f, ()) → (∀ r' ∈ s, f.1 (r', ())) → ∀ (Λ1 : Int → Prop), (∀ (t8_1 : Int), cIndexE_1 Λ1 s f (idxF (fun r' => (f.2 (r', ())).1) s) t8_1 → Λ1 t8_1) → cIndexE_0 Λ1 s f (idxF (fun r' => (f.2 (r', ())).1) s)) : ConOK Go.Proofs.Try.prog 98 cIndexE := by
  refine lawL (Γ := []) (Θ := Th) (n := 19) [([1, 0, 1, 0], ⟨[(0, false), (1, false), (7, true), (8, true)], []⟩)] trivial (by kernel_rfl) th_ok mix_ok Go.Proofs.Try.func98 (by kernel_rfl) ?_
  intro x hw hp Λ hC
  have h0 := h x.1 x.2.1 hw hp (fun t8_1 => Λ [1, 0, 1, 0] ([(0, .d false (.sl tEd) x.1), (1, .d false (.fn (.cons tEd .nil) (.cons .bool .nil)) x.2.1), (7, .d true .int (List.length x.1 : Int)), (8, .d true .int t8_1)], [])) (fun t8_1 hb => hC [1, 0, 1, 0] ([(0, .d false (.sl tEd) x.1), (1, .d false (.fn (.cons tEd .nil) (.cons .bool .nil)) x.2.1), (7, .d true .int (List.length x.1 : Int)), (8, .d true .int t8_1)], []) (Eq.mpr (by kernel_rfl) hb))
  exact Eq.mpr (by kernel_rfl) h0
theorem cIndexE_ok : ConOK Go.Proofs.Try.prog 98 cIndexE := by
  refine cIndexE_law ?_
  intro s f hw hp Λ1 h1
  unfold cIndexE_0
  refine upto (n := s.length) (Q := fun i => (s.take i).any (fun r => (f.2 (r, ())).1) = false → Λ1 i) ?_ ?_ 0 (Nat.zero_le _) rfl
  · intro ha
    rw [List.take_length] at ha
    apply h1; unfold cIndexE_1; rw [if_neg (by simp), idxF_none ha]
    exact ⟨rfl, trivial⟩
  · intro i hi ih ha
    apply h1; unfold cIndexE_1; rw [if_pos (by simpa using hi), Int.toNat_natCast]
    refine ⟨idx_nat hi, hp _ (mem_getD hi), ?_⟩
    cases hv : (f.2 (List.getD s i tEd.dflt, ())).1
    · rw [if_neg (by simp)]
      exact ⟨inI_succ hi hw.1.1, ih (any_take_next (p := fun r => (f.2 (r, ())).1) tEd.dflt hi ha hv)⟩
    · rw [if_pos (by rfl), idxF_at (p := fun r => (f.2 (r, ())).1) tEd.dflt hi ha hv]
      exact ⟨rfl, trivial⟩
abbrev cContE : Con := { A := (.cons (.sl tEd) (.cons (.fn (.cons tEd .nil) (.cons .bool .nil)) .nil)), R := (.cons .bool .nil), pre := fun x => ∀ r' ∈ x.1, x.2.1.1 (r', ()), F := fun x => (x.1.any (fun r' => (x.2.1.2 (r', ())).1), ()) }
def cContE_0  (s : (List Edt)) (f : (T.fn (.cons tEd .nil) (.cons .bool .nil)).den) (y0 : Bool) : Prop :=
  (∀ r' ∈ s, f.1 (r', ())) ∧ ((decide ((idxF (fun r' => (f.2 (r', ())).1) s) ≥ (0 : Int))) = y0 ∧ True)
theorem cContE_law (h : ∀ (s : (List Edt)) (f : (T.fn (.cons tEd .nil) (.cons .bool .nil)).den), cContE.A.wf (s, f, ()) → (∀ r' ∈ s, f.1 (r', ())) → cContE_0  s f (s.any (fun r' => (f.2 (r', ())).1))) : ConOK Go.Proofs.Try.prog 75 cContE := by
  refine lawL (Γ := [(98, cIndexE)]) (Θ := Th) (n := 9) [] ⟨cIndexE_ok, trivial⟩ (by kernel_rfl) th_ok mix_ok Go.Proofs.Try.func75 (by kernel_rfl) ?_
  intro x hw hp Λ hC
  have h0 := h x.1 x.2.1 hw hp  
  exact Eq.mpr (by kernel_rfl) h0
theorem cContE_ok : ConOK Go.Proofs.Try.prog 75 cContE := by
  refine cContE_law ?_
  intro s f hw hp
  unfold cContE_0
  exact ⟨hp, idxF_any _ _, trivial⟩
abbrev cVal7 : Con := { A := (.cons (.sl tL) (.cons (.sl (.sl tEd)) .nil)), R := (.cons .int .nil), pre := fun x => True, F := fun x => (err7 x.1 x.2.1, ()) }
def cVal7_0 (Λ1 : Int → Prop) (p : (List Lin)) (h : (List (List Edt))) (y0 : Int) : Prop :=
  True ∧ (if ((validP p) != (0 : Int)) = true then ((validP p) = y0 ∧ True) else (if (decide ((List.length h : Int) > (8 : Int))) = true then ((3 : Int) = y0 ∧ True) else Λ1 (0 : Int)))
def cVal7_1 (Λ1 : Int → Prop) (p : (List Lin)) (h : (List (List Edt))) (y0 : Int)  (t19_1 : Int) : Prop :=
  if (decide (t19_1 < (List.length h : Int))) = true then (idx t19_1 (List.length h : Int) ∧ (True ∧ (if ((validX (List.getD h (Int.toNat t19_1) ([] : List Edt))) != (0 : Int)) = true then ((validX (List.getD h (Int.toNat t19_1) ([] : List Edt))) = y0 ∧ True) else ((∀ r' ∈ (List.getD h (Int.toNat t19_1) ([] : List Edt)), (fun (xx : (Edt × Unit)) => True, fun (xx : (Edt × Unit)) => (decide (xx.1.1 ≥ (p.length : Int)), ())).1 (r', ())) ∧ (if ((List.getD h (Int.toNat t19_1) ([] : List Edt)).any (fun r' => ((fun (xx : (Edt × Unit)) => True, fun (xx : (Edt × Unit)) => (decide (xx.1.1 ≥ (p.length : Int)), ())).2 (r', ())).1)) = true then ((4 : Int) = y0 ∧ True) else (inI (t19_1 + (1 : Int)) ∧ Λ1 (t19_1 + (1 : Int)))))))) else ((0 : Int) = y0 ∧ True)
theorem cVal7_law (h : ∀ (p : (List Lin)) (h : (List (List Edt))), cVal7.A.wf (p, h, ()) → ∀ (Λ1 : Int → Prop), (∀ (t19_1 : Int), cVal7_1 Λ1 p h (err7 p h) t19_1 → Λ1 t19_1) → cVal7_0 Λ1 p h (err7 p h)) : ConOK Go.Proofs.Try.prog 32 cVal7 := by
  refine lawX (X := { subs := [], frz := [2], U := [], mul := [], nst := [], nls := [], itf := none, inp := [], arrs := [] }) (hX := xok0 _ trivial) (Γ := [(75, cContE), (76, cVal71), (73, cValP), (74, cValX)]) (Θ := Th) (n := 32) [([1, 1, 1, 0, 1, 0], ⟨[(2, false), (17, false), (18, true), (19, true)], []⟩)] ⟨cContE_ok, cVal71_ok, cValP_ok, cValX_ok, trivial⟩ (by kernel_rfl) th_ok mix_ok Go.Proofs.Try.func32 (by kernel_rfl) ?_
  intro x hw hp Λ hC
  have h0 := h x.1 x.2.1 hw (fun t19_1 => Λ [1, 1, 1, 0, 1, 0] ([(2, .ept false (.sl tL) x.1), (17, .d false (.sl (.sl tEd)) x.2.1), (18, .d true .int (List.length x.2.1 : Int)), (19, .d true .int t19_1)], [])) (fun t19_1 hb => hC [1, 1, 1, 0, 1, 0] ([(2, .ept false (.sl tL) x.1), (17, .d false (.sl (.sl tEd)) x.2.1), (18, .d true .int (List.length x.2.1 : Int)), (19, .d true .int t19_1)], []) (Eq.mpr (by kernel_rfl) hb))
  exact Eq.mpr (by kernel_rfl) h0
theorem cVal7_ok : ConOK Go.Proofs.Try.prog 32 cVal7 := by
  refine cVal7_law ?_
  intro p h hw Λ1 h1
  unfold cVal7_0
  refine ⟨trivial, ?_⟩
  by_cases hv : validP p = 0
  · rw [if_neg (by simp [hv])]
    by_cases h8 : h.length > 8
    · rw [if_pos (by simp; omega)]
      unfold err7
      rw [if_pos hv, if_pos h8]; exact ⟨rfl, trivial⟩
    · rw [if_neg (by simp; omega)]
      have he : err7 p h = errH p.length h := by unfold err7; rw [if_pos hv, if_neg h8]
      have key : ∀ n i, i + n = h.length → errH p.length h = errH p.length (h.drop i) → Λ1 (i : Int) := by
        intro n
        induction n with
        | zero =>
          intro i hi e
          apply h1; unfold cVal7_1
          rw [if_neg (by simp; omega)]
          rw [List.drop_eq_nil_of_le (by omega)] at e
          exact ⟨by rw [he, e]; rfl, trivial⟩
        | succ n ih =>
          intro i hi e
          have hl : i < h.length := by omega
          apply h1; unfold cVal7_1
          rw [if_pos (by simpa using hl), Int.toNat_natCast]
          have hd : h.drop i = h.getD i [] :: h.drop (i + 1) := by
            rw [List.drop_eq_getElem_cons hl]; simp [List.getD_eq_getElem?_getD, hl]
          rw [hd, errH] at e
          refine ⟨idx_nat hl, trivial, ?_⟩
          by_cases g : validX (h.getD i []) = 0
          · rw [if_pos g] at e
            rw [if_neg (by simpa using g)]
            refine ⟨fun _ _ => trivial, ?_⟩
            show if far p.length (h.getD i []) = true then _ else _
            by_cases f : far p.length (h.getD i []) = true
            · rw [if_pos f] at e ⊢
              exact ⟨by rw [he, e], trivial⟩
            · rw [if_neg f] at e ⊢
              exact ⟨inI_succ hl (by omega), ih (i + 1) (by omega) e⟩
          · rw [if_neg g] at e
            rw [if_pos (by simpa using g), he, e]
            exact ⟨rfl, trivial⟩
      exact key h.length 0 (by omega) rfl
  · rw [if_pos (by simpa using hv)]
    unfold err7
    rw [if_neg hv]; exact ⟨rfl, trivial⟩
abbrev cCloneL : Con := { A := (.cons (.sl tL) .nil), R := (.cons (.osl tL) .nil), pre := fun x => x.1.length ≤ 1000000, F := fun x => (x.1, ()) }
def cCloneL_0  (s : (List Lin)) (y0 : (List Lin)) : Prop :=
  (s = [] → ([] : List Lin) = y0) ∧ (True → (List.length ([] : List Lin) + List.length s ≤ 4294967296 ∧ (([] : List Lin) ++ s) = y0))
theorem cCloneL_law (h : ∀ (s : (List Lin)), cCloneL.A.wf (s, ()) → (s.length ≤ 1000000) → cCloneL_0  s s) : ConOK Go.Proofs.Try.prog 95 cCloneL := by
  refine lawL (Γ := []) (Θ := Th) (n := 8) [] trivial (by kernel_rfl) th_ok mix_ok Go.Proofs.Try.func95 (by kernel_rfl) ?_
  intro x hw hp Λ hC
  have h0 := h x.1 hw hp  
  exact Eq.mpr (by kernel_rfl) h0
theorem cCloneL_ok : ConOK Go.Proofs.Try.prog 95 cCloneL := by
  refine cCloneL_law ?_
  intro s hw hp
  unfold cCloneL_0
  exact ⟨fun h => h.symm, fun _ => ⟨by simp only [List.length_nil]; omega, by simp⟩⟩
abbrev cPlay0 : Con := { A := (.cons (.sl tL) (.cons (.sl (.sl tEd)) .nil)), R := (.cons (.osl tL) .nil), pre := fun x => okH x.1.length x.2.1 ∧ x.1.length ≤ 8, F := fun x => (playH x.1 x.2.1, ()) }
def cPlay0_0 (Λ1 : Int → (List Lin) → Prop) (Λ2 : Int → Int → (List Lin) → Prop) (p : (List Lin)) (h : (List (List Edt))) (y0 : (List Lin)) : Prop :=
  p.length ≤ 1000000 ∧ Λ1 (0 : Int) p
def cPlay0_1 (Λ1 : Int → (List Lin) → Prop) (Λ2 : Int → Int → (List Lin) → Prop) (p : (List Lin)) (h : (List (List Edt))) (y0 : (List Lin))  (t14_1 : Int) (out_1 : (List Lin)) : Prop :=
  if (decide (t14_1 < (List.length h : Int))) = true then (idx t14_1 (List.length h : Int) ∧ Λ2 t14_1 (0 : Int) out_1) else out_1 = y0
def cPlay0_2 (Λ1 : Int → (List Lin) → Prop) (Λ2 : Int → Int → (List Lin) → Prop) (p : (List Lin)) (h : (List (List Edt))) (y0 : (List Lin)) (t14_1 : Int) (t20_2 : Int) (out_2 : (List Lin)) : Prop :=
  if (decide (t20_2 < (List.length (List.getD h (Int.toNat t14_1) ([] : List Edt)) : Int))) = true then (idx t20_2 (List.length (List.getD h (Int.toNat t14_1) ([] : List Edt)) : Int) ∧ (idx ((List.getD (List.getD h (Int.toNat t14_1) ([] : List Edt)) (Int.toNat t20_2) tEd.dflt).1) (List.length out_2 : Int) ∧ (inI (t20_2 + (1 : Int)) ∧ Λ2 t14_1 (t20_2 + (1 : Int)) (List.set out_2 (Int.toNat ((List.getD (List.getD h (Int.toNat t14_1) ([] : List Edt)) (Int.toNat t20_2) tEd.dflt).1)) ((List.getD (List.getD h (Int.toNat t14_1) ([] : List Edt)) (Int.toNat t20_2) tEd.dflt).2.1))))) else (inI (t14_1 + (1 : Int)) ∧ Λ1 (t14_1 + (1 : Int)) out_2)
theorem cPlay0_law (h : ∀ (p : (List Lin)) (h : (List (List Edt))), cPlay0.A.wf (p, h, ()) → (okH p.length h ∧ p.length ≤ 8) → ∀ (Λ1 : Int → (List Lin) → Prop) (Λ2 : Int → Int → (List Lin) → Prop), (∀ (t14_1 : Int) (out_1 : (List Lin)), cPlay0_1 Λ1 Λ2 p h (playH p h) t14_1 out_1 → Λ1 t14_1 out_1) → (∀ (t14_1 : Int) (t20_2 : Int) (out_2 : (List Lin)), cPlay0_2 Λ1 Λ2 p h (playH p h) t14_1 t20_2 out_2 → Λ2 t14_1 t20_2 out_2) → cPlay0_0 Λ1 Λ2 p h (playH p h)) : ConOK Go.Proofs.Try.prog 64 cPlay0 := by
  refine lawL (Γ := [(95, cCloneL)]) (Θ := Th) (n := 33) [([1, 1, 0, 1, 0], ⟨[(5, true), (12, false), (13, true), (14, true)], [(11, true)]⟩), ([1, 1, 0, 1, 0, 0, 1, 1, 0, 0, 1, 1, 0], ⟨[(5, true), (12, false), (13, true), (14, true), (18, false), (19, true), (20, true)], [(11, true)]⟩)] ⟨cCloneL_ok, trivial⟩ (by kernel_rfl) th_ok mix_ok Go.Proofs.Try.func64 (by kernel_rfl) ?_
  intro x hw hp Λ hC
  have h0 := h x.1 x.2.1 hw hp (fun t14_1 out_1 => Λ [1, 1, 0, 1, 0] ([(5, .own 11 0), (12, .d false (.sl (.sl tEd)) x.2.1), (13, .d true .int (List.length x.2.1 : Int)), (14, .d true .int t14_1)], [(11, .sl true tL out_1)])) (fun t14_1 t20_2 out_2 => Λ [1, 1, 0, 1, 0, 0, 1, 1, 0, 0, 1, 1, 0] ([(5, .own 11 0), (12, .d false (.sl (.sl tEd)) x.2.1), (13, .d true .int (List.length x.2.1 : Int)), (14, .d true .int t14_1), (18, .d false (.sl tEd) (List.getD x.2.1 (Int.toNat t14_1) ([] : List Edt))), (19, .d true .int (List.length (List.getD x.2.1 (Int.toNat t14_1) ([] : List Edt)) : Int)), (20, .d true .int t20_2)], [(11, .sl true tL out_2)])) (fun t14_1 out_1 hb => hC [1, 1, 0, 1, 0] ([(5, .own 11 0), (12, .d false (.sl (.sl tEd)) x.2.1), (13, .d true .int (List.length x.2.1 : Int)), (14, .d true .int t14_1)], [(11, .sl true tL out_1)]) (Eq.mpr (by kernel_rfl) hb)) (fun t14_1 t20_2 out_2 hb => hC [1, 1, 0, 1, 0, 0, 1, 1, 0, 0, 1, 1, 0] ([(5, .own 11 0), (12, .d false (.sl (.sl tEd)) x.2.1), (13, .d true .int (List.length x.2.1 : Int)), (14, .d true .int t14_1), (18, .d false (.sl tEd) (List.getD x.2.1 (Int.toNat t14_1) ([] : List Edt))), (19, .d true .int (List.length (List.getD x.2.1 (Int.toNat t14_1) ([] : List Edt)) : Int)), (20, .d true .int t20_2)], [(11, .sl true tL out_2)]) (Eq.mpr (by kernel_rfl) hb))
  exact Eq.mpr (by kernel_rfl) h0
theorem cPlay0_ok : ConOK Go.Proofs.Try.prog 64 cPlay0 := by
  refine cPlay0_law ?_
  intro p h hw hp Λ1 Λ2 h1 h2
  unfold cPlay0_0
  obtain ⟨p1, p2⟩ := hp
  refine ⟨by omega, ?_⟩
  have hlh : h.length ≤ 140737488355328 := hw.2.1.1
  refine upto (n := h.length) (Q := fun i => Λ1 (i : Int) (playH p (h.take i))) ?_ ?_ 0 (Nat.zero_le _)
  · apply h1; unfold cPlay0_1; rw [if_neg (by simp), List.take_length]
  · intro i hi ih
    apply h1; unfold cPlay0_1; rw [if_pos (by simpa using hi)]
    refine ⟨idx_nat hi, ?_⟩
    rw [playH_take p h hi] at ih
    have hm : List.getD h i [] ∈ h := mem_getD hi
    have hx := p1 _ hm
    have hlx : (List.getD h i []).length ≤ 140737488355328 := (hw.2.1.2 _ hm).1
    refine upto (n := (List.getD h i []).length) (Q := fun j => Λ2 (i : Int) (j : Int) (playX (playH p (h.take i)) ((List.getD h i []).take j))) ?_ ?_ 0 (Nat.zero_le _)
    · apply h2; unfold cPlay0_2
      rw [Int.toNat_natCast, if_neg (by simp), List.take_length]
      exact ⟨inI_succ hi hlh, ih⟩
    · intro j hj ihj
      rw [playX_take _ _ hj] at ihj
      have he := hx _ (mem_getD (d := tEd.dflt) hj)
      apply h2; unfold cPlay0_2
      rw [Int.toNat_natCast, Int.toNat_natCast, if_pos (by simpa using hj)]
      exact ⟨idx_nat hj, ⟨he.1, by rw [playX_len, playH_len]; exact he.2⟩, inI_succ hj hlx, ihj⟩
abbrev cPlay : Con := { A := (.cons (.sl tL) (.cons (.sl (.sl tEd)) .nil)), R := (.cons (.osl tL) (.cons .int .nil)), pre := fun x => True, F := fun x => ((if err7 x.1 x.2.1 = 0 then playH x.1 x.2.1 else []), err7 x.1 x.2.1, ()) }
def cPlay_0  (p : (List Lin)) (h : (List (List Edt))) (y0 : (List Lin)) (y1 : Int) : Prop :=
  True ∧ (if ((err7 p h) != (0 : Int)) = true then ((err7 p h) = y1 ∧ ([] : List Lin) = y0) else ((okH p.length h ∧ p.length ≤ 8) ∧ ((0 : Int) = y1 ∧ (playH p h) = y0)))
theorem cPlay_law (h : ∀ (p : (List Lin)) (h : (List (List Edt))), cPlay.A.wf (p, h, ()) → cPlay_0  p h (if err7 p h = 0 then playH p h else []) (err7 p h)) : ConOK Go.Proofs.Try.prog 24 cPlay := by
  refine lawL (Γ := [(64, cPlay0), (32, cVal7)]) (Θ := Th) (n := 16) [] ⟨cPlay0_ok, cVal7_ok, trivial⟩ (by kernel_rfl) th_ok mix_ok Go.Proofs.Try.func24 (by kernel_rfl) ?_
  intro x hw hp Λ hC
  have h0 := h x.1 x.2.1 hw  
  exact Eq.mpr (by kernel_rfl) h0
theorem cPlay_ok : ConOK Go.Proofs.Try.prog 24 cPlay := by
  refine cPlay_law ?_
  intro p h hw
  unfold cPlay_0
  refine ⟨trivial, ?_⟩
  by_cases e : err7 p h = 0
  · rw [if_neg (by simp [e]), if_pos e]
    obtain ⟨e1, e2, e3, e4⟩ := err7_ok e
    exact ⟨⟨e3, (validP_ok e1).1⟩, e.symm, rfl⟩
  · rw [if_pos (by simpa using e), if_neg e]
    exact ⟨rfl, rfl⟩
abbrev cFirst : Con := { A := (.cons (.sl (.sl tEd)) (.cons .int .nil)), R := (.cons (.sl (.sl tEd)) .nil), pre := fun x => 0 ≤ x.2.1 ∧ x.2.1 ≤ (x.1.length : Int), F := fun x => (x.1.take (Int.toNat x.2.1), ()), al := true }
def cFirst_0  (h : (List (List Edt))) (n : Int) (y0 : (List (List Edt))) : Prop :=
  (0 ≤ (0 : Int) ∧ (0 : Int) ≤ n ∧ n ≤ n ∧ n ≤ (List.length h : Int)) ∧ ((List.drop (Int.toNat (0 : Int)) (List.take (Int.toNat n) h)) = y0 ∧ True)
theorem cFirst_law (h : ∀ (h : (List (List Edt))) (n : Int), cFirst.A.wf (h, n, ()) → (0 ≤ n ∧ n ≤ (h.length : Int)) → cFirst_0  h n (h.take (Int.toNat n))) : ConOK Go.Proofs.Try.prog 72 cFirst := by
  refine lawL (Γ := []) (Θ := Th) (n := 9) [] trivial (by kernel_rfl) th_ok mix_ok Go.Proofs.Try.func72 (by kernel_rfl) ?_
  intro x hw hp Λ hC
  have h0 := h x.1 x.2.1 hw hp  
  exact Eq.mpr (by kernel_rfl) h0
theorem cFirst_ok : ConOK Go.Proofs.Try.prog 72 cFirst := by
  refine cFirst_law ?_
  intro h n hw hp
  unfold cFirst_0
  obtain ⟨p1, p2⟩ := hp
  exact ⟨⟨by omega, p1, by omega, p2⟩, by simp, trivial⟩
abbrev cAt7 : Con := { A := (.cons (.sl tL) (.cons (.sl (.sl tEd)) (.cons .int .nil))), R := (.cons (.osl tL) (.cons .int .nil)), pre := fun x => True, F := fun x => ((if err7 x.1 x.2.1 = 0 ∧ within x.2.2.1 0 (x.2.1.length : Int) = true then playH x.1 (x.2.1.take (Int.toNat x.2.2.1)) else []), (if err7 x.1 x.2.1 = 0 then argErr (within x.2.2.1 0 (x.2.1.length : Int)) else err7 x.1 x.2.1), ()) }
def cAt7_0  (p : (List Lin)) (h : (List (List Edt))) (n : Int) (y0 : (List Lin)) (y1 : Int) : Prop :=
  True ∧ (if ((err7 p h) != (0 : Int)) = true then ((err7 p h) = y1 ∧ ([] : List Lin) = y0) else (True ∧ (if (!(within n (0 : Int) (List.length h : Int))) = true then ((1 : Int) = y1 ∧ ([] : List Lin) = y0) else ((0 ≤ n ∧ n ≤ (h.length : Int)) ∧ ((okH p.length (h.take (Int.toNat n)) ∧ p.length ≤ 8) ∧ ((0 : Int) = y1 ∧ (playH p (h.take (Int.toNat n))) = y0))))))
theorem cAt7_law (h : ∀ (p : (List Lin)) (h : (List (List Edt))) (n : Int), cAt7.A.wf (p, h, n, ()) → cAt7_0  p h n (if err7 p h = 0 ∧ within n 0 (h.length : Int) = true then playH p (h.take (Int.toNat n)) else []) (if err7 p h = 0 then argErr (within n 0 (h.length : Int)) else err7 p h)) : ConOK Go.Proofs.Try.prog 30 cAt7 := by
  refine lawL (Γ := [(72, cFirst), (64, cPlay0), (32, cVal7), (71, cWithin7)]) (Θ := Th) (n := 25) [] ⟨cFirst_ok, cPlay0_ok, cVal7_ok, cWithin7_ok, trivial⟩ (by kernel_rfl) th_ok mix_ok Go.Proofs.Try.func30 (by kernel_rfl) ?_
  intro x hw hp Λ hC
  have h0 := h x.1 x.2.1 x.2.2.1 hw  
  exact Eq.mpr (by kernel_rfl) h0
theorem cAt7_ok : ConOK Go.Proofs.Try.prog 30 cAt7 := by
  refine cAt7_law ?_
  intro p h n hw
  unfold cAt7_0
  refine ⟨trivial, ?_⟩
  by_cases e : err7 p h = 0
  · rw [if_neg (by simp [e]), if_pos e]
    refine ⟨trivial, ?_⟩
    obtain ⟨e1, e2, e3, e4⟩ := err7_ok e
    cases hL : within n 0 (h.length : Int)
    · rw [if_pos (by rfl), if_neg (by simp)]; exact ⟨rfl, rfl⟩
    · have hr := within_iff.1 hL
      rw [if_neg (by simp), if_pos ⟨e, rfl⟩]
      exact ⟨hr, ⟨fun x hx => e3 x (List.mem_of_mem_take hx), (validP_ok e1).1⟩, rfl, rfl⟩
  · rw [if_pos (by simpa using e), if_neg e, if_neg (fun q => e q.1)]
    exact ⟨rfl, rfl⟩
end Go.Tk
set_option linter.unusedSimpArgs false
set_option linter.unusedVariables false
set_option linter.unnecessarySimpa false
namespace Go.Tk
open Go Go.RowKit

def sP : List Lin := [(1, 0, 9, 0, ()), (1, 1, 9, 0, ())]
def sO : Edt := (0, (1, 0, 1, 0, ()), ())
def sT : Edt := (1, (1, 1, 2, 0, ()), ())
def sH : List (List Edt) := [[sO], [sT], [sO, sT]]
def touchB (h : List (List Edt)) (a b : Int) : Bool := (h.getD a.toNat []).any fun x => (h.getD b.toNat []).any fun y => x.1 == y.1
def dirTo (h : List (List Edt)) (n : Int) : Nat → List Int
  | 0 => []
  | k + 1 => dirTo h n k ++ if touchB h k n = true then [(k : Int)] else []

abbrev cTouch11 : Con := { A := (.cons tEd (.cons (.ref tEd) .nil)), R := (.cons .bool .nil), pre := fun x => True, F := fun x => ((x.2.1.1 == x.1.1), ()) }
def cTouch11_0  (y_ : Edt) (c0 : Edt) (y0 : Bool) : Prop :=
  (c0.1 == y_.1) = y0 ∧ True
theorem cTouch11_law (h : ∀ (y_ : Edt) (c0 : Edt), cTouch11.A.wf (y_, c0, ()) → cTouch11_0  y_ c0 (c0.1 == y_.1)) : ConOK Go.Proofs.Try.prog 112 cTouch11 := by
  refine lawL (Γ := []) (Θ := Th) (n := 9) [] trivial (by kernel_rfl) th_ok mix_ok Go.Proofs.Try.func112 (by kernel_rfl) ?_
  intro x hw hp Λ hC
  have h0 := h x.1 x.2.1 hw  
  exact Eq.mpr (by kernel_rfl) h0
theorem cTouch11_ok : ConOK Go.Proofs.Try.prog 112 cTouch11 := by
  refine cTouch11_law ?_
  intro y_ c0 hw
  unfold cTouch11_0
  exact ⟨rfl, trivial⟩
abbrev cTouch1 : Con := { A := (.cons tEd (.cons (.ref (.sl (.sl tEd))) (.cons (.ref .int) .nil))), R := (.cons .bool .nil), pre := fun x => 0 ≤ x.2.2.1 ∧ x.2.2.1 < (x.2.1.length : Int), F := fun x => ((List.getD x.2.1 (Int.toNat x.2.2.1) []).any (fun y' => x.1.1 == y'.1), ()) }
def cTouch1_0  (x : Edt) (c0 : (List (List Edt))) (c1 : Int) (y0 : Bool) : Prop :=
  idx c1 (List.length c0 : Int) ∧ ((∀ r' ∈ (List.getD c0 (Int.toNat c1) ([] : List Edt)), (fun (xx : (Edt × Unit)) => True, fun (xx : (Edt × Unit)) => ((x.1 == xx.1.1), ())).1 (r', ())) ∧ (((List.getD c0 (Int.toNat c1) ([] : List Edt)).any (fun r' => ((fun (xx : (Edt × Unit)) => True, fun (xx : (Edt × Unit)) => ((x.1 == xx.1.1), ())).2 (r', ())).1)) = y0 ∧ True))
theorem cTouch1_law (h : ∀ (x : Edt) (c0 : (List (List Edt))) (c1 : Int), cTouch1.A.wf (x, c0, c1, ()) → (0 ≤ c1 ∧ c1 < (c0.length : Int)) → cTouch1_0  x c0 c1 ((List.getD c0 (Int.toNat c1) []).any (fun y' => x.1 == y'.1))) : ConOK Go.Proofs.Try.prog 111 cTouch1 := by
  refine lawX (X := { subs := [], frz := [3], U := [], mul := [], nst := [], nls := [], itf := none, inp := [], arrs := [] }) (hX := xok0 _ trivial) (Γ := [(75, cContE), (112, cTouch11)]) (Θ := Th) (n := 11) [] ⟨cContE_ok, cTouch11_ok, trivial⟩ (by kernel_rfl) th_ok mix_ok Go.Proofs.Try.func111 (by kernel_rfl) ?_
  intro x hw hp Λ hC
  have h0 := h x.1 x.2.1 x.2.2.1 hw hp  
  exact Eq.mpr (by kernel_rfl) h0
theorem cTouch1_ok : ConOK Go.Proofs.Try.prog 111 cTouch1 := by
  refine cTouch1_law ?_
  intro x c0 c1 hw hp
  unfold cTouch1_0
  exact ⟨⟨hp.1, hp.2⟩, fun _ _ => trivial, rfl, trivial⟩
abbrev cTouch : Con := { A := (.cons (.sl (.sl tEd)) (.cons .int (.cons .int .nil))), R := (.cons .bool .nil), pre := fun x => 0 ≤ x.2.1 ∧ x.2.1 < (x.1.length : Int) ∧ 0 ≤ x.2.2.1 ∧ x.2.2.1 < (x.1.length : Int), F := fun x => (touchB x.1 x.2.1 x.2.2.1, ()) }
def cTouch_0  (h : (List (List Edt))) (a : Int) (b : Int) (y0 : Bool) : Prop :=
  idx a (List.length h : Int) ∧ ((∀ r' ∈ (List.getD h (Int.toNat a) ([] : List Edt)), (fun (xx : (Edt × Unit)) => 0 ≤ b ∧ b < (h.length : Int), fun (xx : (Edt × Unit)) => ((List.getD h (Int.toNat b) []).any (fun y' => xx.1.1 == y'.1), ())).1 (r', ())) ∧ (((List.getD h (Int.toNat a) ([] : List Edt)).any (fun r' => ((fun (xx : (Edt × Unit)) => 0 ≤ b ∧ b < (h.length : Int), fun (xx : (Edt × Unit)) => ((List.getD h (Int.toNat b) []).any (fun y' => xx.1.1 == y'.1), ())).2 (r', ())).1)) = y0 ∧ True))
theorem cTouch_law (h : ∀ (h : (List (List Edt))) (a : Int) (b : Int), cTouch.A.wf (h, a, b, ()) → (0 ≤ a ∧ a < (h.length : Int) ∧ 0 ≤ b ∧ b < (h.length : Int)) → cTouch_0  h a b (touchB h a b)) : ConOK Go.Proofs.Try.prog 96 cTouch := by
  refine lawX (X := { subs := [], frz := [3, 5], U := [], mul := [], nst := [], nls := [], itf := none, inp := [], arrs := [] }) (hX := xok0 _ trivial) (Γ := [(75, cContE), (111, cTouch1)]) (Θ := Th) (n := 13) [] ⟨cContE_ok, cTouch1_ok, trivial⟩ (by kernel_rfl) th_ok mix_ok Go.Proofs.Try.func96 (by kernel_rfl) ?_
  intro x hw hp Λ hC
  have h0 := h x.1 x.2.1 x.2.2.1 hw hp  
  exact Eq.mpr (by kernel_rfl) h0
theorem cTouch_ok : ConOK Go.Proofs.Try.prog 96 cTouch := by
  refine cTouch_law ?_
  intro h a b hw hp
  unfold cTouch_0
  obtain ⟨p1, p2, p3, p4⟩ := hp
  exact ⟨⟨p1, p2⟩, fun _ _ => ⟨p3, p4⟩, rfl, trivial⟩
abbrev cDirect0 : Con := { A := (.cons (.sl (.sl tEd)) (.cons .int .nil)), R := (.cons (.osl .int) .nil), pre := fun x => 0 ≤ x.2.1 ∧ x.2.1 < (x.1.length : Int) ∧ x.1.length ≤ 8, F := fun x => (dirTo x.1 x.2.1 (Int.toNat x.2.1), ()) }
def cDirect0_0 (Λ1 : Int → (List Int) → Prop) (h : (List (List Edt))) (n : Int) (y0 : (List Int)) : Prop :=
  Λ1 (0 : Int) ([] : List Int)
def cDirect0_1 (Λ1 : Int → (List Int) → Prop) (h : (List (List Edt))) (n : Int) (y0 : (List Int))  (t8_1 : Int) (out_1 : (List Int)) : Prop :=
  if (decide (t8_1 < n)) = true then ((0 ≤ t8_1 ∧ t8_1 < (h.length : Int) ∧ 0 ≤ n ∧ n < (h.length : Int)) ∧ (if (touchB h t8_1 n) = true then (List.length out_1 + List.length [t8_1] ≤ 4294967296 ∧ (inI (t8_1 + (1 : Int)) ∧ Λ1 (t8_1 + (1 : Int)) (out_1 ++ [t8_1]))) else (inI (t8_1 + (1 : Int)) ∧ Λ1 (t8_1 + (1 : Int)) out_1))) else out_1 = y0
theorem cDirect0_law (h : ∀ (h : (List (List Edt))) (n : Int), cDirect0.A.wf (h, n, ()) → (0 ≤ n ∧ n < (h.length : Int) ∧ h.length ≤ 8) → ∀ (Λ1 : Int → (List Int) → Prop), (∀ (t8_1 : Int) (out_1 : (List Int)), cDirect0_1 Λ1 h n (dirTo h n (Int.toNat n)) t8_1 out_1 → Λ1 t8_1 out_1) → cDirect0_0 Λ1 h n (dirTo h n (Int.toNat n))) : ConOK Go.Proofs.Try.prog 67 cDirect0 := by
  refine lawL (Γ := [(96, cTouch)]) (Θ := Th) (n := 21) [([1, 1, 0, 1, 0], ⟨[(0, false), (1, false), (5, true), (7, false), (8, true)], [(5, true)]⟩)] ⟨cTouch_ok, trivial⟩ (by kernel_rfl) th_ok mix_ok Go.Proofs.Try.func67 (by kernel_rfl) ?_
  intro x hw hp Λ hC
  have h0 := h x.1 x.2.1 hw hp (fun t8_1 out_1 => Λ [1, 1, 0, 1, 0] ([(0, .d false (.sl (.sl tEd)) x.1), (1, .d false .int x.2.1), (5, .own 5 0), (7, .d false .int x.2.1), (8, .d true .int t8_1)], [(5, .sl true .int out_1)])) (fun t8_1 out_1 hb => hC [1, 1, 0, 1, 0] ([(0, .d false (.sl (.sl tEd)) x.1), (1, .d false .int x.2.1), (5, .own 5 0), (7, .d false .int x.2.1), (8, .d true .int t8_1)], [(5, .sl true .int out_1)]) (Eq.mpr (by kernel_rfl) hb))
  exact Eq.mpr (by kernel_rfl) h0
theorem cDirect0_ok : ConOK Go.Proofs.Try.prog 67 cDirect0 := by
  refine cDirect0_law ?_
  intro h n hw hp Λ1 h1
  unfold cDirect0_0
  obtain ⟨p1, p2, p3⟩ := hp
  obtain ⟨N, rfl⟩ := Int.eq_ofNat_of_zero_le p1
  have hlen : ∀ i, (dirTo h (N : Int) i).length ≤ i := by
    intro i
    induction i with
    | zero => exact Nat.le_refl _
    | succ i ih => unfold dirTo; rw [List.length_append]; split <;> simp <;> omega
  refine upto (n := N) (Q := fun i => Λ1 (i : Int) (dirTo h (N : Int) i)) ?_ ?_ 0 (Nat.zero_le _)
  · apply h1; unfold cDirect0_1; rw [if_neg (by simp)]; rfl
  · intro i hi ih
    apply h1; unfold cDirect0_1; rw [if_pos (by simpa using hi)]
    have hle := hlen i
    rw [show dirTo h (N : Int) (i + 1) = dirTo h (N : Int) i ++ if touchB h i N = true then [(i : Int)] else [] from rfl] at ih
    refine ⟨⟨by omega, by omega, by omega, by omega⟩, ?_⟩
    by_cases g : touchB h i N = true
    · rw [if_pos g] at ih ⊢
      exact ⟨by simp only [List.length_cons, List.length_nil]; omega, inI_succ hi (by omega), ih⟩
    · rw [if_neg g, List.append_nil] at ih
      rw [if_neg g]
      exact ⟨inI_succ hi (by omega), ih⟩
abbrev cFree71 : Con := { A := (.cons .int (.cons (.ref .int) .nil)), R := (.cons .bool .nil), pre := fun x => 0 ≤ x.1 ∧ x.1 < 60, F := fun x => ((IntKind.i64.wrap (BitVec.ofInt 64 (Int.fdiv x.2.1 (2 ^ (Int.toNat x.1))) &&& BitVec.ofInt 64 (1 : Int)).toNat) == 0, ()) }
def cFree71_0  (k : Int) (c0 : Int) (y0 : Bool) : Prop :=
  (0 ≤ k ∧ k < 64) ∧ (True ∧ (((IntKind.i64.wrap (BitVec.ofInt 64 (Int.fdiv c0 (2 ^ (Int.toNat k))) &&& BitVec.ofInt 64 (1 : Int)).toNat) == (0 : Int)) = y0 ∧ True))
theorem cFree71_law (h : ∀ (k : Int) (c0 : Int), cFree71.A.wf (k, c0, ()) → (0 ≤ k ∧ k < 60) → cFree71_0  k c0 ((IntKind.i64.wrap (BitVec.ofInt 64 (Int.fdiv c0 (2 ^ (Int.toNat k))) &&& BitVec.ofInt 64 (1 : Int)).toNat) == 0)) : ConOK Go.Proofs.Try.prog 104 cFree71 := by
  refine lawL (Γ := []) (Θ := Th) (n := 9) [] trivial (by kernel_rfl) th_ok mix_ok Go.Proofs.Try.func104 (by kernel_rfl) ?_
  intro x hw hp Λ hC
  have h0 := h x.1 x.2.1 hw hp  
  exact Eq.mpr (by kernel_rfl) h0
theorem cFree71_ok : ConOK Go.Proofs.Try.prog 104 cFree71 := by
  refine cFree71_law ?_
  intro k c0 hw hp
  unfold cFree71_0
  exact ⟨⟨hp.1, by omega⟩, trivial, rfl, trivial⟩
abbrev cIndexN : Con := { A := (.cons (.sl .int) (.cons .int .nil)), R := (.cons .int .nil), pre := fun x => True, F := fun x => (idxF (fun r' => x.2.1 == r') x.1, ()) }
def cIndexN_0 (Λ1 : Int → Prop) (s : (List Int)) (v : Int) (y0 : Int) : Prop :=
  Λ1 (0 : Int)
def cIndexN_1 (Λ1 : Int → Prop) (s : (List Int)) (v : Int) (y0 : Int)  (t8_1 : Int) : Prop :=
  if (decide (t8_1 < (List.length s : Int))) = true then (idx t8_1 (List.length s : Int) ∧ (if (v == (List.getD s (Int.toNat t8_1) 0)) = true then (t8_1 = y0 ∧ True) else (inI (t8_1 + (1 : Int)) ∧ Λ1 (t8_1 + (1 : Int))))) else ((-1 : Int) = y0 ∧ True)
theorem cIndexN_law (h : ∀ (s : (List Int)) (v : Int), cIndexN.A.wf (s, v, ()) → ∀ (Λ1 : Int → Prop), (∀ (t8_1 : Int), cIndexN_1 Λ1 s v (idxF (fun r' => v == r') s) t8_1 → Λ1 t8_1) → cIndexN_0 Λ1 s v (idxF (fun r' => v == r') s)) : ConOK Go.Proofs.Try.prog 94 cIndexN := by
  refine lawL (Γ := []) (Θ := Th) (n := 19) [([1, 0, 1, 0], ⟨[(0, false), (1, false), (7, true), (8, true)], []⟩)] trivial (by kernel_rfl) th_ok mix_ok Go.Proofs.Try.func94 (by kernel_rfl) ?_
  intro x hw hp Λ hC
  have h0 := h x.1 x.2.1 hw (fun t8_1 => Λ [1, 0, 1, 0] ([(0, .d false (.sl .int) x.1), (1, .d false .int x.2.1), (7, .d true .int (List.length x.1 : Int)), (8, .d true .int t8_1)], [])) (fun t8_1 hb => hC [1, 0, 1, 0] ([(0, .d false (.sl .int) x.1), (1, .d false .int x.2.1), (7, .d true .int (List.length x.1 : Int)), (8, .d true .int t8_1)], []) (Eq.mpr (by kernel_rfl) hb))
  exact Eq.mpr (by kernel_rfl) h0
theorem cIndexN_ok : ConOK Go.Proofs.Try.prog 94 cIndexN := by
  refine cIndexN_law ?_
  intro s v hw Λ1 h1
  unfold cIndexN_0
  refine upto (n := s.length) (Q := fun i => (s.take i).any (fun r => v == r) = false → Λ1 i) ?_ ?_ 0 (Nat.zero_le _) rfl
  · intro ha
    rw [List.take_length] at ha
    apply h1; unfold cIndexN_1; rw [if_neg (by simp), idxF_none ha]
    exact ⟨rfl, trivial⟩
  · intro i hi ih ha
    apply h1; unfold cIndexN_1; rw [if_pos (by simpa using hi), Int.toNat_natCast]
    refine ⟨idx_nat hi, ?_⟩
    cases hv : (v == List.getD s i 0)
    · rw [if_neg (by simp)]
      exact ⟨inI_succ hi hw.1.1, ih (any_take_next (p := fun r => v == r) 0 hi ha hv)⟩
    · rw [if_pos (by rfl), idxF_at (p := fun r => v == r) 0 hi ha hv]
      exact ⟨rfl, trivial⟩
abbrev cContN : Con := { A := (.cons (.sl .int) (.cons .int .nil)), R := (.cons .bool .nil), pre := fun x => True, F := fun x => (decide (x.2.1 ∈ x.1), ()) }
def cContN_0  (s : (List Int)) (v : Int) (y0 : Bool) : Prop :=
  True ∧ ((decide ((idxF (fun r' => v == r') s) ≥ (0 : Int))) = y0 ∧ True)
theorem cContN_law (h : ∀ (s : (List Int)) (v : Int), cContN.A.wf (s, v, ()) → cContN_0  s v (decide (v ∈ s))) : ConOK Go.Proofs.Try.prog 63 cContN := by
  refine lawL (Γ := [(94, cIndexN)]) (Θ := Th) (n := 9) [] ⟨cIndexN_ok, trivial⟩ (by kernel_rfl) th_ok mix_ok Go.Proofs.Try.func63 (by kernel_rfl) ?_
  intro x hw hp Λ hC
  have h0 := h x.1 x.2.1 hw  
  exact Eq.mpr (by kernel_rfl) h0
theorem cContN_ok : ConOK Go.Proofs.Try.prog 63 cContN := by
  refine cContN_law ?_
  intro s v hw
  unfold cContN_0
  refine ⟨trivial, ?_, trivial⟩
  rw [idxF_any, Bool.eq_iff_iff]
  simp
abbrev cIndexI2 : Con := { A := (.cons (.sl .int) (.cons (.fn (.cons .int .nil) (.cons .bool .nil)) .nil)), R := (.cons .int .nil), pre := fun x => ∀ r' ∈ x.1, x.2.1.1 (r', ()), F := fun x => (idxF (fun r' => (x.2.1.2 (r', ())).1) x.1, ()) }
def cIndexI2_0 (Λ1 : Int → Prop) (s : (List Int)) (f : (T.fn (.cons .int .nil) (.cons .bool .nil)).den) (y0 : Int) : Prop :=
  Λ1 (0 : Int)
def cIndexI2_1 (Λ1 : Int → Prop) (s : (List Int)) (f : (T.fn (.cons .int .nil) (.cons .bool .nil)).den) (y0 : Int)  (t8_1 : Int) : Prop :=
  if (decide (t8_1 < (List.length s : Int))) = true then (idx t8_1 (List.length s : Int) ∧ (f.1 ((List.getD s (Int.toNat t8_1) 0), ()) ∧ (if ((f.2 ((List.getD s (Int.toNat t8_1) 0), ())).1) = true then (t8_1 = y0 ∧ True) else (inI (t8_1 + (1 : Int)) ∧ Λ1 (t8_1 + (1 : Int)))))) else ((-1 : Int) = y0 ∧ True)
theorem cIndexI2_law (h : ∀ (s : (List Int)) (f : (T.fn (.cons .int .nil) (.cons .bool .nil)).den), cIndexI2.A.wf (s, f, ()) → (∀ r' ∈ s, f.1 (r', ())) → ∀ (Λ1 : Int → Prop), (∀ (t8_1 : Int), cIndexI2_1 Λ1 s f (idxF (fun r' => (f.2 (r', ())).1) s) t8_1 → Λ1 t8_1) → cIndexI2_0 Λ1 s f (idxF (fun r' => (f.2 (r', ())).1) s)) : ConOK Go.Proofs.Try.prog 117 cIndexI2 := by
  refine lawL (Γ := []) (Θ := Th) (n := 19) [([1, 0, 1, 0], ⟨[(0, false), (1, false), (7, true), (8, true)], []⟩)] trivial (by kernel_rfl) th_ok mix_ok Go.Proofs.Try.func117 (by kernel_rfl) ?_
  intro x hw hp Λ hC
  have h0 := h x.1 x.2.1 hw hp (fun t8_1 => Λ [1, 0, 1, 0] ([(0, .d false (.sl .int) x.1), (1, .d false (.fn (.cons .int .nil) (.cons .bool .nil)) x.2.1), (7, .d true .int (List.length x.1 : Int)), (8, .d true .int t8_1)], [])) (fun t8_1 hb => hC [1, 0, 1, 0] ([(0, .d false (.sl .int) x.1), (1, .d false (.fn (.cons .int .nil) (.cons .bool .nil)) x.2.1), (7, .d true .int (List.length x.1 : Int)), (8, .d true .int t8_1)], []) (Eq.mpr (by kernel_rfl) hb))
  exact Eq.mpr (by kernel_rfl) h0
theorem cIndexI2_ok : ConOK Go.Proofs.Try.prog 117 cIndexI2 := by
  refine cIndexI2_law ?_
  intro s f hw hp Λ1 h1
  unfold cIndexI2_0
  refine upto (n := s.length) (Q := fun i => (s.take i).any (fun r => (f.2 (r, ())).1) = false → Λ1 i) ?_ ?_ 0 (Nat.zero_le _) rfl
  · intro ha
    rw [List.take_length] at ha
    apply h1; unfold cIndexI2_1; rw [if_neg (by simp), idxF_none ha]
    exact ⟨rfl, trivial⟩
  · intro i hi ih ha
    apply h1; unfold cIndexI2_1; rw [if_pos (by simpa using hi), Int.toNat_natCast]
    refine ⟨idx_nat hi, hp _ (mem_getD hi), ?_⟩
    cases hv : (f.2 (List.getD s i 0, ())).1
    · rw [if_neg (by simp)]
      exact ⟨inI_succ hi hw.1.1, ih (any_take_next (p := fun r => (f.2 (r, ())).1) 0 hi ha hv)⟩
    · rw [if_pos (by rfl), idxF_at (p := fun r => (f.2 (r, ())).1) 0 hi ha hv]
      exact ⟨rfl, trivial⟩
abbrev cContI2 : Con := { A := (.cons (.sl .int) (.cons (.fn (.cons .int .nil) (.cons .bool .nil)) .nil)), R := (.cons .bool .nil), pre := fun x => ∀ r' ∈ x.1, x.2.1.1 (r', ()), F := fun x => (x.1.any (fun r' => (x.2.1.2 (r', ())).1), ()) }
def cContI2_0  (s : (List Int)) (f : (T.fn (.cons .int .nil) (.cons .bool .nil)).den) (y0 : Bool) : Prop :=
  (∀ r' ∈ s, f.1 (r', ())) ∧ ((decide ((idxF (fun r' => (f.2 (r', ())).1) s) ≥ (0 : Int))) = y0 ∧ True)
theorem cContI2_law (h : ∀ (s : (List Int)) (f : (T.fn (.cons .int .nil) (.cons .bool .nil)).den), cContI2.A.wf (s, f, ()) → (∀ r' ∈ s, f.1 (r', ())) → cContI2_0  s f (s.any (fun r' => (f.2 (r', ())).1))) : ConOK Go.Proofs.Try.prog 103 cContI2 := by
  refine lawL (Γ := [(117, cIndexI2)]) (Θ := Th) (n := 9) [] ⟨cIndexI2_ok, trivial⟩ (by kernel_rfl) th_ok mix_ok Go.Proofs.Try.func103 (by kernel_rfl) ?_
  intro x hw hp Λ hC
  have h0 := h x.1 x.2.1 hw hp  
  exact Eq.mpr (by kernel_rfl) h0
theorem cContI2_ok : ConOK Go.Proofs.Try.prog 103 cContI2 := by
  refine cContI2_law ?_
  intro s f hw hp
  unfold cContI2_0
  exact ⟨hp, idxF_any _ _, trivial⟩
abbrev cFree7 : Con := { A := (.cons (.sl (.sl tEd)) (.cons .int (.cons .int .nil))), R := (.cons .bool .nil), pre := fun x => 0 ≤ x.2.2.1 ∧ x.2.2.1 < (x.1.length : Int) ∧ x.1.length ≤ 8, F := fun x => (((IntKind.i64.wrap (BitVec.ofInt 64 (Int.fdiv x.2.1 (2 ^ (Int.toNat x.2.2.1))) &&& BitVec.ofInt 64 (1 : Int)).toNat) == 0) && !((dirTo x.1 x.2.2.1 (Int.toNat x.2.2.1)).any fun k' => (IntKind.i64.wrap (BitVec.ofInt 64 (Int.fdiv x.2.1 (2 ^ (Int.toNat k'))) &&& BitVec.ofInt 64 (1 : Int)).toNat) == 0), ()) }
def cFree7_0  (h : (List (List Edt))) (done : Int) (n : Int) (y0 : Bool) : Prop :=
  (0 ≤ n ∧ n < 64) ∧ (True ∧ (if ((IntKind.i64.wrap (BitVec.ofInt 64 (Int.fdiv done (2 ^ (Int.toNat n))) &&& BitVec.ofInt 64 (1 : Int)).toNat) == (0 : Int)) = true then ((0 ≤ n ∧ n < (h.length : Int) ∧ h.length ≤ 8) ∧ ((∀ r' ∈ (dirTo h n (Int.toNat n)), (fun (xx : (Int × Unit)) => 0 ≤ xx.1 ∧ xx.1 < 60, fun (xx : (Int × Unit)) => ((IntKind.i64.wrap (BitVec.ofInt 64 (Int.fdiv done (2 ^ (Int.toNat xx.1))) &&& BitVec.ofInt 64 (1 : Int)).toNat) == 0, ())).1 (r', ())) ∧ (True ∧ ((bif true then (!((dirTo h n (Int.toNat n)).any (fun r' => ((fun (xx : (Int × Unit)) => 0 ≤ xx.1 ∧ xx.1 < 60, fun (xx : (Int × Unit)) => ((IntKind.i64.wrap (BitVec.ofInt 64 (Int.fdiv done (2 ^ (Int.toNat xx.1))) &&& BitVec.ofInt 64 (1 : Int)).toNat) == 0, ())).2 (r', ())).1))) else false) = y0 ∧ True)))) else (false = false ∧ (false = y0 ∧ True))))
theorem cFree7_law (h : ∀ (h : (List (List Edt))) (done : Int) (n : Int), cFree7.A.wf (h, done, n, ()) → (0 ≤ n ∧ n < (h.length : Int) ∧ h.length ≤ 8) → cFree7_0  h done n (((IntKind.i64.wrap (BitVec.ofInt 64 (Int.fdiv done (2 ^ (Int.toNat n))) &&& BitVec.ofInt 64 (1 : Int)).toNat) == 0) && !((dirTo h n (Int.toNat n)).any fun k' => (IntKind.i64.wrap (BitVec.ofInt 64 (Int.fdiv done (2 ^ (Int.toNat k'))) &&& BitVec.ofInt 64 (1 : Int)).toNat) == 0))) : ConOK Go.Proofs.Try.prog 83 cFree7 := by
  refine lawX (X := { subs := [], frz := [4], U := [], mul := [], nst := [], nls := [], itf := none, inp := [], arrs := [] }) (hX := xok0 _ trivial) (Γ := [(103, cContI2), (67, cDirect0), (104, cFree71)]) (Θ := Th) (n := 20) [] ⟨cContI2_ok, cDirect0_ok, cFree71_ok, trivial⟩ (by kernel_rfl) th_ok mix_ok Go.Proofs.Try.func83 (by kernel_rfl) ?_
  intro x hw hp Λ hC
  have h0 := h x.1 x.2.1 x.2.2.1 hw hp  
  exact Eq.mpr (by kernel_rfl) h0
theorem cFree7_ok : ConOK Go.Proofs.Try.prog 83 cFree7 := by
  refine cFree7_law ?_
  intro h done n hw hp
  unfold cFree7_0
  obtain ⟨p1, p2, p3⟩ := hp
  have hmem : ∀ i, ∀ k ∈ dirTo h n i, 0 ≤ k ∧ k < i := by
    intro i
    induction i with
    | zero => intro k hk; simp [dirTo] at hk
    | succ i ih =>
      intro k hk
      unfold dirTo at hk
      rcases List.mem_append.1 hk with g | g
      · have := ih k g; omega
      · split at g <;> simp at g
        omega
  refine ⟨⟨p1, by omega⟩, trivial, ?_⟩
  cases hb : ((IntKind.i64.wrap (BitVec.ofInt 64 (Int.fdiv done (2 ^ (Int.toNat n))) &&& BitVec.ofInt 64 (1 : Int)).toNat) == (0 : Int))
  · rw [if_neg (by simp)]
    exact ⟨rfl, by simp, trivial⟩
  · rw [if_pos (by rfl)]
    exact ⟨⟨p1, p2, p3⟩, fun k hk => by have := hmem _ k hk; exact ⟨this.1, by show k < 60; omega⟩, trivial, by simp, trivial⟩
def trueTo (L : List Bool) : Nat → List Int
  | 0 => []
  | i + 1 => trueTo L i ++ if L.getD i false = true then [(i : Int)] else []
theorem trueTo_len (L : List Bool) : ∀ i, (trueTo L i).length ≤ i
  | 0 => Nat.le_refl _
  | i + 1 => by
    unfold trueTo
    rw [List.length_append]
    have := trueTo_len L i
    split <;> simp <;> omega

abbrev cNeeds0 : Con := { A := (.cons (.sl (.sl tEd)) (.cons .int .nil)), R := (.cons (.osl .int) .nil), pre := fun x => x.1 = sH ∧ (x.2.1 = 0 ∨ x.2.1 = 1 ∨ x.2.1 = 2), F := fun x => ((if x.2.1 = 2 then [0, 1] else []), ()) }
def cNeeds0_0 (Λ1 : (List Bool) → (List Int) → Prop) (Λ2 : (List Bool) → Int → (List Int) → Prop) (h : (List (List Edt))) (n : Int) (y0 : (List Int)) : Prop :=
  mkLen (List.length h : Int) (List.length h : Int) ∧ ((0 ≤ n ∧ n < (h.length : Int) ∧ h.length ≤ 8) ∧ Λ1 (List.replicate (Int.toNat (List.length h : Int)) false) (dirTo h n (Int.toNat n)))
def cNeeds0_1 (Λ1 : (List Bool) → (List Int) → Prop) (Λ2 : (List Bool) → Int → (List Int) → Prop) (h : (List (List Edt))) (n : Int) (y0 : (List Int))  (there_1 : (List Bool)) (open_1 : (List Int)) : Prop :=
  if (decide ((List.length open_1 : Int) > (0 : Int))) = true then (idx (0 : Int) (List.length open_1 : Int) ∧ ((0 ≤ (1 : Int) ∧ (1 : Int) ≤ (List.length open_1 : Int) ∧ (List.length open_1 : Int) ≤ (List.length open_1 : Int) ∧ (List.length open_1 : Int) ≤ (List.length open_1 : Int)) ∧ (idx (List.getD open_1 (Int.toNat (0 : Int)) 0) (List.length there_1 : Int) ∧ (if (!(List.getD there_1 (Int.toNat (List.getD open_1 (Int.toNat (0 : Int)) 0)) false)) = true then (idx (List.getD open_1 (Int.toNat (0 : Int)) 0) (List.length there_1 : Int) ∧ ((0 ≤ (List.getD open_1 (Int.toNat (0 : Int)) 0) ∧ (List.getD open_1 (Int.toNat (0 : Int)) 0) < (h.length : Int) ∧ h.length ≤ 8) ∧ (List.length (List.drop (Int.toNat (1 : Int)) (List.take (Int.toNat (List.length open_1 : Int)) open_1)) + List.length (dirTo h (List.getD open_1 (Int.toNat (0 : Int)) 0) (Int.toNat (List.getD open_1 (Int.toNat (0 : Int)) 0))) ≤ 4294967296 ∧ Λ1 (List.set there_1 (Int.toNat (List.getD open_1 (Int.toNat (0 : Int)) 0)) true) ((List.drop (Int.toNat (1 : Int)) (List.take (Int.toNat (List.length open_1 : Int)) open_1)) ++ (dirTo h (List.getD open_1 (Int.toNat (0 : Int)) 0) (Int.toNat (List.getD open_1 (Int.toNat (0 : Int)) 0))))))) else Λ1 there_1 (List.drop (Int.toNat (1 : Int)) (List.take (Int.toNat (List.length open_1 : Int)) open_1)))))) else Λ2 there_1 (0 : Int) ([] : List Int)
def cNeeds0_2 (Λ1 : (List Bool) → (List Int) → Prop) (Λ2 : (List Bool) → Int → (List Int) → Prop) (h : (List (List Edt))) (n : Int) (y0 : (List Int)) (there_1 : (List Bool)) (t43_2 : Int) (out_2 : (List Int)) : Prop :=
  if (decide (t43_2 < (List.length there_1 : Int))) = true then (idx t43_2 (List.length there_1 : Int) ∧ (if (List.getD there_1 (Int.toNat t43_2) false) = true then (List.length out_2 + List.length [t43_2] ≤ 4294967296 ∧ (inI (t43_2 + (1 : Int)) ∧ Λ2 there_1 (t43_2 + (1 : Int)) (out_2 ++ [t43_2]))) else (inI (t43_2 + (1 : Int)) ∧ Λ2 there_1 (t43_2 + (1 : Int)) out_2))) else out_2 = y0
theorem cNeeds0_law (h : ∀ (h : (List (List Edt))) (n : Int), cNeeds0.A.wf (h, n, ()) → (h = sH ∧ (n = 0 ∨ n = 1 ∨ n = 2)) → ∀ (Λ1 : (List Bool) → (List Int) → Prop) (Λ2 : (List Bool) → Int → (List Int) → Prop), (∀ (there_1 : (List Bool)) (open_1 : (List Int)), cNeeds0_1 Λ1 Λ2 h n (if n = 2 then [0, 1] else []) there_1 open_1 → Λ1 there_1 open_1) → (∀ (there_1 : (List Bool)) (t43_2 : Int) (out_2 : (List Int)), cNeeds0_2 Λ1 Λ2 h n (if n = 2 then [0, 1] else []) there_1 t43_2 out_2 → Λ2 there_1 t43_2 out_2) → cNeeds0_0 Λ1 Λ2 h n (if n = 2 then [0, 1] else [])) : ConOK Go.Proofs.Try.prog 59 cNeeds0 := by
  refine lawL (Γ := [(67, cDirect0)]) (Θ := Th) (n := 55) [([1, 1, 1, 1, 0, 0], ⟨[(5, true), (6, true), (7, true)], [(16, true), (19, true)]⟩), ([1, 1, 1, 1, 1, 1, 0, 1, 0], ⟨[(9, true), (41, true), (42, true), (43, true)], [(9, true), (16, true)]⟩)] ⟨cDirect0_ok, trivial⟩ (by kernel_rfl) th_ok mix_ok Go.Proofs.Try.func59 (by kernel_rfl) ?_
  intro x hw hp Λ hC
  have h0 := h x.1 x.2.1 hw hp (fun there_1 open_1 => Λ [1, 1, 1, 1, 0, 0] ([(5, .bnd 67 (.cons (.sl (.sl tEd)) .nil) (x.1, ())), (6, .own 16 0), (7, .own 19 0)], [(16, .sl true .bool there_1), (19, .sl true .int open_1)])) (fun there_1 t43_2 out_2 => Λ [1, 1, 1, 1, 1, 1, 0, 1, 0] ([(9, .own 9 0), (41, .own 16 0), (42, .d true .int (List.length there_1 : Int)), (43, .d true .int t43_2)], [(9, .sl true .int out_2), (16, .sl true .bool there_1)])) (fun there_1 open_1 hb => hC [1, 1, 1, 1, 0, 0] ([(5, .bnd 67 (.cons (.sl (.sl tEd)) .nil) (x.1, ())), (6, .own 16 0), (7, .own 19 0)], [(16, .sl true .bool there_1), (19, .sl true .int open_1)]) (Eq.mpr (by kernel_rfl) hb)) (fun there_1 t43_2 out_2 hb => hC [1, 1, 1, 1, 1, 1, 0, 1, 0] ([(9, .own 9 0), (41, .own 16 0), (42, .d true .int (List.length there_1 : Int)), (43, .d true .int t43_2)], [(9, .sl true .int out_2), (16, .sl true .bool there_1)]) (Eq.mpr (by kernel_rfl) hb))
  exact Eq.mpr (by kernel_rfl) h0
theorem cNeeds0_ok : ConOK Go.Proofs.Try.prog 59 cNeeds0 := by
  refine cNeeds0_law ?_
  intro h n hw hp Λ1 Λ2 h1 h2
  unfold cNeeds0_0
  obtain ⟨rfl, hn⟩ := hp
  have e2 : ∀ L : List Bool, L.length = 3 → trueTo L 3 = (if n = 2 then [0, 1] else []) → Λ2 L 0 [] := by
    intro L hL hy
    refine upto (n := 3) (Q := fun i => Λ2 L (i : Int) (trueTo L i)) ?_ ?_ 0 (Nat.zero_le _)
    · apply h2; unfold cNeeds0_2; rw [if_neg (by rw [hL]; simp)]; exact hy
    · intro i hi ih
      have hle := trueTo_len L i
      rw [show trueTo L (i + 1) = trueTo L i ++ if L.getD i false = true then [(i : Int)] else [] from rfl] at ih
      apply h2; unfold cNeeds0_2; rw [if_pos (by rw [hL]; simp; omega), Int.toNat_natCast]
      refine ⟨⟨by omega, by omega⟩, ?_⟩
      by_cases g : L.getD i false = true
      · rw [if_pos g] at ih ⊢
        exact ⟨by simp only [List.length_cons, List.length_nil]; omega, inI_succ hi (by omega), ih⟩
      · rw [if_neg g, List.append_nil] at ih
        rw [if_neg g]
        exact ⟨inI_succ hi (by omega), ih⟩
  have e1 : ∀ L : List Bool, L.length = 3 → trueTo L 3 = (if n = 2 then [0, 1] else []) → Λ1 L [] := by
    intro L hL hy
    apply h1; unfold cNeeds0_1; rw [if_neg (by simp)]
    exact e2 L hL hy
  rcases hn with rfl | rfl | rfl
  · exact ⟨by unfold mkLen sH; simp, ⟨by decide, by decide, by decide⟩, e1 _ rfl (by decide +kernel)⟩
  · refine ⟨by unfold mkLen sH; simp, ⟨by decide, by decide, by decide⟩, ?_⟩
    have d : dirTo sH 1 (Int.toNat 1) = [] := by decide +kernel
    rw [d]
    exact e1 _ rfl (by decide +kernel)
  · refine ⟨by unfold mkLen sH; simp, ⟨by decide, by decide, by decide⟩, ?_⟩
    have d : dirTo sH 2 (Int.toNat 2) = [0, 1] := by decide +kernel
    have d0 : dirTo sH 0 (Int.toNat 0) = [] := rfl
    have d1 : dirTo sH 1 (Int.toNat 1) = [] := by decide +kernel
    rw [d]
    have s2 : Λ1 [true, false, false] [1] := by
      apply h1; unfold cNeeds0_1
      rw [if_pos (by decide)]
      refine ⟨⟨by decide, by decide⟩, ⟨by decide, by decide, by decide, by decide⟩, ⟨by decide, by decide⟩, ?_⟩
      rw [if_pos (by decide)]
      refine ⟨⟨by decide, by decide⟩, ⟨by decide, by decide, by decide⟩, ?_, ?_⟩
      · show _ + (dirTo sH 1 (Int.toNat 1)).length ≤ _
        rw [d1]; decide
      · show Λ1 [true, true, false] ([] ++ dirTo sH 1 (Int.toNat 1))
        rw [d1]
        exact e1 _ rfl (by decide +kernel)
    apply h1; unfold cNeeds0_1
    rw [if_pos (by decide)]
    refine ⟨⟨by decide, by decide⟩, ⟨by decide, by decide, by decide, by decide⟩, ⟨by decide, by decide⟩, ?_⟩
    rw [if_pos (by decide)]
    refine ⟨⟨by decide, by decide⟩, ⟨by decide, by decide, by decide⟩, ?_, ?_⟩
    · show _ + (dirTo sH 0 (Int.toNat 0)).length ≤ _
      rw [d0]; decide
    · show Λ1 [true, false, false] ([1] ++ dirTo sH 0 (Int.toNat 0))
      rw [d0]
      exact s2
abbrev cNeeded0 : Con := { A := (.cons (.sl (.sl tEd)) (.cons .int .nil)), R := (.cons (.osl .int) .nil), pre := fun x => x.1 = sH ∧ x.2.1 = 0, F := fun x => ([2], ()) }
def cNeeded0_0 (Λ1 : Int → (List Int) → Prop) (h : (List (List Edt))) (n : Int) (y0 : (List Int)) : Prop :=
  inI (n + (1 : Int)) ∧ Λ1 (n + (1 : Int)) ([] : List Int)
def cNeeded0_1 (Λ1 : Int → (List Int) → Prop) (h : (List (List Edt))) (n : Int) (y0 : (List Int))  (k_1 : Int) (out_1 : (List Int)) : Prop :=
  if (decide (k_1 < (List.length h : Int))) = true then ((h = sH ∧ (k_1 = 0 ∨ k_1 = 1 ∨ k_1 = 2)) ∧ (True ∧ (if (decide (n ∈ ((if k_1 = 2 then [0, 1] else [])))) = true then (List.length out_1 + List.length [k_1] ≤ 4294967296 ∧ (inI (k_1 + (1 : Int)) ∧ Λ1 (k_1 + (1 : Int)) (out_1 ++ [k_1]))) else (inI (k_1 + (1 : Int)) ∧ Λ1 (k_1 + (1 : Int)) out_1)))) else out_1 = y0
theorem cNeeded0_law (h : ∀ (h : (List (List Edt))) (n : Int), cNeeded0.A.wf (h, n, ()) → (h = sH ∧ n = 0) → ∀ (Λ1 : Int → (List Int) → Prop), (∀ (k_1 : Int) (out_1 : (List Int)), cNeeded0_1 Λ1 h n [2] k_1 out_1 → Λ1 k_1 out_1) → cNeeded0_0 Λ1 h n [2]) : ConOK Go.Proofs.Try.prog 60 cNeeded0 := by
  refine lawL (Γ := [(63, cContN), (59, cNeeds0)]) (Θ := Th) (n := 25) [([1, 1, 0, 1, 0], ⟨[(0, false), (1, false), (5, true), (6, true)], [(5, true)]⟩)] ⟨cContN_ok, cNeeds0_ok, trivial⟩ (by kernel_rfl) th_ok mix_ok Go.Proofs.Try.func60 (by kernel_rfl) ?_
  intro x hw hp Λ hC
  have h0 := h x.1 x.2.1 hw hp (fun k_1 out_1 => Λ [1, 1, 0, 1, 0] ([(0, .d false (.sl (.sl tEd)) x.1), (1, .d false .int x.2.1), (5, .own 5 0), (6, .d true .int k_1)], [(5, .sl true .int out_1)])) (fun k_1 out_1 hb => hC [1, 1, 0, 1, 0] ([(0, .d false (.sl (.sl tEd)) x.1), (1, .d false .int x.2.1), (5, .own 5 0), (6, .d true .int k_1)], [(5, .sl true .int out_1)]) (Eq.mpr (by kernel_rfl) hb))
  exact Eq.mpr (by kernel_rfl) h0
theorem cNeeded0_ok : ConOK Go.Proofs.Try.prog 60 cNeeded0 := by
  refine cNeeded0_law ?_
  intro h n hw hp Λ1 h1
  unfold cNeeded0_0
  obtain ⟨rfl, rfl⟩ := hp
  refine ⟨by unfold inI; decide, ?_⟩
  show Λ1 1 []
  have s3 : Λ1 3 [2] := by
    apply h1; unfold cNeeded0_1; rw [if_neg (by decide)]
  have s2 : Λ1 2 [] := by
    apply h1; unfold cNeeded0_1; rw [if_pos (by decide)]
    refine ⟨⟨rfl, by simp⟩, trivial, ?_⟩
    rw [if_pos (by decide)]
    exact ⟨by decide, by unfold inI; decide, s3⟩
  apply h1; unfold cNeeded0_1; rw [if_pos (by decide)]
  refine ⟨⟨rfl, by simp⟩, trivial, ?_⟩
  rw [if_neg (by decide)]
  exact ⟨by unfold inI; decide, s2⟩
abbrev cIsSet : Con := { A := (.cons (.sl .int) (.cons .int .nil)), R := (.cons .bool .nil), pre := fun x => x.1 = [0] ∧ x.2.1 = 3, F := fun x => (true, ()) }
def cIsSet_0 (Λ1 : Int → Prop) (l : (List Int)) (n : Int) (y0 : Bool) : Prop :=
  Λ1 (0 : Int)
def cIsSet_1 (Λ1 : Int → Prop) (l : (List Int)) (n : Int) (y0 : Bool)  (t9_1 : Int) : Prop :=
  if (decide (t9_1 < (List.length l : Int))) = true then (idx t9_1 (List.length l : Int) ∧ (inI (n - (1 : Int)) ∧ (True ∧ (if (!(within (List.getD l (Int.toNat t9_1) 0) (0 : Int) (n - (1 : Int)))) = true then (true = true ∧ (false = y0 ∧ True)) else (if (decide (t9_1 > (0 : Int))) = true then (inI (t9_1 - (1 : Int)) ∧ (idx (t9_1 - (1 : Int)) (List.length l : Int) ∧ (True ∧ (True ∧ (if (bif false then true else (bif true then (decide ((List.getD l (Int.toNat t9_1) 0) ≤ (List.getD l (Int.toNat (t9_1 - (1 : Int))) 0))) else false)) = true then (false = y0 ∧ True) else (inI (t9_1 + (1 : Int)) ∧ Λ1 (t9_1 + (1 : Int)))))))) else (false = false ∧ (True ∧ (if (bif false then true else false) = true then (false = y0 ∧ True) else (inI (t9_1 + (1 : Int)) ∧ Λ1 (t9_1 + (1 : Int))))))))))) else (true = y0 ∧ True)
theorem cIsSet_law (h : ∀ (l : (List Int)) (n : Int), cIsSet.A.wf (l, n, ()) → (l = [0] ∧ n = 3) → ∀ (Λ1 : Int → Prop), (∀ (t9_1 : Int), cIsSet_1 Λ1 l n true t9_1 → Λ1 t9_1) → cIsSet_0 Λ1 l n true) : ConOK Go.Proofs.Try.prog 61 cIsSet := by
  refine lawL (Γ := [(71, cWithin7)]) (Θ := Th) (n := 33) [([1, 0, 1, 0], ⟨[(0, false), (1, false), (7, false), (8, true), (9, true)], []⟩)] ⟨cWithin7_ok, trivial⟩ (by kernel_rfl) th_ok mix_ok Go.Proofs.Try.func61 (by kernel_rfl) ?_
  intro x hw hp Λ hC
  have h0 := h x.1 x.2.1 hw hp (fun t9_1 => Λ [1, 0, 1, 0] ([(0, .d false (.sl .int) x.1), (1, .d false .int x.2.1), (7, .d false (.sl .int) x.1), (8, .d true .int (List.length x.1 : Int)), (9, .d true .int t9_1)], [])) (fun t9_1 hb => hC [1, 0, 1, 0] ([(0, .d false (.sl .int) x.1), (1, .d false .int x.2.1), (7, .d false (.sl .int) x.1), (8, .d true .int (List.length x.1 : Int)), (9, .d true .int t9_1)], []) (Eq.mpr (by kernel_rfl) hb))
  exact Eq.mpr (by kernel_rfl) h0
theorem cIsSet_ok : ConOK Go.Proofs.Try.prog 61 cIsSet := by
  refine cIsSet_law ?_
  intro l n hw hp Λ1 h1
  unfold cIsSet_0
  obtain ⟨rfl, rfl⟩ := hp
  have s1 : Λ1 1 := by
    apply h1; unfold cIsSet_1; rw [if_neg (by decide)]; exact ⟨rfl, trivial⟩
  apply h1; unfold cIsSet_1; rw [if_pos (by decide)]
  refine ⟨⟨by decide, by decide⟩, by unfold inI; decide, trivial, ?_⟩
  rw [if_neg (by decide), if_neg (by decide)]
  refine ⟨rfl, trivial, ?_⟩
  rw [if_neg (by decide)]
  exact ⟨by unfold inI; decide, s1⟩
abbrev cCloneI : Con := { A := (.cons (.sl .int) .nil), R := (.cons (.osl .int) .nil), pre := fun x => x.1.length ≤ 1000000, F := fun x => (x.1, ()) }
def cCloneI_0  (s : (List Int)) (y0 : (List Int)) : Prop :=
  (s = [] → ([] : List Int) = y0) ∧ (True → (List.length ([] : List Int) + List.length s ≤ 4294967296 ∧ (([] : List Int) ++ s) = y0))
theorem cCloneI_law (h : ∀ (s : (List Int)), cCloneI.A.wf (s, ()) → (s.length ≤ 1000000) → cCloneI_0  s s) : ConOK Go.Proofs.Try.prog 62 cCloneI := by
  refine lawL (Γ := []) (Θ := Th) (n := 8) [] trivial (by kernel_rfl) th_ok mix_ok Go.Proofs.Try.func62 (by kernel_rfl) ?_
  intro x hw hp Λ hC
  have h0 := h x.1 hw hp  
  exact Eq.mpr (by kernel_rfl) h0
theorem cCloneI_ok : ConOK Go.Proofs.Try.prog 62 cCloneI := by
  refine cCloneI_law ?_
  intro s hw hp
  unfold cCloneI_0
  exact ⟨fun h => h.symm, fun _ => ⟨by simp only [List.length_nil]; omega, by simp⟩⟩
def frB (t k : Int) : Bool := ((IntKind.i64.wrap (BitVec.ofInt 64 (Int.fdiv t (2 ^ (Int.toNat k))) &&& BitVec.ofInt 64 (1 : Int)).toNat) == 0) && !((dirTo sH k (Int.toNat k)).any fun k' => (IntKind.i64.wrap (BitVec.ofInt 64 (Int.fdiv t (2 ^ (Int.toNat k'))) &&& BitVec.ofInt 64 (1 : Int)).toNat) == 0)
def orI (t k : Int) : Int := IntKind.i64.wrap (BitVec.ofInt 64 t ||| BitVec.ofInt 64 ((1 : Int) * 2 ^ (Int.toNat k))).toNat
def nxtW (t k : Int) (w : List Int) : List Int := if w.getD t.toNat 0 > 0 then (if frB t k = true then w.set (orI t k).toNat (w.getD (orI t k).toNat 0 + w.getD t.toNat 0) else w) else w
def wT : Nat → List Int
  | 0 => [1, 0, 0, 0, 0, 0, 0, 0]
  | t + 1 => nxtW t 2 (nxtW t 1 (nxtW t 0 (wT t)))
def wTK (t : Nat) : Nat → List Int
  | 0 => wT t
  | k + 1 => nxtW t k (wTK t k)
def okS (t k : Nat) : Bool := decide ((wTK t k).length = 8) && decide (0 ≤ orI t k) && decide (orI t k < 8) && decide (-1000 ≤ (wTK t k).getD (orI t k).toNat 0) && decide ((wTK t k).getD (orI t k).toNat 0 ≤ 1000) && decide (-1000 ≤ (wTK t k).getD t 0) && decide ((wTK t k).getD t 0 ≤ 1000)
theorem okS_all : ∀ t, t < 8 → ∀ k, k < 3 → okS t k = true := by decide +kernel

abbrev cCount7 : Con := { A := (.cons (.sl tL) (.cons (.sl (.sl tEd)) .nil)), R := (.cons .int (.cons .int .nil)), pre := fun x => x.1 = sP ∧ x.2.1 = sH, F := fun x => (2, 0, ()) }
def cCount7_0 (Λ1 : Int → (List Int) → Prop) (Λ2 : Int → Int → (List Int) → Prop) (p : (List Lin)) (h : (List (List Edt))) (y0 : Int) (y1 : Int) : Prop :=
  True ∧ (if ((err7 p h) != (0 : Int)) = true then ((0 : Int) = y0 ∧ (err7 p h) = y1 ∧ True) else ((0 ≤ (List.length h : Int) ∧ (List.length h : Int) < 64 ∧ inI ((1 : Int) * 2 ^ (Int.toNat (List.length h : Int)))) ∧ (mkLen ((1 : Int) * 2 ^ (Int.toNat (List.length h : Int))) ((1 : Int) * 2 ^ (Int.toNat (List.length h : Int))) ∧ (idx (0 : Int) (List.length (List.replicate (Int.toNat ((1 : Int) * 2 ^ (Int.toNat (List.length h : Int)))) (0 : Int)) : Int) ∧ Λ1 (0 : Int) (List.set (List.replicate (Int.toNat ((1 : Int) * 2 ^ (Int.toNat (List.length h : Int)))) (0 : Int)) (Int.toNat (0 : Int)) 1)))))
def cCount7_1 (Λ1 : Int → (List Int) → Prop) (Λ2 : Int → Int → (List Int) → Prop) (p : (List Lin)) (h : (List (List Edt))) (y0 : Int) (y1 : Int)  (t24_1 : Int) (ways_1 : (List Int)) : Prop :=
  if (decide (t24_1 < (List.length (List.set (List.replicate (Int.toNat ((1 : Int) * 2 ^ (Int.toNat (List.length h : Int)))) (0 : Int)) (Int.toNat (0 : Int)) 1) : Int))) = true then Λ2 t24_1 (0 : Int) ways_1 else (inI ((List.length ways_1 : Int) - (1 : Int)) ∧ (idx ((List.length ways_1 : Int) - (1 : Int)) (List.length ways_1 : Int) ∧ ((List.getD ways_1 (Int.toNat ((List.length ways_1 : Int) - (1 : Int))) 0) = y0 ∧ (0 : Int) = y1 ∧ True)))
def cCount7_2 (Λ1 : Int → (List Int) → Prop) (Λ2 : Int → Int → (List Int) → Prop) (p : (List Lin)) (h : (List (List Edt))) (y0 : Int) (y1 : Int) (t24_1 : Int) (t29_2 : Int) (ways_2 : (List Int)) : Prop :=
  if (decide (t29_2 < (List.length h : Int))) = true then (idx t24_1 (List.length ways_2 : Int) ∧ (if (decide ((List.getD ways_2 (Int.toNat t24_1) 0) > (0 : Int))) = true then ((0 ≤ t29_2 ∧ t29_2 < (h.length : Int) ∧ h.length ≤ 8) ∧ (True ∧ (if (bif true then (((IntKind.i64.wrap (BitVec.ofInt 64 (Int.fdiv t24_1 (2 ^ (Int.toNat t29_2))) &&& BitVec.ofInt 64 (1 : Int)).toNat) == 0) && !((dirTo h t29_2 (Int.toNat t29_2)).any fun k' => (IntKind.i64.wrap (BitVec.ofInt 64 (Int.fdiv t24_1 (2 ^ (Int.toNat k'))) &&& BitVec.ofInt 64 (1 : Int)).toNat) == 0)) else false) = true then ((0 ≤ t29_2 ∧ t29_2 < 64 ∧ inI ((1 : Int) * 2 ^ (Int.toNat t29_2))) ∧ (True ∧ (idx (IntKind.i64.wrap (BitVec.ofInt 64 t24_1 ||| BitVec.ofInt 64 ((1 : Int) * 2 ^ (Int.toNat t29_2))).toNat) (List.length ways_2 : Int) ∧ (idx t24_1 (List.length ways_2 : Int) ∧ (inI ((List.getD ways_2 (Int.toNat (IntKind.i64.wrap (BitVec.ofInt 64 t24_1 ||| BitVec.ofInt 64 ((1 : Int) * 2 ^ (Int.toNat t29_2))).toNat)) 0) + (List.getD ways_2 (Int.toNat t24_1) 0)) ∧ (idx (IntKind.i64.wrap (BitVec.ofInt 64 t24_1 ||| BitVec.ofInt 64 ((1 : Int) * 2 ^ (Int.toNat t29_2))).toNat) (List.length ways_2 : Int) ∧ (inI (t29_2 + (1 : Int)) ∧ Λ2 t24_1 (t29_2 + (1 : Int)) (List.set ways_2 (Int.toNat (IntKind.i64.wrap (BitVec.ofInt 64 t24_1 ||| BitVec.ofInt 64 ((1 : Int) * 2 ^ (Int.toNat t29_2))).toNat)) ((List.getD ways_2 (Int.toNat (IntKind.i64.wrap (BitVec.ofInt 64 t24_1 ||| BitVec.ofInt 64 ((1 : Int) * 2 ^ (Int.toNat t29_2))).toNat)) 0) + (List.getD ways_2 (Int.toNat t24_1) 0)))))))))) else (inI (t29_2 + (1 : Int)) ∧ Λ2 t24_1 (t29_2 + (1 : Int)) ways_2)))) else (false = false ∧ (inI (t29_2 + (1 : Int)) ∧ Λ2 t24_1 (t29_2 + (1 : Int)) ways_2)))) else (inI (t24_1 + (1 : Int)) ∧ Λ1 (t24_1 + (1 : Int)) ways_2)
theorem cCount7_law (h : ∀ (p : (List Lin)) (h : (List (List Edt))), cCount7.A.wf (p, h, ()) → (p = sP ∧ h = sH) → ∀ (Λ1 : Int → (List Int) → Prop) (Λ2 : Int → Int → (List Int) → Prop), (∀ (t24_1 : Int) (ways_1 : (List Int)), cCount7_1 Λ1 Λ2 p h 2 0 t24_1 ways_1 → Λ1 t24_1 ways_1) → (∀ (t24_1 : Int) (t29_2 : Int) (ways_2 : (List Int)), cCount7_2 Λ1 Λ2 p h 2 0 t24_1 t29_2 ways_2 → Λ2 t24_1 t29_2 ways_2) → cCount7_0 Λ1 Λ2 p h 2 0) : ConOK Go.Proofs.Try.prog 40 cCount7 := by
  refine lawL (Γ := [(83, cFree7), (32, cVal7)]) (Θ := Th) (n := 64) [([1, 1, 1, 1, 0, 1, 0], ⟨[(1, false), (7, true), (23, true), (24, true)], [(19, true)]⟩), ([1, 1, 1, 1, 0, 1, 0, 0, 1, 1, 0, 0, 1, 1, 0], ⟨[(1, false), (7, true), (8, true), (23, true), (24, true), (28, true), (29, true)], [(19, true)]⟩)] ⟨cFree7_ok, cVal7_ok, trivial⟩ (by kernel_rfl) th_ok mix_ok Go.Proofs.Try.func40 (by kernel_rfl) ?_
  intro x hw hp Λ hC
  have h0 := h x.1 x.2.1 hw hp (fun t24_1 ways_1 => Λ [1, 1, 1, 1, 0, 1, 0] ([(1, .d false (.sl (.sl tEd)) x.2.1), (7, .own 19 0), (23, .d true .int (List.length (List.set (List.replicate (Int.toNat ((1 : Int) * 2 ^ (Int.toNat (List.length x.2.1 : Int)))) (0 : Int)) (Int.toNat (0 : Int)) 1) : Int)), (24, .d true .int t24_1)], [(19, .sl true .int ways_1)])) (fun t24_1 t29_2 ways_2 => Λ [1, 1, 1, 1, 0, 1, 0, 0, 1, 1, 0, 0, 1, 1, 0] ([(1, .d false (.sl (.sl tEd)) x.2.1), (7, .own 19 0), (8, .d true .int t24_1), (23, .d true .int (List.length (List.set (List.replicate (Int.toNat ((1 : Int) * 2 ^ (Int.toNat (List.length x.2.1 : Int)))) (0 : Int)) (Int.toNat (0 : Int)) 1) : Int)), (24, .d true .int t24_1), (28, .d true .int (List.length x.2.1 : Int)), (29, .d true .int t29_2)], [(19, .sl true .int ways_2)])) (fun t24_1 ways_1 hb => hC [1, 1, 1, 1, 0, 1, 0] ([(1, .d false (.sl (.sl tEd)) x.2.1), (7, .own 19 0), (23, .d true .int (List.length (List.set (List.replicate (Int.toNat ((1 : Int) * 2 ^ (Int.toNat (List.length x.2.1 : Int)))) (0 : Int)) (Int.toNat (0 : Int)) 1) : Int)), (24, .d true .int t24_1)], [(19, .sl true .int ways_1)]) (Eq.mpr (by kernel_rfl) hb)) (fun t24_1 t29_2 ways_2 hb => hC [1, 1, 1, 1, 0, 1, 0, 0, 1, 1, 0, 0, 1, 1, 0] ([(1, .d false (.sl (.sl tEd)) x.2.1), (7, .own 19 0), (8, .d true .int t24_1), (23, .d true .int (List.length (List.set (List.replicate (Int.toNat ((1 : Int) * 2 ^ (Int.toNat (List.length x.2.1 : Int)))) (0 : Int)) (Int.toNat (0 : Int)) 1) : Int)), (24, .d true .int t24_1), (28, .d true .int (List.length x.2.1 : Int)), (29, .d true .int t29_2)], [(19, .sl true .int ways_2)]) (Eq.mpr (by kernel_rfl) hb))
  exact Eq.mpr (by kernel_rfl) h0
theorem cCount7_ok : ConOK Go.Proofs.Try.prog 40 cCount7 := by
  refine cCount7_law ?_
  intro p h hw hp Λ1 Λ2 h1 h2
  unfold cCount7_0
  obtain ⟨rfl, rfl⟩ := hp
  have he : err7 sP sH = 0 := by decide +kernel
  refine ⟨trivial, ?_⟩
  rw [if_neg (by rw [he]; simp)]
  refine ⟨⟨by decide, by decide, by unfold inI; decide⟩, ⟨by decide, by decide, rfl⟩, ⟨by decide, by decide⟩, ?_⟩
  show Λ1 ((0 : Nat) : Int) (wT 0)
  refine upto (n := 8) (Q := fun t => Λ1 (t : Int) (wT t)) ?_ ?_ 0 (Nat.zero_le _)
  · apply h1; unfold cCount7_1
    rw [if_neg (by decide)]
    have l8 : (wT 8).length = 8 := by decide +kernel
    have v8 : (wT 8).getD 7 0 = 2 := by decide +kernel
    rw [l8]
    exact ⟨by unfold inI; decide, ⟨by decide, by decide⟩, v8, rfl, trivial⟩
  · intro t ht ih
    apply h1; unfold cCount7_1
    rw [if_pos (by refine decide_eq_true ?_; show (t : Int) < ((8 : Nat) : Int); omega)]
    show Λ2 (t : Int) ((0 : Nat) : Int) (wTK t 0)
    refine upto (n := 3) (Q := fun k => Λ2 (t : Int) (k : Int) (wTK t k)) ?_ ?_ 0 (Nat.zero_le _)
    · apply h2; unfold cCount7_2
      rw [if_neg (by decide)]
      exact ⟨inI_succ ht (by omega), ih⟩
    · intro k hk ihk
      have ok := okS_all t ht k hk
      unfold okS at ok
      simp only [Bool.and_eq_true, decide_eq_true_eq] at ok
      obtain ⟨⟨⟨⟨⟨⟨o1, o2⟩, o3⟩, o4⟩, o5⟩, o6⟩, o7⟩ := ok
      rw [show wTK t (k + 1) = nxtW t k (wTK t k) from rfl] at ihk
      unfold nxtW at ihk
      rw [Int.toNat_natCast] at ihk
      apply h2; unfold cCount7_2
      rw [if_pos (by refine decide_eq_true ?_; show (k : Int) < ((3 : Nat) : Int); omega), Int.toNat_natCast]
      refine ⟨⟨by omega, by omega⟩, ?_⟩
      by_cases c1 : (wTK t k).getD t 0 > 0
      · rw [if_pos c1] at ihk
        rw [if_pos (by simpa using c1)]
        refine ⟨⟨by omega, by show (k : Int) < ((3 : Nat) : Int); omega, by decide⟩, trivial, ?_⟩
        show if frB t k = true then _ else _
        by_cases c2 : frB t k = true
        · rw [if_pos c2] at ihk ⊢
          have hp2 : inI ((1 : Int) * 2 ^ k) := by
            have c : k = 0 ∨ k = 1 ∨ k = 2 := by omega
            rcases c with rfl | rfl | rfl <;> (unfold inI; decide)
          refine ⟨⟨by omega, by omega, hp2⟩, trivial, ⟨o2, by show orI t k < _; omega⟩, ⟨by omega, by omega⟩, ?_, ⟨o2, by show orI t k < _; omega⟩, inI_succ hk (by omega), ihk⟩
          show inI ((wTK t k).getD (orI t k).toNat 0 + (wTK t k).getD t 0)
          unfold inI; omega
        · rw [if_neg c2] at ihk ⊢
          exact ⟨inI_succ hk (by omega), ihk⟩
      · rw [if_neg c1] at ihk
        rw [if_neg (by simpa using c1)]
        exact ⟨rfl, inI_succ hk (by omega), ihk⟩
abbrev cRevert7 : Con := { A := (.cons (.sl tL) (.cons (.sl (.sl tEd)) (.cons (.sl .int) .nil))), R := (.cons (.osl tL) (.cons (.sl .int) (.cons .int .nil))), pre := fun x => x.1 = sP ∧ x.2.1 = sH ∧ x.2.2.1 = [0], F := fun x => (playH sP [[sT]], [1], 0, ()) }
def cRevert7_0 (Λ1 : Int → (List Int) → Prop) (Λ2 : (List Int) → Int → (List Int) → (List (List Edt)) → Prop) (p : (List Lin)) (h : (List (List Edt))) (set_ : (List Int)) (y0 : (List Lin)) (y1 : (List Int)) (y2 : Int) : Prop :=
  True ∧ (if ((err7 p h) != (0 : Int)) = true then (([] : List Int) = y1 ∧ (err7 p h) = y2 ∧ ([] : List Lin) = y0) else ((set_ = [0] ∧ (List.length h : Int) = 3) ∧ (set_.length ≤ 1000000 ∧ Λ1 (0 : Int) set_)))
def cRevert7_1 (Λ1 : Int → (List Int) → Prop) (Λ2 : (List Int) → Int → (List Int) → (List (List Edt)) → Prop) (p : (List Lin)) (h : (List (List Edt))) (set_ : (List Int)) (y0 : (List Lin)) (y1 : (List Int)) (y2 : Int)  (t32_1 : Int) (gone_1 : (List Int)) : Prop :=
  if (decide (t32_1 < (List.length set_ : Int))) = true then (idx t32_1 (List.length set_ : Int) ∧ ((h = sH ∧ (List.getD set_ (Int.toNat t32_1) 0) = 0) ∧ (List.length gone_1 + List.length ([2]) ≤ 4294967296 ∧ (inI (t32_1 + (1 : Int)) ∧ Λ1 (t32_1 + (1 : Int)) (gone_1 ++ ([2])))))) else Λ2 gone_1 (0 : Int) ([] : List Int) ([] : List (List Edt))
def cRevert7_2 (Λ1 : Int → (List Int) → Prop) (Λ2 : (List Int) → Int → (List Int) → (List (List Edt)) → Prop) (p : (List Lin)) (h : (List (List Edt))) (set_ : (List Int)) (y0 : (List Lin)) (y1 : (List Int)) (y2 : Int) (gone_1 : (List Int)) (t44_2 : Int) (left_2 : (List Int)) (l_2 : (List (List Edt))) : Prop :=
  if (decide (t44_2 < (List.length h : Int))) = true then (idx t44_2 (List.length h : Int) ∧ (True ∧ (if (!(decide (t44_2 ∈ gone_1))) = true then (List.length left_2 + List.length [t44_2] ≤ 4294967296 ∧ (List.length l_2 + List.length ([(List.getD h (Int.toNat t44_2) ([] : List Edt))]) ≤ 4294967296 ∧ (inI (t44_2 + (1 : Int)) ∧ Λ2 gone_1 (t44_2 + (1 : Int)) (left_2 ++ [t44_2]) (l_2 ++ [(List.getD h (Int.toNat t44_2) ([] : List Edt))])))) else (inI (t44_2 + (1 : Int)) ∧ Λ2 gone_1 (t44_2 + (1 : Int)) left_2 l_2)))) else ((okH p.length l_2 ∧ p.length ≤ 8) ∧ (left_2 = y1 ∧ (0 : Int) = y2 ∧ (playH p l_2) = y0))
theorem cRevert7_law (h : ∀ (p : (List Lin)) (h : (List (List Edt))) (set_ : (List Int)), cRevert7.A.wf (p, h, set_, ()) → (p = sP ∧ h = sH ∧ set_ = [0]) → ∀ (Λ1 : Int → (List Int) → Prop) (Λ2 : (List Int) → Int → (List Int) → (List (List Edt)) → Prop), (∀ (t32_1 : Int) (gone_1 : (List Int)), cRevert7_1 Λ1 Λ2 p h set_ (playH sP [[sT]]) [1] 0 t32_1 gone_1 → Λ1 t32_1 gone_1) → (∀ (gone_1 : (List Int)) (t44_2 : Int) (left_2 : (List Int)) (l_2 : (List (List Edt))), cRevert7_2 Λ1 Λ2 p h set_ (playH sP [[sT]]) [1] 0 gone_1 t44_2 left_2 l_2 → Λ2 gone_1 t44_2 left_2 l_2) → cRevert7_0 Λ1 Λ2 p h set_ (playH sP [[sT]]) [1] 0) : ConOK Go.Proofs.Try.prog 20 cRevert7 := by
  refine lawL (Γ := [(62, cCloneI), (63, cContN), (61, cIsSet), (60, cNeeded0), (64, cPlay0), (32, cVal7)]) (Θ := Th) (n := 66) [([1, 1, 1, 1, 0, 1, 0], ⟨[(0, false), (1, false), (10, true), (30, false), (31, true), (32, true)], [(29, true)]⟩), ([1, 1, 1, 1, 1, 1, 1, 0, 1, 0], ⟨[(0, false), (10, true), (13, true), (14, true), (42, false), (43, true), (44, true)], [(13, true), (14, false), (29, true)]⟩)] ⟨cCloneI_ok, cContN_ok, cIsSet_ok, cNeeded0_ok, cPlay0_ok, cVal7_ok, trivial⟩ (by kernel_rfl) th_ok mix_ok Go.Proofs.Try.func20 (by kernel_rfl) ?_
  intro x hw hp Λ hC
  have h0 := h x.1 x.2.1 x.2.2.1 hw hp (fun t32_1 gone_1 => Λ [1, 1, 1, 1, 0, 1, 0] ([(0, .d false (.sl tL) x.1), (1, .d false (.sl (.sl tEd)) x.2.1), (10, .own 29 0), (30, .d false (.sl .int) x.2.2.1), (31, .d true .int (List.length x.2.2.1 : Int)), (32, .d true .int t32_1)], [(29, .sl true .int gone_1)])) (fun gone_1 t44_2 left_2 l_2 => Λ [1, 1, 1, 1, 1, 1, 1, 0, 1, 0] ([(0, .d false (.sl tL) x.1), (10, .own 29 0), (13, .own 13 0), (14, .own 14 0), (42, .d false (.sl (.sl tEd)) x.2.1), (43, .d true .int (List.length x.2.1 : Int)), (44, .d true .int t44_2)], [(13, .sl true .int left_2), (14, .sl false (.sl tEd) l_2), (29, .sl true .int gone_1)])) (fun t32_1 gone_1 hb => hC [1, 1, 1, 1, 0, 1, 0] ([(0, .d false (.sl tL) x.1), (1, .d false (.sl (.sl tEd)) x.2.1), (10, .own 29 0), (30, .d false (.sl .int) x.2.2.1), (31, .d true .int (List.length x.2.2.1 : Int)), (32, .d true .int t32_1)], [(29, .sl true .int gone_1)]) (Eq.mpr (by kernel_rfl) hb)) (fun gone_1 t44_2 left_2 l_2 hb => hC [1, 1, 1, 1, 1, 1, 1, 0, 1, 0] ([(0, .d false (.sl tL) x.1), (10, .own 29 0), (13, .own 13 0), (14, .own 14 0), (42, .d false (.sl (.sl tEd)) x.2.1), (43, .d true .int (List.length x.2.1 : Int)), (44, .d true .int t44_2)], [(13, .sl true .int left_2), (14, .sl false (.sl tEd) l_2), (29, .sl true .int gone_1)]) (Eq.mpr (by kernel_rfl) hb))
  exact Eq.mpr (by kernel_rfl) h0
theorem cRevert7_ok : ConOK Go.Proofs.Try.prog 20 cRevert7 := by
  refine cRevert7_law ?_
  intro p h set_ hw hp Λ1 Λ2 h1 h2
  unfold cRevert7_0
  obtain ⟨rfl, rfl, rfl⟩ := hp
  have he : err7 sP sH = 0 := by decide +kernel
  refine ⟨trivial, ?_⟩
  rw [if_neg (by rw [he]; simp)]
  refine ⟨⟨rfl, rfl⟩, ?_⟩
  refine ⟨by decide, ?_⟩
  have t3 : Λ2 [0, 2] 3 [1] [[sT]] := by
    apply h2; unfold cRevert7_2; rw [if_neg (by decide)]
    exact ⟨⟨fun x hx e he => by
      simp at hx; subst hx
      simp at he; subst he
      exact ⟨by decide, by decide⟩, by decide⟩, rfl, rfl, rfl⟩
  have t2 : Λ2 [0, 2] 2 [1] [[sT]] := by
    apply h2; unfold cRevert7_2; rw [if_pos (by decide)]
    refine ⟨⟨by decide, by decide⟩, trivial, ?_⟩
    rw [if_neg (by decide)]
    exact ⟨by unfold inI; decide, t3⟩
  have t1 : Λ2 [0, 2] 1 [] [] := by
    apply h2; unfold cRevert7_2; rw [if_pos (by decide)]
    refine ⟨⟨by decide, by decide⟩, trivial, ?_⟩
    rw [if_pos (by decide)]
    exact ⟨by decide, by decide, by unfold inI; decide, t2⟩
  have t0 : Λ2 [0, 2] 0 [] [] := by
    apply h2; unfold cRevert7_2; rw [if_pos (by decide)]
    refine ⟨⟨by decide, by decide⟩, trivial, ?_⟩
    rw [if_neg (by decide)]
    exact ⟨by unfold inI; decide, t1⟩
  have u1 : Λ1 1 [0, 2] := by
    apply h1; unfold cRevert7_1; rw [if_neg (by decide)]
    exact t0
  apply h1; unfold cRevert7_1; rw [if_pos (by decide)]
  exact ⟨⟨by decide, by decide⟩, ⟨rfl, by decide⟩, by decide, by unfold inI; decide, u1⟩
abbrev cNumb : Con := { A := (.cons (.sl tL) (.cons (.sl (.sl tEd)) (.cons .int .nil))), R := (.cons .int .nil), pre := fun x => x.1 = sP ∧ x.2.1 = sH ∧ x.2.2.1 = 2, F := fun x => (0, ()) }
def cNumb_0  (p : (List Lin)) (h : (List (List Edt))) (n : Int) (y0 : Int) : Prop :=
  True ∧ (if ((err7 p h) != (0 : Int)) = true then ((err7 p h) = y0 ∧ True) else (inI ((List.length h : Int) - (1 : Int)) ∧ (True ∧ (if (!(within n (0 : Int) ((List.length h : Int) - (1 : Int)))) = true then ((4 : Int) = y0 ∧ True) else ((0 : Int) = y0 ∧ True)))))
theorem cNumb_law (h : ∀ (p : (List Lin)) (h : (List (List Edt))) (n : Int), cNumb.A.wf (p, h, n, ()) → (p = sP ∧ h = sH ∧ n = 2) → cNumb_0  p h n 0) : ConOK Go.Proofs.Try.prog 58 cNumb := by
  refine lawL (Γ := [(32, cVal7), (71, cWithin7)]) (Θ := Th) (n := 20) [] ⟨cVal7_ok, cWithin7_ok, trivial⟩ (by kernel_rfl) th_ok mix_ok Go.Proofs.Try.func58 (by kernel_rfl) ?_
  intro x hw hp Λ hC
  have h0 := h x.1 x.2.1 x.2.2.1 hw hp  
  exact Eq.mpr (by kernel_rfl) h0
theorem cNumb_ok : ConOK Go.Proofs.Try.prog 58 cNumb := by
  refine cNumb_law ?_
  intro p h n hw hp
  unfold cNumb_0
  obtain ⟨rfl, rfl, rfl⟩ := hp
  have he : err7 sP sH = 0 := by decide +kernel
  refine ⟨trivial, ?_⟩
  rw [if_neg (by rw [he]; simp)]
  refine ⟨by unfold inI; decide, trivial, ?_⟩
  rw [if_neg (by decide)]
  exact ⟨rfl, trivial⟩
abbrev cNeeds7 : Con := { A := (.cons (.sl tL) (.cons (.sl (.sl tEd)) (.cons .int .nil))), R := (.cons (.sl .int) (.cons .int .nil)), pre := fun x => x.1 = sP ∧ x.2.1 = sH ∧ x.2.2.1 = 2, F := fun x => ([0, 1], 0, ()) }
def cNeeds7_0  (p : (List Lin)) (h : (List (List Edt))) (n : Int) (y0 : (List Int)) (y1 : Int) : Prop :=
  (p = sP ∧ h = sH ∧ n = 2) ∧ (if (0 != (0 : Int)) = true then (([] : List Int) = y0 ∧ 0 = y1 ∧ True) else ((h = sH ∧ (n = 0 ∨ n = 1 ∨ n = 2)) ∧ (((if n = 2 then [0, 1] else [])) = y0 ∧ (0 : Int) = y1 ∧ True)))
theorem cNeeds7_law (h : ∀ (p : (List Lin)) (h : (List (List Edt))) (n : Int), cNeeds7.A.wf (p, h, n, ()) → (p = sP ∧ h = sH ∧ n = 2) → cNeeds7_0  p h n [0, 1] 0) : ConOK Go.Proofs.Try.prog 17 cNeeds7 := by
  refine lawL (Γ := [(59, cNeeds0), (58, cNumb)]) (Θ := Th) (n := 19) [] ⟨cNeeds0_ok, cNumb_ok, trivial⟩ (by kernel_rfl) th_ok mix_ok Go.Proofs.Try.func17 (by kernel_rfl) ?_
  intro x hw hp Λ hC
  have h0 := h x.1 x.2.1 x.2.2.1 hw hp  
  exact Eq.mpr (by kernel_rfl) h0
theorem cNeeds7_ok : ConOK Go.Proofs.Try.prog 17 cNeeds7 := by
  refine cNeeds7_law ?_
  intro p h n hw hp
  unfold cNeeds7_0
  refine ⟨hp, ?_⟩
  obtain ⟨rfl, rfl, rfl⟩ := hp
  rw [if_neg (by decide)]
  exact ⟨⟨rfl, by simp⟩, rfl, rfl, trivial⟩
abbrev cSameInts4 : Con := { A := (.cons (.sl .int) (.cons (.sl .int) .nil)), R := (.cons .bool .nil), pre := fun x => x.1.length ≤ 1000000, F := fun x => (decide (x.1 = x.2.1), ()) }
def cSameInts4_0 (Λ1 : Int → Prop) (a : (List Int)) (b : (List Int)) (y0 : Bool) : Prop :=
  if ((List.length a : Int) != (List.length b : Int)) = true then (false = y0 ∧ True) else Λ1 (0 : Int)
def cSameInts4_1 (Λ1 : Int → Prop) (a : (List Int)) (b : (List Int)) (y0 : Bool)  (i_1 : Int) : Prop :=
  if (decide (i_1 < (List.length a : Int))) = true then (idx i_1 (List.length a : Int) ∧ (idx i_1 (List.length b : Int) ∧ (if ((List.getD a (Int.toNat i_1) 0) != (List.getD b (Int.toNat i_1) 0)) = true then (false = y0 ∧ True) else (inI (i_1 + (1 : Int)) ∧ Λ1 (i_1 + (1 : Int)))))) else (true = y0 ∧ True)
theorem cSameInts4_law (h : ∀ (a : (List Int)) (b : (List Int)), cSameInts4.A.wf (a, b, ()) → (a.length ≤ 1000000) → ∀ (Λ1 : Int → Prop), (∀ (i_1 : Int), cSameInts4_1 Λ1 a b (decide (a = b)) i_1 → Λ1 i_1) → cSameInts4_0 Λ1 a b (decide (a = b))) : ConOK Go.Proofs.Try.prog 23 cSameInts4 := by
  refine lawL (Γ := []) (Θ := Th) (n := 26) [([1, 1, 0, 1, 0], ⟨[(0, false), (1, false), (5, true)], []⟩)] trivial (by kernel_rfl) th_ok mix_ok Go.Proofs.Try.func23 (by kernel_rfl) ?_
  intro x hw hp Λ hC
  have h0 := h x.1 x.2.1 hw hp (fun i_1 => Λ [1, 1, 0, 1, 0] ([(0, .d false (.sl .int) x.1), (1, .d false (.sl .int) x.2.1), (5, .d true .int i_1)], [])) (fun i_1 hb => hC [1, 1, 0, 1, 0] ([(0, .d false (.sl .int) x.1), (1, .d false (.sl .int) x.2.1), (5, .d true .int i_1)], []) (Eq.mpr (by kernel_rfl) hb))
  exact Eq.mpr (by kernel_rfl) h0
theorem cSameInts4_ok : ConOK Go.Proofs.Try.prog 23 cSameInts4 := by
  refine cSameInts4_law ?_
  intro a b hw hp Λ1 h1
  unfold cSameInts4_0
  by_cases hl : a.length = b.length
  · rw [if_neg (by simp [hl])]
    refine upto (n := a.length) (Q := fun i => a.take i = b.take i → Λ1 i) ?_ ?_ 0 (Nat.zero_le _) rfl
    · intro ha
      rw [List.take_length, List.take_of_length_le (by omega)] at ha
      apply h1; unfold cSameInts4_1; rw [if_neg (by simp)]
      exact ⟨by simp [ha], trivial⟩
    · intro i hi ih ha
      apply h1; unfold cSameInts4_1; rw [if_pos (by simpa using hi), Int.toNat_natCast]
      refine ⟨idx_nat hi, idx_nat (by omega), ?_⟩
      by_cases hv : List.getD a i 0 = List.getD b i 0
      · rw [if_neg (by rw [hv]; simp)]
        exact ⟨inI_succ hi (by omega), ih (take_eq_next 0 hi hl ha hv)⟩
      · rw [if_pos (by simpa using hv)]
        exact ⟨by simp [ne_at 0 hv], trivial⟩
  · rw [if_pos (by simp; omega)]
    exact ⟨by simp; exact fun e => hl (by rw [e]), trivial⟩
abbrev cSane7 : Con := { A := .nil, R := (.cons .bool .nil), pre := fun x => True, F := fun x => (true, ()) }
def cSane7_0   (y0 : Bool) : Prop :=
  ([(1, 0, 9, 0, ()), (1, 1, 9, 0, ())] = sP ∧ ([[(0, (1, 0, 1, 0, ()), ())], [(1, (1, 1, 2, 0, ()), ())], [(0, (1, 0, 1, 0, ()), ()), (1, (1, 1, 2, 0, ()), ())]]) = sH) ∧ (([(1, 0, 9, 0, ()), (1, 1, 9, 0, ())] = sP ∧ ([[(0, (1, 0, 1, 0, ()), ())], [(1, (1, 1, 2, 0, ()), ())], [(0, (1, 0, 1, 0, ()), ()), (1, (1, 1, 2, 0, ()), ())]]) = sH ∧ [(0 : Int)] = [0]) ∧ (([(1, 0, 9, 0, ()), (1, 1, 9, 0, ())] = sP ∧ ([[(0, (1, 0, 1, 0, ()), ())], [(1, (1, 1, 2, 0, ()), ())], [(0, (1, 0, 1, 0, ()), ()), (1, (1, 1, 2, 0, ()), ())]]) = sH ∧ (2 : Int) = 2) ∧ (if (0 == (0 : Int)) = true then (True ∧ (if (bif true then (2 == (2 : Int)) else false) = true then (True ∧ (if (bif true then (0 == (0 : Int)) else false) = true then (([1]).length ≤ 1000000 ∧ (True ∧ (if (bif true then (decide (([1]) = [(1 : Int)])) else false) = true then (True ∧ (if (bif true then (0 == (0 : Int)) else false) = true then (([0, 1]).length ≤ 1000000 ∧ (True ∧ ((bif true then (decide (([0, 1]) = [(0 : Int), (1 : Int)])) else false) = y0 ∧ True))) else (false = false ∧ (false = y0 ∧ True)))) else (false = false ∧ (false = false ∧ (false = y0 ∧ True)))))) else (false = false ∧ (false = false ∧ (false = false ∧ (false = y0 ∧ True)))))) else (false = false ∧ (false = false ∧ (false = false ∧ (false = false ∧ (false = y0 ∧ True))))))) else (false = false ∧ (false = false ∧ (false = false ∧ (false = false ∧ (false = false ∧ (false = y0 ∧ True)))))))))
theorem cSane7_law (h : cSane7.A.wf (()) → cSane7_0   true) : ConOK Go.Proofs.Try.prog 16 cSane7 := by
  refine lawL (Γ := [(40, cCount7), (17, cNeeds7), (20, cRevert7), (23, cSameInts4)]) (Θ := Th) (n := 71) [] ⟨cCount7_ok, cNeeds7_ok, cRevert7_ok, cSameInts4_ok, trivial⟩ (by kernel_rfl) th_ok mix_ok Go.Proofs.Try.func16 (by kernel_rfl) ?_
  intro x hw hp Λ hC
  have h0 := h  hw  
  exact Eq.mpr (by kernel_rfl) h0
theorem cSane7_ok : ConOK Go.Proofs.Try.prog 16 cSane7 := by
  refine cSane7_law ?_
  intro hw
  unfold cSane7_0
  exact ⟨⟨rfl, rfl⟩, ⟨rfl, rfl, rfl⟩, ⟨rfl, rfl, rfl⟩, by decide⟩
end Go.Tk
set_option linter.unusedSimpArgs false
set_option linter.unusedVariables false
set_option linter.unnecessarySimpa false
namespace Go.Tk
open Go Go.RowKit

def upI : Nat → List Int
  | 0 => []
  | n + 1 => upI n ++ [(n : Int)]
theorem upI_len : ∀ n, (upI n).length = n
  | 0 => rfl
  | n + 1 => by unfold upI; rw [List.length_append, upI_len n]; rfl
theorem upI_get : ∀ n i, i < n → (upI n).getD i 0 = (i : Int)
  | 0, i, h => by omega
  | n + 1, i, h => by
    unfold upI
    rw [List.getD_eq_getElem?_getD, List.getElem?_append]
    by_cases e : i < n
    · rw [if_pos (by rw [upI_len]; exact e), ← List.getD_eq_getElem?_getD, upI_get n i e]
    · have : i = n := by omega
      subst this
      rw [if_neg (by rw [upI_len]; omega), upI_len]; simp

abbrev cVal4R : Con := { A := (.cons (.sl tEd) .nil), R := (.cons .int .nil), pre := fun x => True, F := fun x => (validX x.1, ()) }
def cVal4R_0 (Λ1 : Int → Prop) (x : (List Edt)) (y0 : Int) : Prop :=
  if (decide ((List.length x : Int) > (4 : Int))) = true then ((3 : Int) = y0 ∧ True) else Λ1 (0 : Int)
def cVal4R_1 (Λ1 : Int → Prop) (x : (List Edt)) (y0 : Int)  (i_1 : Int) : Prop :=
  if (decide (i_1 < (List.length x : Int))) = true then (idx i_1 (List.length x : Int) ∧ (if (decide ((List.getD x (Int.toNat i_1) tEd.dflt).1 < (0 : Int))) = true then (true = true ∧ (true = true ∧ (true = true ∧ ((1 : Int) = y0 ∧ True)))) else (idx i_1 (List.length x : Int) ∧ (True ∧ (if (bif false then true else (decide ((List.getD x (Int.toNat i_1) tEd.dflt).1 ≥ (8 : Int)))) = true then (true = true ∧ (true = true ∧ ((1 : Int) = y0 ∧ True))) else (if (decide (i_1 > (0 : Int))) = true then (inI (i_1 - (1 : Int)) ∧ (idx (i_1 - (1 : Int)) (List.length x : Int) ∧ (idx i_1 (List.length x : Int) ∧ (True ∧ (True ∧ (if (bif false then true else (bif true then (decide ((List.getD x (Int.toNat (i_1 - (1 : Int))) tEd.dflt).1 ≥ (List.getD x (Int.toNat i_1) tEd.dflt).1)) else false)) = true then (true = true ∧ ((1 : Int) = y0 ∧ True)) else (idx i_1 (List.length x : Int) ∧ (True ∧ (True ∧ (if (bif false then true else ((argErr (validLine ((List.getD x (Int.toNat i_1) tEd.dflt).2.1))) != (0 : Int))) = true then ((1 : Int) = y0 ∧ True) else (inI (i_1 + (1 : Int)) ∧ Λ1 (i_1 + (1 : Int))))))))))))) else (false = false ∧ (True ∧ (if (bif false then true else false) = true then (true = true ∧ ((1 : Int) = y0 ∧ True)) else (idx i_1 (List.length x : Int) ∧ (True ∧ (True ∧ (if (bif false then true else ((argErr (validLine ((List.getD x (Int.toNat i_1) tEd.dflt).2.1))) != (0 : Int))) = true then ((1 : Int) = y0 ∧ True) else (inI (i_1 + (1 : Int)) ∧ Λ1 (i_1 + (1 : Int)))))))))))))))) else ((0 : Int) = y0 ∧ True)
theorem cVal4R_law (h : ∀ (x : (List Edt)), cVal4R.A.wf (x, ()) → ∀ (Λ1 : Int → Prop), (∀ (i_1 : Int), cVal4R_1 Λ1 x (validX x) i_1 → Λ1 i_1) → cVal4R_0 Λ1 x (validX x)) : ConOK Go.Proofs.Try.prog 78 cVal4R := by
  refine lawL (Γ := [(100, cValLineR)]) (Θ := Th) (n := 54) [([1, 1, 0, 1, 0], ⟨[(0, false), (3, true)], []⟩)] ⟨cValLineR_ok, trivial⟩ (by kernel_rfl) th_ok mix_ok Go.Proofs.Try.func78 (by kernel_rfl) ?_
  intro x hw hp Λ hC
  have h0 := h x.1 hw (fun i_1 => Λ [1, 1, 0, 1, 0] ([(0, .d false (.sl tEd) x.1), (3, .d true .int i_1)], [])) (fun i_1 hb => hC [1, 1, 0, 1, 0] ([(0, .d false (.sl tEd) x.1), (3, .d true .int i_1)], []) (Eq.mpr (by kernel_rfl) hb))
  exact Eq.mpr (by kernel_rfl) h0
theorem cVal4R_ok : ConOK Go.Proofs.Try.prog 78 cVal4R := by
  refine cVal4R_law ?_
  intro x hw Λ1 h1
  unfold cVal4R_0
  by_cases h4 : x.length > 4
  · rw [if_pos (by simp; omega)]
    unfold validX
    rw [if_pos h4]; exact ⟨rfl, trivial⟩
  · rw [if_neg (by simp; omega)]
    have hv : validX x = argErr (okTo x x.length) := by unfold validX; rw [if_neg h4]
    have bad : ∀ i, i < x.length → edOK x i = false → 1 = validX x := fun i hi e => by rw [hv, okTo_false e _ hi]; rfl
    refine upto (n := x.length) (Q := fun i => okTo x i = true → Λ1 i) ?_ ?_ 0 (Nat.zero_le _) rfl
    · intro ha
      apply h1; unfold cVal4R_1; rw [if_neg (by simp), hv, ha]
      exact ⟨rfl, trivial⟩
    · intro i hi ih ha
      apply h1; unfold cVal4R_1; rw [if_pos (by simpa using hi), Int.toNat_natCast]
      refine ⟨idx_nat hi, ?_⟩
      have hb := bad i hi
      have ok : edOK x i = true → okTo x (i + 1) = true := fun e => by unfold okTo; rw [ha, e]; rfl
      unfold edOK at hb ok
      by_cases a1 : (x.getD i tEd.dflt).1 < 0
      · rw [if_pos (by simpa using a1)]
        exact ⟨rfl, rfl, rfl, hb (by rw [decide_eq_true a1]; rfl), trivial⟩
      rw [if_neg (by simpa using a1)]
      refine ⟨idx_nat hi, trivial, ?_⟩
      by_cases a2 : (x.getD i tEd.dflt).1 ≥ 8
      · rw [if_pos (by simpa using a2)]
        exact ⟨rfl, rfl, hb (by rw [decide_eq_true a2, Bool.or_true]; rfl), trivial⟩
      rw [if_neg (by simpa using a2)]
      have fin : (decide (i > 0) && decide ((x.getD (i - 1) tEd.dflt).1 ≥ (x.getD i tEd.dflt).1)) = false → (if (bif false then true else ((argErr (validLine ((x.getD i tEd.dflt).2.1))) != (0 : Int))) = true then ((1 : Int) = validX x ∧ True) else (inI ((i : Int) + (1 : Int)) ∧ Λ1 ((i : Int) + (1 : Int)))) := by
        intro e3
        cases a4 : validLine (x.getD i tEd.dflt).2.1
        · rw [if_pos (by rfl)]
          exact ⟨hb (by rw [a4]; simp), trivial⟩
        · rw [if_neg (by simp [argErr])]
          refine ⟨inI_succ hi (by omega), ih (ok ?_)⟩
          rw [a4, e3, decide_eq_false a1, decide_eq_false a2]; rfl
      by_cases a3 : i > 0
      · rw [if_pos (by simp; omega)]
        have e1 : ((i : Int) - 1).toNat = i - 1 := by omega
        rw [e1]
        refine ⟨by unfold inI; omega, ⟨by omega, by omega⟩, idx_nat hi, trivial, trivial, ?_⟩
        by_cases a5 : (x.getD (i - 1) tEd.dflt).1 ≥ (x.getD i tEd.dflt).1
        · rw [if_pos (by simpa using a5)]
          refine ⟨rfl, hb ?_, trivial⟩
          rw [decide_eq_true a3, decide_eq_true a5]; simp
        · rw [if_neg (by simpa using a5)]
          exact ⟨idx_nat hi, trivial, trivial, fin (by rw [decide_eq_false a5, Bool.and_false])⟩
      · rw [if_neg (by simp; omega)]
        refine ⟨rfl, trivial, ?_⟩
        rw [if_neg (by simp)]
        exact ⟨idx_nat hi, trivial, trivial, fin (by rw [decide_eq_false a3, Bool.false_and])⟩
abbrev cVal7R : Con := { A := (.cons (.sl tL) (.cons (.sl (.sl tEd)) .nil)), R := (.cons .int .nil), pre := fun x => True, F := fun x => (err7 x.1 x.2.1, ()) }
def cVal7R_0 (Λ1 : Int → Prop) (Λ2 : Int → Int → Prop) (p : (List Lin)) (h : (List (List Edt))) (y0 : Int) : Prop :=
  True ∧ (if ((validP p) != (0 : Int)) = true then ((validP p) = y0 ∧ True) else (if (decide ((List.length h : Int) > (8 : Int))) = true then ((3 : Int) = y0 ∧ True) else Λ1 (0 : Int)))
def cVal7R_1 (Λ1 : Int → Prop) (Λ2 : Int → Int → Prop) (p : (List Lin)) (h : (List (List Edt))) (y0 : Int)  (i_1 : Int) : Prop :=
  if (decide (i_1 < (List.length h : Int))) = true then (idx i_1 (List.length h : Int) ∧ (True ∧ (if ((validX (List.getD h (Int.toNat i_1) ([] : List Edt))) != (0 : Int)) = true then ((validX (List.getD h (Int.toNat i_1) ([] : List Edt))) = y0 ∧ True) else Λ2 i_1 (0 : Int)))) else ((0 : Int) = y0 ∧ True)
def cVal7R_2 (Λ1 : Int → Prop) (Λ2 : Int → Int → Prop) (p : (List Lin)) (h : (List (List Edt))) (y0 : Int) (i_1 : Int) (k_2 : Int) : Prop :=
  idx i_1 (List.length h : Int) ∧ (if (decide (k_2 < (List.length (List.getD h (Int.toNat i_1) ([] : List Edt)) : Int))) = true then (idx i_1 (List.length h : Int) ∧ (idx k_2 (List.length (List.getD h (Int.toNat i_1) ([] : List Edt)) : Int) ∧ (if (decide ((List.getD (List.getD h (Int.toNat i_1) ([] : List Edt)) (Int.toNat k_2) tEd.dflt).1 ≥ (List.length p : Int))) = true then ((4 : Int) = y0 ∧ True) else (inI (k_2 + (1 : Int)) ∧ Λ2 i_1 (k_2 + (1 : Int)))))) else (inI (i_1 + (1 : Int)) ∧ Λ1 (i_1 + (1 : Int))))
theorem cVal7R_law (h : ∀ (p : (List Lin)) (h : (List (List Edt))), cVal7R.A.wf (p, h, ()) → ∀ (Λ1 : Int → Prop) (Λ2 : Int → Int → Prop), (∀ (i_1 : Int), cVal7R_1 Λ1 Λ2 p h (err7 p h) i_1 → Λ1 i_1) → (∀ (i_1 : Int) (k_2 : Int), cVal7R_2 Λ1 Λ2 p h (err7 p h) i_1 k_2 → Λ2 i_1 k_2) → cVal7R_0 Λ1 Λ2 p h (err7 p h)) : ConOK Go.Proofs.Try.prog 33 cVal7R := by
  refine lawL (Γ := [(78, cVal4R), (77, cValPR)]) (Θ := Th) (n := 50) [([1, 1, 1, 1, 0, 1, 0], ⟨[(0, false), (1, false), (6, true)], []⟩), ([1, 1, 1, 1, 0, 1, 0, 0, 1, 0, 0, 1, 1, 1, 0], ⟨[(0, false), (1, false), (6, true), (7, true)], []⟩)] ⟨cVal4R_ok, cValPR_ok, trivial⟩ (by kernel_rfl) th_ok mix_ok Go.Proofs.Try.func33 (by kernel_rfl) ?_
  intro x hw hp Λ hC
  have h0 := h x.1 x.2.1 hw (fun i_1 => Λ [1, 1, 1, 1, 0, 1, 0] ([(0, .d false (.sl tL) x.1), (1, .d false (.sl (.sl tEd)) x.2.1), (6, .d true .int i_1)], [])) (fun i_1 k_2 => Λ [1, 1, 1, 1, 0, 1, 0, 0, 1, 0, 0, 1, 1, 1, 0] ([(0, .d false (.sl tL) x.1), (1, .d false (.sl (.sl tEd)) x.2.1), (6, .d true .int i_1), (7, .d true .int k_2)], [])) (fun i_1 hb => hC [1, 1, 1, 1, 0, 1, 0] ([(0, .d false (.sl tL) x.1), (1, .d false (.sl (.sl tEd)) x.2.1), (6, .d true .int i_1)], []) (Eq.mpr (by kernel_rfl) hb)) (fun i_1 k_2 hb => hC [1, 1, 1, 1, 0, 1, 0, 0, 1, 0, 0, 1, 1, 1, 0] ([(0, .d false (.sl tL) x.1), (1, .d false (.sl (.sl tEd)) x.2.1), (6, .d true .int i_1), (7, .d true .int k_2)], []) (Eq.mpr (by kernel_rfl) hb))
  exact Eq.mpr (by kernel_rfl) h0
theorem cVal7R_ok : ConOK Go.Proofs.Try.prog 33 cVal7R := by
  refine cVal7R_law ?_
  intro p h hw Λ1 Λ2 h1 h2
  unfold cVal7R_0
  refine ⟨trivial, ?_⟩
  by_cases hv : validP p = 0
  · rw [if_neg (by simp [hv])]
    by_cases h8 : h.length > 8
    · rw [if_pos (by simp; omega)]
      unfold err7
      rw [if_pos hv, if_pos h8]; exact ⟨rfl, trivial⟩
    · rw [if_neg (by simp; omega)]
      have he : err7 p h = errH p.length h := by unfold err7; rw [if_pos hv, if_neg h8]
      have key : ∀ n i, i + n = h.length → errH p.length h = errH p.length (h.drop i) → Λ1 (i : Int) := by
        intro n
        induction n with
        | zero =>
          intro i hi e
          apply h1; unfold cVal7R_1
          rw [if_neg (by simp; omega)]
          rw [List.drop_eq_nil_of_le (by omega)] at e
          exact ⟨by rw [he, e]; rfl, trivial⟩
        | succ n ih =>
          intro i hi e
          have hl : i < h.length := by omega
          apply h1; unfold cVal7R_1
          rw [if_pos (by simpa using hl), Int.toNat_natCast]
          have hd : h.drop i = h.getD i [] :: h.drop (i + 1) := by
            rw [List.drop_eq_getElem_cons hl]; simp [List.getD_eq_getElem?_getD, hl]
          rw [hd, errH] at e
          refine ⟨idx_nat hl, trivial, ?_⟩
          by_cases g : validX (h.getD i []) = 0
          · rw [if_pos g] at e
            rw [if_neg (by simpa using g)]
            have hx : List.getD h i [] = List.getD h i [] := rfl
            have hlx : (List.getD h i []).length ≤ 4 := by
              have := (validX_ok g).1; exact this
            refine upto (n := (List.getD h i []).length) (Q := fun j => ((List.getD h i []).take j).any (fun e => decide (e.1 ≥ (p.length : Int))) = false → Λ2 (i : Int) (j : Int)) ?_ ?_ 0 (Nat.zero_le _) rfl
            · intro ha
              rw [List.take_length] at ha
              have hf : far p.length (List.getD h i []) = false := ha
              rw [hf, if_neg (by simp)] at e
              apply h2; unfold cVal7R_2
              refine ⟨idx_nat hl, ?_⟩
              rw [Int.toNat_natCast, if_neg (by simp)]
              exact ⟨inI_succ hl (by omega), ih (i + 1) (by omega) e⟩
            · intro j hj ihj ha
              apply h2; unfold cVal7R_2
              refine ⟨idx_nat hl, ?_⟩
              rw [Int.toNat_natCast, Int.toNat_natCast, if_pos (by simpa using hj)]
              refine ⟨idx_nat hl, idx_nat hj, ?_⟩
              cases hv2 : decide ((List.getD (List.getD h i []) j tEd.dflt).1 ≥ (p.length : Int))
              · rw [if_neg (by simp)]
                exact ⟨inI_succ hj (by omega), ihj (any_take_next (p := fun e : Edt => decide (e.1 ≥ (p.length : Int))) tEd.dflt hj ha hv2)⟩
              · rw [if_pos rfl]
                have hf : far p.length (List.getD h i []) = true := List.any_eq_true.2 ⟨_, mem_getD hj, hv2⟩
                rw [if_pos hf] at e
                exact ⟨by rw [he, e], trivial⟩
          · rw [if_neg g] at e
            rw [if_pos (by simpa using g), he, e]
            exact ⟨rfl, trivial⟩
      exact key h.length 0 (by omega) rfl
  · rw [if_pos (by simpa using hv)]
    unfold err7
    rw [if_neg hv]; exact ⟨rfl, trivial⟩
abbrev cFirstR : Con := { A := (.cons .int .nil), R := (.cons (.osl .int) .nil), pre := fun x => x.1 ≤ 100, F := fun x => (upI (Int.toNat x.1), ()) }
def cFirstR_0 (Λ1 : Int → (List Int) → Prop) (n : Int) (y0 : (List Int)) : Prop :=
  Λ1 (0 : Int) ([] : List Int)
def cFirstR_1 (Λ1 : Int → (List Int) → Prop) (n : Int) (y0 : (List Int))  (i_1 : Int) (out_1 : (List Int)) : Prop :=
  if (decide (i_1 < n)) = true then (List.length out_1 + List.length [i_1] ≤ 4294967296 ∧ (inI (i_1 + (1 : Int)) ∧ Λ1 (i_1 + (1 : Int)) (out_1 ++ [i_1]))) else out_1 = y0
theorem cFirstR_law (h : ∀ (n : Int), cFirstR.A.wf (n, ()) → (n ≤ 100) → ∀ (Λ1 : Int → (List Int) → Prop), (∀ (i_1 : Int) (out_1 : (List Int)), cFirstR_1 Λ1 n (upI (Int.toNat n)) i_1 out_1 → Λ1 i_1 out_1) → cFirstR_0 Λ1 n (upI (Int.toNat n))) : ConOK Go.Proofs.Try.prog 70 cFirstR := by
  refine lawL (Γ := []) (Θ := Th) (n := 15) [([1, 1, 0, 1, 0], ⟨[(0, false), (3, true), (4, true)], [(3, true)]⟩)] trivial (by kernel_rfl) th_ok mix_ok Go.Proofs.Try.func70 (by kernel_rfl) ?_
  intro x hw hp Λ hC
  have h0 := h x.1 hw hp (fun i_1 out_1 => Λ [1, 1, 0, 1, 0] ([(0, .d false .int x.1), (3, .own 3 0), (4, .d true .int i_1)], [(3, .sl true .int out_1)])) (fun i_1 out_1 hb => hC [1, 1, 0, 1, 0] ([(0, .d false .int x.1), (3, .own 3 0), (4, .d true .int i_1)], [(3, .sl true .int out_1)]) (Eq.mpr (by kernel_rfl) hb))
  exact Eq.mpr (by kernel_rfl) h0
theorem cFirstR_ok : ConOK Go.Proofs.Try.prog 70 cFirstR := by
  refine cFirstR_law ?_
  intro n hw hp Λ1 h1
  unfold cFirstR_0
  refine upto (n := n.toNat) (Q := fun i => Λ1 (i : Int) (upI (i))) ?_ ?_ 0 (Nat.zero_le _)
  · apply h1; unfold cFirstR_1; rw [if_neg (by simp; omega)]
  · intro i hi ih
    apply h1; unfold cFirstR_1; rw [if_pos (by simp; omega)]
    rw [show upI (i + 1) = upI i ++ [(i : Int)] from rfl] at ih
    exact ⟨by rw [upI_len]; simp only [List.length_cons, List.length_nil]; omega, inI_succ hi (by omega), ih⟩
abbrev cPlayR0 : Con := { A := (.cons (.sl tL) (.cons (.sl (.sl tEd)) (.cons (.sl .int) .nil))), R := (.cons (.osl tL) .nil), pre := fun x => ∃ k', x.2.2.1 = upI k' ∧ k' ≤ x.2.1.length ∧ okH x.1.length x.2.1 ∧ x.1.length ≤ 8, F := fun x => (playH x.1 (x.2.1.take x.2.2.1.length), ()) }
def cPlayR0_0 (Λ1 : Int → (List Lin) → Prop) (Λ2 : Int → Int → (List Lin) → Prop) (p : (List Lin)) (h : (List (List Edt))) (numbers : (List Int)) (y0 : (List Lin)) : Prop :=
  List.length ([] : List Lin) + List.length p ≤ 4294967296 ∧ Λ1 (0 : Int) (([] : List Lin) ++ p)
def cPlayR0_1 (Λ1 : Int → (List Lin) → Prop) (Λ2 : Int → Int → (List Lin) → Prop) (p : (List Lin)) (h : (List (List Edt))) (numbers : (List Int)) (y0 : (List Lin))  (i_1 : Int) (out_1 : (List Lin)) : Prop :=
  if (decide (i_1 < (List.length numbers : Int))) = true then (idx i_1 (List.length numbers : Int) ∧ (idx (List.getD numbers (Int.toNat i_1) 0) (List.length h : Int) ∧ Λ2 i_1 (0 : Int) out_1)) else out_1 = y0
def cPlayR0_2 (Λ1 : Int → (List Lin) → Prop) (Λ2 : Int → Int → (List Lin) → Prop) (p : (List Lin)) (h : (List (List Edt))) (numbers : (List Int)) (y0 : (List Lin)) (i_1 : Int) (k_2 : Int) (out_2 : (List Lin)) : Prop :=
  if (decide (k_2 < (List.length (List.getD h (Int.toNat (List.getD numbers (Int.toNat i_1) 0)) ([] : List Edt)) : Int))) = true then (idx k_2 (List.length (List.getD h (Int.toNat (List.getD numbers (Int.toNat i_1) 0)) ([] : List Edt)) : Int) ∧ (idx k_2 (List.length (List.getD h (Int.toNat (List.getD numbers (Int.toNat i_1) 0)) ([] : List Edt)) : Int) ∧ (idx ((List.getD (List.getD h (Int.toNat (List.getD numbers (Int.toNat i_1) 0)) ([] : List Edt)) (Int.toNat k_2) tEd.dflt).1) (List.length out_2 : Int) ∧ (inI (k_2 + (1 : Int)) ∧ Λ2 i_1 (k_2 + (1 : Int)) (List.set out_2 (Int.toNat ((List.getD (List.getD h (Int.toNat (List.getD numbers (Int.toNat i_1) 0)) ([] : List Edt)) (Int.toNat k_2) tEd.dflt).1)) ((List.getD (List.getD h (Int.toNat (List.getD numbers (Int.toNat i_1) 0)) ([] : List Edt)) (Int.toNat k_2) tEd.dflt).2.1)))))) else (inI (i_1 + (1 : Int)) ∧ Λ1 (i_1 + (1 : Int)) out_2)
theorem cPlayR0_law (h : ∀ (p : (List Lin)) (h : (List (List Edt))) (numbers : (List Int)), cPlayR0.A.wf (p, h, numbers, ()) → (∃ k', numbers = upI k' ∧ k' ≤ h.length ∧ okH p.length h ∧ p.length ≤ 8) → ∀ (Λ1 : Int → (List Lin) → Prop) (Λ2 : Int → Int → (List Lin) → Prop), (∀ (i_1 : Int) (out_1 : (List Lin)), cPlayR0_1 Λ1 Λ2 p h numbers (playH p (h.take numbers.length)) i_1 out_1 → Λ1 i_1 out_1) → (∀ (i_1 : Int) (k_2 : Int) (out_2 : (List Lin)), cPlayR0_2 Λ1 Λ2 p h numbers (playH p (h.take numbers.length)) i_1 k_2 out_2 → Λ2 i_1 k_2 out_2) → cPlayR0_0 Λ1 Λ2 p h numbers (playH p (h.take numbers.length))) : ConOK Go.Proofs.Try.prog 66 cPlayR0 := by
  refine lawL (Γ := []) (Θ := Th) (n := 46) [([1, 1, 0, 1, 0], ⟨[(1, false), (2, false), (7, true), (8, true)], [(11, true)]⟩), ([1, 1, 0, 1, 0, 0, 1, 0, 0, 1, 1, 0], ⟨[(1, false), (2, false), (7, true), (8, true), (9, false), (10, true)], [(11, true)]⟩)] trivial (by kernel_rfl) th_ok mix_ok Go.Proofs.Try.func66 (by kernel_rfl) ?_
  intro x hw hp Λ hC
  have h0 := h x.1 x.2.1 x.2.2.1 hw hp (fun i_1 out_1 => Λ [1, 1, 0, 1, 0] ([(1, .d false (.sl (.sl tEd)) x.2.1), (2, .d false (.sl .int) x.2.2.1), (7, .own 11 0), (8, .d true .int i_1)], [(11, .sl true tL out_1)])) (fun i_1 k_2 out_2 => Λ [1, 1, 0, 1, 0, 0, 1, 0, 0, 1, 1, 0] ([(1, .d false (.sl (.sl tEd)) x.2.1), (2, .d false (.sl .int) x.2.2.1), (7, .own 11 0), (8, .d true .int i_1), (9, .d false (.sl tEd) (List.getD x.2.1 (Int.toNat (List.getD x.2.2.1 (Int.toNat i_1) 0)) ([] : List Edt))), (10, .d true .int k_2)], [(11, .sl true tL out_2)])) (fun i_1 out_1 hb => hC [1, 1, 0, 1, 0] ([(1, .d false (.sl (.sl tEd)) x.2.1), (2, .d false (.sl .int) x.2.2.1), (7, .own 11 0), (8, .d true .int i_1)], [(11, .sl true tL out_1)]) (Eq.mpr (by kernel_rfl) hb)) (fun i_1 k_2 out_2 hb => hC [1, 1, 0, 1, 0, 0, 1, 0, 0, 1, 1, 0] ([(1, .d false (.sl (.sl tEd)) x.2.1), (2, .d false (.sl .int) x.2.2.1), (7, .own 11 0), (8, .d true .int i_1), (9, .d false (.sl tEd) (List.getD x.2.1 (Int.toNat (List.getD x.2.2.1 (Int.toNat i_1) 0)) ([] : List Edt))), (10, .d true .int k_2)], [(11, .sl true tL out_2)]) (Eq.mpr (by kernel_rfl) hb))
  exact Eq.mpr (by kernel_rfl) h0
theorem cPlayR0_ok : ConOK Go.Proofs.Try.prog 66 cPlayR0 := by
  refine cPlayR0_law ?_
  intro p h numbers hw hp Λ1 Λ2 h1 h2
  unfold cPlayR0_0
  obtain ⟨k', rfl, p2, p3, p4⟩ := hp
  refine ⟨by simp only [List.length_nil]; omega, ?_⟩
  rw [List.nil_append]
  have hlh : h.length ≤ 140737488355328 := hw.2.1.1
  have hnl := upI_len k'
  have hnd : ∀ i, i < k' → (upI k').getD i 0 = (i : Int) := fun i hi => upI_get k' i hi
  refine upto (n := k') (Q := fun i => Λ1 (i : Int) (playH p (h.take i))) ?_ ?_ 0 (Nat.zero_le _)
  · apply h1; unfold cPlayR0_1; rw [hnl, if_neg (by simp)]
  · intro i hi ih
    apply h1; unfold cPlayR0_1; rw [hnl, if_pos (by simpa using hi), Int.toNat_natCast, hnd i hi]
    refine ⟨idx_nat hi, idx_nat (by omega), ?_⟩
    rw [playH_take p h (by omega)] at ih
    have hm : List.getD h i [] ∈ h := mem_getD (by omega)
    have hx := p3 _ hm
    have hlx : (List.getD h i []).length ≤ 140737488355328 := (hw.2.1.2 _ hm).1
    refine upto (n := (List.getD h i []).length) (Q := fun j => Λ2 (i : Int) (j : Int) (playX (playH p (h.take i)) ((List.getD h i []).take j))) ?_ ?_ 0 (Nat.zero_le _)
    · apply h2; unfold cPlayR0_2
      rw [Int.toNat_natCast, hnd i hi, Int.toNat_natCast, if_neg (by simp), List.take_length]
      exact ⟨inI_succ hi (by omega), ih⟩
    · intro j hj ihj
      rw [playX_take _ _ hj] at ihj
      have he := hx _ (mem_getD (d := tEd.dflt) hj)
      apply h2; unfold cPlayR0_2
      rw [Int.toNat_natCast, hnd i hi, Int.toNat_natCast, Int.toNat_natCast, if_pos (by simpa using hj)]
      exact ⟨idx_nat hj, idx_nat hj, ⟨he.1, by rw [playX_len, playH_len]; exact he.2⟩, inI_succ hj hlx, ihj⟩
abbrev cPlayR : Con := { A := (.cons (.sl tL) (.cons (.sl (.sl tEd)) .nil)), R := (.cons (.osl tL) (.cons .int .nil)), pre := fun x => True, F := fun x => ((if err7 x.1 x.2.1 = 0 then playH x.1 x.2.1 else []), err7 x.1 x.2.1, ()) }
def cPlayR_0  (p : (List Lin)) (h : (List (List Edt))) (y0 : (List Lin)) (y1 : Int) : Prop :=
  True ∧ (if ((err7 p h) != (0 : Int)) = true then ((err7 p h) = y1 ∧ ([] : List Lin) = y0) else ((List.length h : Int) ≤ 100 ∧ ((∃ k', (upI (Int.toNat (List.length h : Int))) = upI k' ∧ k' ≤ h.length ∧ okH p.length h ∧ p.length ≤ 8) ∧ ((0 : Int) = y1 ∧ (playH p (h.take (upI (Int.toNat (List.length h : Int))).length)) = y0))))
theorem cPlayR_law (h : ∀ (p : (List Lin)) (h : (List (List Edt))), cPlayR.A.wf (p, h, ()) → cPlayR_0  p h (if err7 p h = 0 then playH p h else []) (err7 p h)) : ConOK Go.Proofs.Try.prog 29 cPlayR := by
  refine lawL (Γ := [(70, cFirstR), (66, cPlayR0), (33, cVal7R)]) (Θ := Th) (n := 19) [] ⟨cFirstR_ok, cPlayR0_ok, cVal7R_ok, trivial⟩ (by kernel_rfl) th_ok mix_ok Go.Proofs.Try.func29 (by kernel_rfl) ?_
  intro x hw hp Λ hC
  have h0 := h x.1 x.2.1 hw  
  exact Eq.mpr (by kernel_rfl) h0
theorem cPlayR_ok : ConOK Go.Proofs.Try.prog 29 cPlayR := by
  refine cPlayR_law ?_
  intro p h hw
  unfold cPlayR_0
  refine ⟨trivial, ?_⟩
  by_cases e : err7 p h = 0
  · rw [if_neg (by simp [e]), if_pos e]
    obtain ⟨e1, e2, e3, e4⟩ := err7_ok e
    exact ⟨by omega, ⟨h.length, by rw [Int.toNat_natCast], Nat.le_refl _, e3, (validP_ok e1).1⟩, e.symm, by rw [upI_len]; simp⟩
  · rw [if_pos (by simpa using e), if_neg e]
    exact ⟨rfl, rfl⟩
abbrev cAtR : Con := { A := (.cons (.sl tL) (.cons (.sl (.sl tEd)) (.cons .int .nil))), R := (.cons (.osl tL) (.cons .int .nil)), pre := fun x => True, F := fun x => ((if err7 x.1 x.2.1 = 0 ∧ within x.2.2.1 0 (x.2.1.length : Int) = true then playH x.1 (x.2.1.take (Int.toNat x.2.2.1)) else []), (if err7 x.1 x.2.1 = 0 then argErr (within x.2.2.1 0 (x.2.1.length : Int)) else err7 x.1 x.2.1), ()) }
def cAtR_0  (p : (List Lin)) (h : (List (List Edt))) (n : Int) (y0 : (List Lin)) (y1 : Int) : Prop :=
  True ∧ (if ((err7 p h) != (0 : Int)) = true then ((err7 p h) = y1 ∧ ([] : List Lin) = y0) else (if (decide (n < (0 : Int))) = true then (true = true ∧ ((1 : Int) = y1 ∧ ([] : List Lin) = y0)) else (True ∧ (if (bif false then true else (decide (n > (List.length h : Int)))) = true then ((1 : Int) = y1 ∧ ([] : List Lin) = y0) else (n ≤ 100 ∧ ((∃ k', (upI (Int.toNat n)) = upI k' ∧ k' ≤ h.length ∧ okH p.length h ∧ p.length ≤ 8) ∧ ((0 : Int) = y1 ∧ (playH p (h.take (upI (Int.toNat n)).length)) = y0)))))))
theorem cAtR_law (h : ∀ (p : (List Lin)) (h : (List (List Edt))) (n : Int), cAtR.A.wf (p, h, n, ()) → cAtR_0  p h n (if err7 p h = 0 ∧ within n 0 (h.length : Int) = true then playH p (h.take (Int.toNat n)) else []) (if err7 p h = 0 then argErr (within n 0 (h.length : Int)) else err7 p h)) : ConOK Go.Proofs.Try.prog 31 cAtR := by
  refine lawL (Γ := [(70, cFirstR), (66, cPlayR0), (33, cVal7R)]) (Θ := Th) (n := 28) [] ⟨cFirstR_ok, cPlayR0_ok, cVal7R_ok, trivial⟩ (by kernel_rfl) th_ok mix_ok Go.Proofs.Try.func31 (by kernel_rfl) ?_
  intro x hw hp Λ hC
  have h0 := h x.1 x.2.1 x.2.2.1 hw  
  exact Eq.mpr (by kernel_rfl) h0
theorem cAtR_ok : ConOK Go.Proofs.Try.prog 31 cAtR := by
  refine cAtR_law ?_
  intro p h n hw
  unfold cAtR_0
  refine ⟨trivial, ?_⟩
  by_cases e : err7 p h = 0
  · rw [if_neg (by simp [e]), if_pos e]
    obtain ⟨e1, e2, e3, e4⟩ := err7_ok e
    by_cases a1 : n < 0
    · have hL : within n 0 (h.length : Int) = false := by
        cases hq : within n 0 (h.length : Int)
        · rfl
        · have := within_iff.1 hq; omega
      rw [if_pos (by simpa using a1), hL, if_neg (by simp)]
      exact ⟨rfl, rfl, rfl⟩
    · rw [if_neg (by simpa using a1)]
      refine ⟨trivial, ?_⟩
      by_cases a2 : n > (h.length : Int)
      · have hL : within n 0 (h.length : Int) = false := by
          cases hq : within n 0 (h.length : Int)
          · rfl
          · have := within_iff.1 hq; omega
        rw [if_pos (by simpa using a2), hL, if_neg (by simp)]
        exact ⟨rfl, rfl⟩
      · have hL : within n 0 (h.length : Int) = true := within_iff.2 ⟨by omega, by omega⟩
        rw [if_neg (by simpa using a2), hL, if_pos ⟨e, rfl⟩]
        exact ⟨by omega, ⟨n.toNat, rfl, by omega, e3, (validP_ok e1).1⟩, rfl, by rw [upI_len]⟩
  · rw [if_pos (by simpa using e), if_neg e, if_neg (fun q => e q.1)]
    exact ⟨rfl, rfl⟩
abbrev cSameL4 : Con := { A := (.cons (.sl tL) (.cons (.sl tL) .nil)), R := (.cons .bool .nil), pre := fun x => x.1.length ≤ 1000000, F := fun x => (decide (x.1 = x.2.1), ()) }
def cSameL4_0 (Λ1 : Int → Prop) (p : (List Lin)) (q : (List Lin)) (y0 : Bool) : Prop :=
  if ((List.length p : Int) != (List.length q : Int)) = true then (false = y0 ∧ True) else Λ1 (0 : Int)
def cSameL4_1 (Λ1 : Int → Prop) (p : (List Lin)) (q : (List Lin)) (y0 : Bool)  (i_1 : Int) : Prop :=
  if (decide (i_1 < (List.length p : Int))) = true then (idx i_1 (List.length p : Int) ∧ (idx i_1 (List.length q : Int) ∧ (if (!(T.eqB tL (List.getD p (Int.toNat i_1) tL.dflt) (List.getD q (Int.toNat i_1) tL.dflt))) = true then (false = y0 ∧ True) else (inI (i_1 + (1 : Int)) ∧ Λ1 (i_1 + (1 : Int)))))) else (true = y0 ∧ True)
theorem cSameL4_law (h : ∀ (p : (List Lin)) (q : (List Lin)), cSameL4.A.wf (p, q, ()) → (p.length ≤ 1000000) → ∀ (Λ1 : Int → Prop), (∀ (i_1 : Int), cSameL4_1 Λ1 p q (decide (p = q)) i_1 → Λ1 i_1) → cSameL4_0 Λ1 p q (decide (p = q))) : ConOK Go.Proofs.Try.prog 22 cSameL4 := by
  refine lawL (Γ := []) (Θ := Th) (n := 26) [([1, 1, 0, 1, 0], ⟨[(0, false), (1, false), (5, true)], []⟩)] trivial (by kernel_rfl) th_ok mix_ok Go.Proofs.Try.func22 (by kernel_rfl) ?_
  intro x hw hp Λ hC
  have h0 := h x.1 x.2.1 hw hp (fun i_1 => Λ [1, 1, 0, 1, 0] ([(0, .d false (.sl tL) x.1), (1, .d false (.sl tL) x.2.1), (5, .d true .int i_1)], [])) (fun i_1 hb => hC [1, 1, 0, 1, 0] ([(0, .d false (.sl tL) x.1), (1, .d false (.sl tL) x.2.1), (5, .d true .int i_1)], []) (Eq.mpr (by kernel_rfl) hb))
  exact Eq.mpr (by kernel_rfl) h0
theorem cSameL4_ok : ConOK Go.Proofs.Try.prog 22 cSameL4 := by
  refine cSameL4_law ?_
  intro p q hw hp Λ1 h1
  unfold cSameL4_0
  by_cases hl : p.length = q.length
  · rw [if_neg (by simp [hl])]
    refine upto (n := p.length) (Q := fun i => p.take i = q.take i → Λ1 i) ?_ ?_ 0 (Nat.zero_le _) rfl
    · intro ha
      rw [List.take_length, List.take_of_length_le (by omega)] at ha
      apply h1; unfold cSameL4_1; rw [if_neg (by simp)]
      exact ⟨by simp [ha], trivial⟩
    · intro i hi ih ha
      apply h1; unfold cSameL4_1; rw [if_pos (by simpa using hi), Int.toNat_natCast]
      refine ⟨idx_nat hi, idx_nat (by omega), ?_⟩
      have heq := eqB_iff (t := tL) (x := List.getD p i tL.dflt) (y := List.getD q i tL.dflt) rfl
      by_cases hv : List.getD p i tL.dflt = List.getD q i tL.dflt
      · rw [if_neg (by rw [heq.2 hv]; simp)]
        exact ⟨inI_succ hi (by omega), ih (take_eq_next tL.dflt hi hl ha hv)⟩
      · rw [if_pos (by
          cases hq : T.eqB tL (List.getD p i tL.dflt) (List.getD q i tL.dflt)
          · rfl
          · exact absurd (heq.1 hq) hv)]
        exact ⟨by simp [ne_at tL.dflt hv], trivial⟩
  · rw [if_pos (by simp; omega)]
    exact ⟨by simp; exact fun e => hl (by rw [e]), trivial⟩
abbrev cLong7 : Con := { A := (.cons (.sl tL) (.cons (.sl (.sl tEd)) .nil)), R := (.cons .bool .nil), pre := fun x => True, F := fun x => (decide (∃ x' ∈ x.2.1, 50 < x'.length) || decide (100 < x.1.length) || decide (50 < x.2.1.length), ()) }
def cLong7_0 (Λ1 : Int → Prop) (p : (List Lin)) (h : (List (List Edt))) (y0 : Bool) : Prop :=
  Λ1 (0 : Int)
def cLong7_1 (Λ1 : Int → Prop) (p : (List Lin)) (h : (List (List Edt))) (y0 : Bool)  (i_1 : Int) : Prop :=
  if (decide (i_1 < (List.length h : Int))) = true then (idx i_1 (List.length h : Int) ∧ (if (decide ((List.length (List.getD h (Int.toNat i_1) ([] : List Edt)) : Int) > (50 : Int))) = true then (true = y0 ∧ True) else (inI (i_1 + (1 : Int)) ∧ Λ1 (i_1 + (1 : Int))))) else (if (decide ((List.length p : Int) > (100 : Int))) = true then (true = true ∧ (true = y0 ∧ True)) else (True ∧ ((bif false then true else (decide ((List.length h : Int) > (50 : Int)))) = y0 ∧ True)))
theorem cLong7_law (h : ∀ (p : (List Lin)) (h : (List (List Edt))), cLong7.A.wf (p, h, ()) → ∀ (Λ1 : Int → Prop), (∀ (i_1 : Int), cLong7_1 Λ1 p h (decide (∃ x' ∈ h, 50 < x'.length) || decide (100 < p.length) || decide (50 < h.length)) i_1 → Λ1 i_1) → cLong7_0 Λ1 p h (decide (∃ x' ∈ h, 50 < x'.length) || decide (100 < p.length) || decide (50 < h.length))) : ConOK Go.Proofs.Try.prog 15 cLong7 := by
  refine lawL (Γ := []) (Θ := Th) (n := 26) [([1, 0, 1, 0], ⟨[(0, false), (1, false), (5, true)], []⟩)] trivial (by kernel_rfl) th_ok mix_ok Go.Proofs.Try.func15 (by kernel_rfl) ?_
  intro x hw hp Λ hC
  have h0 := h x.1 x.2.1 hw (fun i_1 => Λ [1, 0, 1, 0] ([(0, .d false (.sl tL) x.1), (1, .d false (.sl (.sl tEd)) x.2.1), (5, .d true .int i_1)], [])) (fun i_1 hb => hC [1, 0, 1, 0] ([(0, .d false (.sl tL) x.1), (1, .d false (.sl (.sl tEd)) x.2.1), (5, .d true .int i_1)], []) (Eq.mpr (by kernel_rfl) hb))
  exact Eq.mpr (by kernel_rfl) h0
theorem cLong7_ok : ConOK Go.Proofs.Try.prog 15 cLong7 := by
  refine cLong7_law ?_
  intro p h hw Λ1 h1
  unfold cLong7_0
  have hlh : h.length ≤ 140737488355328 := hw.2.1.1
  refine upto (n := h.length) (Q := fun i => (∀ x ∈ h.take i, ¬ 50 < x.length) → Λ1 (i : Int)) ?_ ?_ 0 (Nat.zero_le _) (fun x hx => by simp at hx)
  · intro ha
    rw [List.take_length] at ha
    apply h1; unfold cLong7_1
    rw [if_neg (by simp)]
    have hx : decide (∃ x' ∈ h, 50 < x'.length) = false := decide_eq_false (fun ⟨x, h1, h2⟩ => ha x h1 h2)
    rw [hx]
    by_cases c : p.length > 100
    · rw [if_pos (by simp; omega)]; exact ⟨rfl, by simp; omega, trivial⟩
    · rw [if_neg (by simp; omega)]
      refine ⟨trivial, ?_, trivial⟩
      have : decide (100 < p.length) = false := decide_eq_false (by omega)
      rw [this, Bool.eq_iff_iff]
      simp
      omega
  · intro i hi ih ha
    apply h1; unfold cLong7_1
    rw [if_pos (by simpa using hi), Int.toNat_natCast]
    refine ⟨idx_nat hi, ?_⟩
    by_cases c : (List.getD h i []).length > 50
    · rw [if_pos (by refine decide_eq_true ?_; omega)]
      refine ⟨?_, trivial⟩
      have : decide (∃ x' ∈ h, 50 < x'.length) = true := decide_eq_true ⟨_, mem_getD hi, c⟩
      rw [this]; rfl
    · rw [if_neg (by rw [decide_eq_true_eq]; omega)]
      refine ⟨inI_succ hi hlh, ih fun x hx => ?_⟩
      rw [take_snoc [] hi] at hx
      rcases List.mem_append.1 hx with g | g
      · exact ha x g
      · simp only [List.mem_singleton] at g; subst g; omega
abbrev cStoryPlays : Con := { A := (.cons (.sl tL) (.cons (.sl (.sl tEd)) (.cons .int .nil))), R := (.cons .bool .nil), pre := fun x => True, F := fun x => (true, ()) }
def cStoryPlays_0 (Λ1 : Int → (List Lin) → Prop) (Λ2 : Int → (List Lin) → Prop) (p : (List Lin)) (h : (List (List Edt))) (n : Int) (y0 : Bool) : Prop :=
  True ∧ (if (decide (∃ x' ∈ h, 50 < x'.length) || decide (100 < p.length) || decide (50 < h.length)) = true then (True ∧ (true = y0 ∧ True)) else (List.length ([] : List Lin) + List.length p ≤ 4294967296 ∧ (True ∧ (True ∧ (True ∧ (True ∧ (True ∧ (True ∧ (if ((err7 p h) != (err7 p h)) = true then (true = true ∧ (true = true ∧ (true = true ∧ (true = true ∧ (false = y0 ∧ True))))) else (((if err7 (([] : List Lin) ++ p) h = 0 then playH (([] : List Lin) ++ p) h else [])).length ≤ 1000000 ∧ (True ∧ (if (bif false then true else (!(decide (((if err7 (([] : List Lin) ++ p) h = 0 then playH (([] : List Lin) ++ p) h else [])) = ((if err7 p h = 0 then playH p h else [])))))) = true then (true = true ∧ (true = true ∧ (true = true ∧ (false = y0 ∧ True)))) else (True ∧ (if (bif false then true else ((err7 (([] : List Lin) ++ p) h) != (err7 p h))) = true then (true = true ∧ (true = true ∧ (false = y0 ∧ True))) else (((if err7 (([] : List Lin) ++ p) h = 0 ∧ within n 0 (h.length : Int) = true then playH (([] : List Lin) ++ p) (h.take (Int.toNat n)) else [])).length ≤ 1000000 ∧ (True ∧ (if (bif false then true else (!(decide (((if err7 (([] : List Lin) ++ p) h = 0 ∧ within n 0 (h.length : Int) = true then playH (([] : List Lin) ++ p) (h.take (Int.toNat n)) else [])) = ((if err7 p h = 0 ∧ within n 0 (h.length : Int) = true then playH p (h.take (Int.toNat n)) else [])))))) = true then (true = true ∧ (false = y0 ∧ True)) else (True ∧ (if (bif false then true else (((if err7 (([] : List Lin) ++ p) h = 0 then argErr (within n 0 (h.length : Int)) else err7 (([] : List Lin) ++ p) h)) != ((if err7 p h = 0 then argErr (within n 0 (h.length : Int)) else err7 p h)))) = true then (false = y0 ∧ True) else Λ1 (0 : Int) ((if err7 (([] : List Lin) ++ p) h = 0 then playH (([] : List Lin) ++ p) h else [])))))))))))))))))))))
def cStoryPlays_1 (Λ1 : Int → (List Lin) → Prop) (Λ2 : Int → (List Lin) → Prop) (p : (List Lin)) (h : (List (List Edt))) (n : Int) (y0 : Bool)  (k_1 : Int) (a_1 : (List Lin)) : Prop :=
  if (decide (k_1 < (List.length a_1 : Int))) = true then (idx k_1 (List.length a_1 : Int) ∧ (inI (k_1 + (1 : Int)) ∧ Λ1 (k_1 + (1 : Int)) (List.set a_1 (Int.toNat k_1) ((-1), (List.getD a_1 (Int.toNat k_1) tL.dflt).2.1, (List.getD a_1 (Int.toNat k_1) tL.dflt).2.2.1, (List.getD a_1 (Int.toNat k_1) tL.dflt).2.2.2.1, ())))) else Λ2 (0 : Int) ((if err7 (([] : List Lin) ++ p) h = 0 ∧ within n 0 (h.length : Int) = true then playH (([] : List Lin) ++ p) (h.take (Int.toNat n)) else []))
def cStoryPlays_2 (Λ1 : Int → (List Lin) → Prop) (Λ2 : Int → (List Lin) → Prop) (p : (List Lin)) (h : (List (List Edt))) (n : Int) (y0 : Bool)  (k_2 : Int) (c_2 : (List Lin)) : Prop :=
  if (decide (k_2 < (List.length c_2 : Int))) = true then (idx k_2 (List.length c_2 : Int) ∧ (inI (k_2 + (1 : Int)) ∧ Λ2 (k_2 + (1 : Int)) (List.set c_2 (Int.toNat k_2) ((-1), (List.getD c_2 (Int.toNat k_2) tL.dflt).2.1, (List.getD c_2 (Int.toNat k_2) tL.dflt).2.2.1, (List.getD c_2 (Int.toNat k_2) tL.dflt).2.2.2.1, ())))) else ((([] : List Lin) ++ p).length ≤ 1000000 ∧ (if (decide ((([] : List Lin) ++ p) = p)) = true then (True ∧ (True ∧ ((bif true then true else false) = y0 ∧ True))) else (false = false ∧ (false = y0 ∧ True))))
theorem cStoryPlays_law (h : ∀ (p : (List Lin)) (h : (List (List Edt))) (n : Int), cStoryPlays.A.wf (p, h, n, ()) → ∀ (Λ1 : Int → (List Lin) → Prop) (Λ2 : Int → (List Lin) → Prop), (∀ (k_1 : Int) (a_1 : (List Lin)), cStoryPlays_1 Λ1 Λ2 p h n true k_1 a_1 → Λ1 k_1 a_1) → (∀ (k_2 : Int) (c_2 : (List Lin)), cStoryPlays_2 Λ1 Λ2 p h n true k_2 c_2 → Λ2 k_2 c_2) → cStoryPlays_0 Λ1 Λ2 p h n true) : ConOK Go.Proofs.Try.prog 7 cStoryPlays := by
  refine lawL (Γ := [(30, cAt7), (31, cAtR), (15, cLong7), (24, cPlay), (29, cPlayR), (22, cSameL4), (16, cSane7), (32, cVal7), (33, cVal7R)]) (Θ := Th) (n := 106) [([1, 1, 1, 1, 1, 1, 1, 1, 0, 1, 0], ⟨[(0, false), (7, true), (8, true), (12, true), (16, true)], [(22, true), (28, true), (41, true)]⟩), ([1, 1, 1, 1, 1, 1, 1, 1, 1, 0, 1, 0], ⟨[(0, false), (7, true), (12, true), (17, true)], [(22, true), (41, true)]⟩)] ⟨cAt7_ok, cAtR_ok, cLong7_ok, cPlay_ok, cPlayR_ok, cSameL4_ok, cSane7_ok, cVal7_ok, cVal7R_ok, trivial⟩ (by kernel_rfl) th_ok mix_ok Go.Proofs.Try.func7 (by kernel_rfl) ?_
  intro x hw hp Λ hC
  have h0 := h x.1 x.2.1 x.2.2.1 hw (fun k_1 a_1 => Λ [1, 1, 1, 1, 1, 1, 1, 1, 0, 1, 0] ([(0, .d false (.sl tL) x.1), (7, .own 22 0), (8, .own 28 0), (12, .own 41 0), (16, .d true .int k_1)], [(22, .sl true tL (([] : List Lin) ++ x.1)), (28, .sl true tL a_1), (41, .sl true tL ((if err7 (([] : List Lin) ++ x.1) x.2.1 = 0 ∧ within x.2.2.1 0 (x.2.1.length : Int) = true then playH (([] : List Lin) ++ x.1) (x.2.1.take (Int.toNat x.2.2.1)) else [])))])) (fun k_2 c_2 => Λ [1, 1, 1, 1, 1, 1, 1, 1, 1, 0, 1, 0] ([(0, .d false (.sl tL) x.1), (7, .own 22 0), (12, .own 41 0), (17, .d true .int k_2)], [(22, .sl true tL (([] : List Lin) ++ x.1)), (41, .sl true tL c_2)])) (fun k_1 a_1 hb => hC [1, 1, 1, 1, 1, 1, 1, 1, 0, 1, 0] ([(0, .d false (.sl tL) x.1), (7, .own 22 0), (8, .own 28 0), (12, .own 41 0), (16, .d true .int k_1)], [(22, .sl true tL (([] : List Lin) ++ x.1)), (28, .sl true tL a_1), (41, .sl true tL ((if err7 (([] : List Lin) ++ x.1) x.2.1 = 0 ∧ within x.2.2.1 0 (x.2.1.length : Int) = true then playH (([] : List Lin) ++ x.1) (x.2.1.take (Int.toNat x.2.2.1)) else [])))]) (Eq.mpr (by kernel_rfl) hb)) (fun k_2 c_2 hb => hC [1, 1, 1, 1, 1, 1, 1, 1, 1, 0, 1, 0] ([(0, .d false (.sl tL) x.1), (7, .own 22 0), (12, .own 41 0), (17, .d true .int k_2)], [(22, .sl true tL (([] : List Lin) ++ x.1)), (41, .sl true tL c_2)]) (Eq.mpr (by kernel_rfl) hb))
  exact Eq.mpr (by kernel_rfl) h0
theorem cStoryPlays_ok : ConOK Go.Proofs.Try.prog 7 cStoryPlays := by
  refine cStoryPlays_law ?_
  intro p h n hw Λ1 Λ2 h1 h2
  unfold cStoryPlays_0
  cases c : (decide (∃ x' ∈ h, 50 < x'.length) || decide (100 < p.length) || decide (50 < h.length))
  · have hpl : p.length ≤ 100 := by
      simp only [Bool.or_eq_false_iff, decide_eq_false_iff_not] at c; omega
    have k2 : ∀ l : List Lin, l.length ≤ 100 → Λ2 0 l := by
      intro l hl
      refine upto (n := l.length) (Q := fun k => ∀ l' : List Lin, l'.length = l.length → Λ2 (k : Int) l') ?_ ?_ 0 (Nat.zero_le _) l rfl
      · intro l' hl'
        apply h2; unfold cStoryPlays_2
        rw [if_neg (by rw [hl']; simp)]
        have : p.length ≤ 1000000 := by omega
        simp [this]
      · intro k hk ih l' hl'
        apply h2; unfold cStoryPlays_2
        rw [if_pos (by rw [hl']; simpa using hk)]
        exact ⟨⟨by omega, by omega⟩, by unfold inI; omega, ih _ (by rw [List.length_set]; exact hl')⟩
    have lB : (if err7 p h = 0 ∧ within n 0 (h.length : Int) = true then playH p (h.take (Int.toNat n)) else []).length ≤ 100 := by
      split
      · rw [playH_len]; exact hpl
      · simp
    have lA : (if err7 p h = 0 then playH p h else []).length ≤ 100 := by
      split
      · rw [playH_len]; exact hpl
      · simp
    have k1 : ∀ l : List Lin, l.length ≤ 100 → Λ1 0 l := by
      intro l hl
      refine upto (n := l.length) (Q := fun k => ∀ l' : List Lin, l'.length = l.length → Λ1 (k : Int) l') ?_ ?_ 0 (Nat.zero_le _) l rfl
      · intro l' hl'
        apply h1; unfold cStoryPlays_1
        rw [if_neg (by rw [hl']; simp), List.nil_append]
        exact k2 _ lB
      · intro k hk ih l' hl'
        apply h1; unfold cStoryPlays_1
        rw [if_pos (by rw [hl']; simpa using hk)]
        exact ⟨⟨by omega, by omega⟩, by unfold inI; omega, ih _ (by rw [List.length_set]; exact hl')⟩
    refine ⟨trivial, ?_⟩
    rw [if_neg (by simp)]
    rw [List.nil_append]
    refine ⟨by simp only [List.length_nil]; omega, trivial, trivial, trivial, trivial, trivial, trivial, ?_⟩
    rw [if_neg (by simp)]
    refine ⟨by omega, trivial, ?_⟩
    rw [if_neg (by simp)]
    refine ⟨trivial, ?_⟩
    rw [if_neg (by simp)]
    refine ⟨by omega, trivial, ?_⟩
    rw [if_neg (by simp)]
    refine ⟨trivial, ?_⟩
    rw [if_neg (by simp)]
    exact k1 _ lA
  · refine ⟨trivial, ?_⟩
    rw [if_pos rfl]
    exact ⟨trivial, rfl, trivial⟩
end Go.Tk
/- The engine, part X: walks by hand, with stretches of the run. No conditions. -/
set_option linter.unusedSimpArgs false
set_option linter.unusedVariables false
namespace Go.Tk
open Go Go.RowKit

section
variable {P : Program} {B : Bs} {G : Nat → Gh} {m : Mem} {w w' w0 : World}

/-- As MRel.re, where no one ranges. -/
theorem MRel.re2 (hm : MRel P B G m w w0) (hit : ∀ k g l, m k = some (g, l) → l.isIt = false) {fo kb : Nat → Prop} {tv : Nat → Option Obj} {kv : Nat → Option Value} {ro : Option Nat} {lb : Nat} (hlb : lb ≤ w'.heap.size) (hos : w'.os = w.os) (htp : w'.tape = w.tape) (hout : w'.output = w.output) (hsz : w.heap.size ≤ w'.heap.size)
    (hc : ∀ b, isC w b → ¬ B.fo b → w'.heap[b]? = w.heap[b]?) (hl : ∀ b, b < B.n → w'.heap[b]? = w.heap[b]?) (hfo : ∀ b, b < w.heap.size → fo b → B.fo b) (hp : ∀ b, fo b ∨ kb b → b < w'.heap.size ∧ w'.heap[b]? = tv b)
    (ho : ∀ b, fo b ∨ kb b → b < w.heap.size → (B.fo b ∨ B.kb b) ∨ ∀ k g l, m k = some (g, l) → l.mut = true → ¬ ownL (G k) l b) :
    MRel P (B.wi fo kb tv kv ro lb) G m w' w0 ∧ ∀ {V : V} {v : Value}, ERep P B G m w V v → ERep P (B.wi fo kb tv kv ro lb) G m w' V v := by
  have hdS : ∀ f b, b < w.heap.size → dS B G m f b → dS (B.wi fo kb tv kv ro lb) G m f b := fun f b hlt h => ⟨h.1, h.2.1, fun hT => h.2.2 (hfo b hlt hT)⟩
  have hK : ∀ f, Keep (dS B G m f) w w' := fun f => ⟨hsz, fun b hb hS => hc b hb hS.2.2⟩
  have hcc : ∀ {t : T} {f : Bool} {y : t.den} {cs : List Value}, (reps P t).c w (dS B G m f) y cs → (reps P t).c w' (dS (B.wi fo kb tv kv ro lb) G m f) y cs := fun h => c_keep _ h (hK _) (hdS _)
  have hvv : ∀ {t : T} {y : t.den} {cs : List Value}, (reps P t).v w (dS B G m false) y cs [] → (reps P t).v w' (dS (B.wi fo kb tv kv ro lb) G m false) y cs [] := fun h => v_keep _ h (hK _) (hdS _)
  have hown : ∀ k g l b, m k = some (g, l) → l.mut = true → ownL (G k) l b → w'.heap[b]? = w.heap[b]? := by
    intro k g l b hk hmut e
    refine hc b ?_ fun hT => hm.frn.2 k g l b hk hmut e (.inl hT)
    rcases (hm.loc k g l hk).own_isC hmut e with h | ⟨A, ys, i, rfl⟩ | rfl
    · exact h
    · have := hit k g _ hk; cases this
    · have := hit k g _ hk; cases this
  refine ⟨⟨fun hlo => ?_, Nat.le_trans hm.base hsz, ?_, hm.inj, ⟨hp, ?_⟩, hlb⟩, ?_⟩
  · have := hm.low hlo
    exact ⟨hos.trans this.os, htp.trans this.tape, hout.trans this.output, Nat.le_trans this.size hsz, fun i hi => (hl i hi).trans (this.block i hi)⟩
  · intro k g l hk
    have hl := hm.loc k g l hk
    have hb := hown k g l
    cases l with
    | box f t x =>
      obtain ⟨b, cur, e, h1, h2, h3, h4, h5⟩ := hl
      exact ⟨b, cur, e, h1, h2, h3, (hb b hk rfl ⟨0, h1⟩).trans h4, hcc h5⟩
    | sl f t xs =>
      unfold LRep at hl ⊢
      exact hl.ext (fun b o e => hb b hk rfl ⟨o, e⟩) fun _ _ h' => hcc h'
    | fz f t xs =>
      unfold LRep at hl ⊢
      exact hcc hl
    | fb f t x =>
      obtain ⟨b, h1, h2⟩ := hl
      exact ⟨b, h1, hcc (t := .ref t) h2⟩
    | nl f t xss hh hole =>
      obtain ⟨vs, h1, h2, h3, h4, h5, h6, h7⟩ := hl
      exact ⟨vs, h1.ext (fun b o e => hb b hk rfl (.inl ⟨o, e⟩)) fun _ _ h => h, h2, h3, fun n xs hn hh => (h4 n xs hn hh).ext (fun b o e => hb b hk rfl (.inr ⟨n, o, e⟩)) fun _ _ h' => hcc h', h5, h6, h7⟩
    | mv => trivial
    | rg fr A ys i => trivial
    | it A ys i => have := hit k g _ hk; cases this
    | itx => have := hit k g _ hk; cases this
  · intro k g l b hk hmut e hb
    have hlt := ((hm.loc k g l hk).own_lt hmut e).1
    rcases ho b hb hlt with h | h
    · exact hm.frn.2 k g l b hk hmut e h
    · exact h k g l hk hmut e
  · intro V
    induction V with
    | any => intro v _; trivial
    | d f t x => rintro v ⟨cs, e, h⟩; exact ⟨cs, e, hcc h⟩
    | c v0 => intro v e; exact e
    | ptr k g p => intro v h; exact h
    | own k g => intro v h; exact h
    | sub k g lo hi => intro v h; exact h
    | inn k g h n => intro v h; exact h
    | ipt k g h n p => intro v h; exact h
    | ept f t x =>
      rintro v ⟨b, o, cs, e, h1, h2, h3, h4⟩
      exact ⟨b, o, cs, e, hdS f b h2 h1, Nat.lt_of_lt_of_le h2 hsz, h3.keep (fun hb => hc b hb h1.2.2), hcc h4⟩
    | fnc g t x => rintro v ⟨caps, e, hv⟩; exact ⟨caps, e, hvv hv⟩
    | bnd g t x => rintro v ⟨caps, e, hv⟩; exact ⟨caps, e, hvv hv⟩
    | ub p q => intro v h; exact h
    | yld => intro v h; exact h
    | tup n l ih => rintro v ⟨vs, e, hn, hv⟩; exact ⟨vs, e, hn, fun i u hu => ih i (hv i u hu)⟩

/-- The bounds of a walk by hand: kb: blocks that no one changes, as they are now. -/
abbrev hB (n : Nat) (S : Nat → Prop) (kv : Nat → Option Value) (kb : Nat → Prop) (tv : Nat → Option Obj) : Bs := { n := n, S := S, j := some dJ, kv := kv, kb := kb, tv := tv }

theorem Rel.re {n0 n : Nat} {S : Nat → Prop} {kv kv' : Nat → Option Value} {kb kb' : Nat → Prop} {tv : Nat → Option Obj} {st : St} {a : Act} (hR : Rel P (hB n0 S kv kb tv) w0 n st a w) (hit : ∀ k g l, st.loc k = some (g, l) → l.isIt = false)
    (hos : w'.os = w.os) (htp : w'.tape = w.tape) (hout : w'.output = w.output) (hsz : w.heap.size ≤ w'.heap.size) (hc : ∀ b, isC w b → w'.heap[b]? = w.heap[b]?) (hl : ∀ b, b < n0 → w'.heap[b]? = w.heap[b]?)
    (hkb : ∀ b, kb' b → b < w'.heap.size) (hk2 : ∀ b, kb' b → b < w.heap.size → kb b ∨ ¬ isC w b) (hkp : ∀ t v, kv' t = some v → a.tmps.getD t undef = v) : Rel P (hB n0 S kv' kb' fun b => w'.heap[b]?) w0 n st a w' := by
  obtain ⟨G, hm, he⟩ := hR.ex
  obtain ⟨r1, r2⟩ := hm.re2 (w' := w') hit (fo := fun _ => False) (kb := kb') (tv := fun b => w'.heap[b]?) (kv := kv') (ro := none) (lb := 0) (Nat.zero_le _) hos htp hout hsz (fun b hb _ => hc b hb) hl (fun _ _ h => h) (fun b h => by
    rcases h with h | h
    · exact h.elim
    · exact ⟨hkb b h, rfl⟩) (fun b h hlt => by
    rcases h with h | h
    · exact h.elim
    · rcases hk2 b h hlt with h | h
      · exact .inl (.inr h)
      · refine .inr fun k g l hk hmut e => h ?_
        rcases (hm.loc k g l hk).own_isC hmut e with h | ⟨A, ys, i, rfl⟩ | rfl
        · exact h
        · have := hit k g _ hk; cases this
        · have := hit k g _ hk; cases this)
  have hd := hR.nd.2 rfl
  exact ⟨⟨G, r1, fun t => r2 (he t)⟩, hR.sz, by rw [hd]; exact ⟨Marks.nil _ _, fun _ => rfl⟩, hkp⟩

theorem Rel.kept {n0 n : Nat} {S : Nat → Prop} {kv : Nat → Option Value} {kb : Nat → Prop} {tv : Nat → Option Obj} {st : St} {a : Act} (hR : Rel P (hB n0 S kv kb tv) w0 n st a w) {b : Nat} (hb : kb b) : w.heap[b]? = tv b := by
  obtain ⟨G, hm, he⟩ := hR.ex
  exact (hm.frn.1 b (.inr hb)).2
theorem Rel.kept_lt {n0 n : Nat} {S : Nat → Prop} {kv : Nat → Option Value} {kb : Nat → Prop} {tv : Nat → Option Obj} {st : St} {a : Act} (hR : Rel P (hB n0 S kv kb tv) w0 n st a w) {b : Nat} (hb : kb b) : b < w.heap.size := by
  obtain ⟨G, hm, he⟩ := hR.ex
  exact (hm.frn.1 b (.inr hb)).1
/-- As the world is now. -/
theorem Rel.now {n0 n : Nat} {S : Nat → Prop} {kv : Nat → Option Value} {kb : Nat → Prop} {tv : Nat → Option Obj} {st : St} {a : Act} (hR : Rel P (hB n0 S kv kb tv) w0 n st a w) (hit : ∀ k g l, st.loc k = some (g, l) → l.isIt = false) : Rel P (hB n0 S kv kb fun b => w.heap[b]?) w0 n st a w :=
  hR.re hit rfl rfl rfl (Nat.le_refl _) (fun _ _ => rfl) (fun _ _ => rfl) (fun _ h => hR.kept_lt h) (fun _ h _ => .inl h) hR.kp
theorem Rel.low {n0 n : Nat} {S : Nat → Prop} {kv : Nat → Option Value} {kb : Nat → Prop} {tv : Nat → Option Obj} {st : St} {a : Act} (hR : Rel P (hB n0 S kv kb tv) w0 n st a w) : Below n0 w0 w := by
  obtain ⟨G, hm, he⟩ := hR.ex
  exact hm.low rfl

/-- Other temporaries. -/
theorem rel_env {n0 n : Nat} {S : Nat → Prop} {kv kv' : Nat → Option Value} {kb : Nat → Prop} {tv : Nat → Option Obj} {E E' : List (Nat × V)} {M : List (Nat × Tk.L)} {a a' : Act} (hR : Rel P (hB n0 S kv kb tv) w0 n (mkSt (E, M)) a w) (hsz : a'.tmps.size = n) (hd : a'.defers = [])
    (hkp : ∀ t v, kv' t = some v → a'.tmps.getD t undef = v)
    (hE : ∀ t U, lk E' t = some U → (lk E t = some U ∧ a'.tmps.getD t undef = a.tmps.getD t undef) ∨ ∀ G, MRel P (hB n0 S kv' kb tv) G (mkLoc M) w w0 → ERep P (hB n0 S kv' kb tv) G (mkLoc M) w U (a'.tmps.getD t undef)) :
    Rel P (hB n0 S kv' kb tv) w0 n (mkSt (E', M)) a' w := by
  obtain ⟨G, hm, he⟩ := hR.ex
  have hm' : MRel P (hB n0 S kv' kb tv) G (mkLoc M) w w0 := ⟨hm.low, hm.base, fun k g l hk => by
    have := hm.loc k g l hk
    cases l <;> exact this, hm.inj, hm.frn, hm.lbd⟩
  refine ⟨⟨G, hm', fun t => ?_⟩, hsz, by rw [hd]; exact ⟨Marks.nil _ _, fun _ => rfl⟩, hkp⟩
  show ERep P _ G (mkLoc M) w (match lk E' t with | some v => v | none => .any) _
  cases hl : lk E' t with
  | none => trivial
  | some U =>
    rcases hE t U hl with ⟨h1, h2⟩ | h
    · have h3 := he t
      have h4 : (mkSt (E, M)).env t = U := by
        show (match lk E t with | some v => v | none => .any) = U
        rw [h1]
      rw [h4] at h3
      rw [h2]
      have key : ∀ (U : Tk.V) (v : Value), ERep P (hB n0 S kv kb tv) G (mkLoc M) w U v → ERep P (hB n0 S kv' kb tv) G (mkLoc M) w U v := by
        intro U
        induction U with
        | tup n l ih => rintro v ⟨vs, e, hn, hv⟩; exact ⟨vs, e, hn, fun i u hu => ih i _ (hv i u hu)⟩
        | _ => intro v h; exact h
      exact key U _ h3
    · exact h G hm'

/-- A new variable, that is written to no more. -/
theorem rel_box {n0 n : Nat} {S : Nat → Prop} {kv : Nat → Option Value} {kb : Nat → Prop} {tv : Nat → Option Obj} {E E' : List (Nat × Tk.V)} {M : List (Nat × Tk.L)} {a a' : Act} (hR : Rel P (hB n0 S kv kb tv) w0 n (mkSt (E, M)) a w) (hit : ∀ k g l, (mkSt (E, M)).loc k = some (g, l) → l.isIt = false)
    {d : Nat} {t : T} {x : t.den} {cs : List Value} {ty : TypeId} (hcs : ∀ W S', (reps P t).c W S' x cs) (hsz : a'.tmps.size = n) (hd : a'.defers = []) (hkp : ∀ t v, kv t = some v → a'.tmps.getD t undef = v) (hdv : a'.tmps.getD d undef = .pointer (some ⟨w.heap.size, 0, none⟩))
    (hE : ∀ t' U, lk E' t' = some U → (lk E t' = some U ∧ a'.tmps.getD t' undef = a.tmps.getD t' undef) ∨ (t' = d ∧ U = .ept true t x) ∨ ∀ B G m w, ERep P B G m w U (a'.tmps.getD t' undef)) :
    Rel P (hB n0 S kv kb fun b => (w.alloc (.cells cs.toArray ty)).heap[b]?) w0 n (mkSt (E', M)) a' (w.alloc (.cells cs.toArray ty)) := by
  have hkv := hR.kp
  obtain ⟨G, hm, he⟩ := hR.ex
  have hbel : Below w.heap.size w (w.alloc (.cells cs.toArray ty)) := (Below.refl _ w).alloc (Nat.le_refl _) _
  obtain ⟨r1, r2⟩ := hm.re2 (w' := w.alloc (.cells cs.toArray ty)) hit (fo := fun _ => False) (kb := kb) (tv := fun b => (w.alloc (.cells cs.toArray ty)).heap[b]?) (kv := kv) (ro := none) (lb := 0) (Nat.zero_le _) rfl rfl rfl (by simp) (fun b hb _ => hbel.block b hb.lt) (fun b hb => hbel.block b (Nat.lt_of_lt_of_le hb hm.base)) (fun _ _ h => h) (fun b h => by
    rcases h with h | h
    · exact h.elim
    · have := (hm.frn.1 b (.inr h)).1
      exact ⟨by simp; omega, rfl⟩) (fun b h hlt => by
    rcases h with h | h
    · exact h.elim
    · exact .inl (.inr h))
  refine ⟨⟨G, r1, fun t' => ?_⟩, hsz, by rw [hd]; exact ⟨Marks.nil _ _, fun _ => rfl⟩, hkp⟩
  show ERep P _ G (mkLoc M) _ (match lk E' t' with | some v => v | none => .any) _
  cases hl : lk E' t' with
  | none => trivial
  | some U =>
    rcases hE t' U hl with ⟨h1, h2⟩ | ⟨rfl, rfl⟩ | h
    · have h3 := he t'
      have h4 : (mkSt (E, M)).env t' = U := by
        show (match lk E t' with | some v => v | none => .any) = U
        rw [h1]
      rw [h4] at h3
      rw [h2]
      exact r2 h3
    · rw [hdv]
      refine ⟨w.heap.size, 0, cs, rfl, ⟨⟨fun _ => hm.base, .inl hm.base⟩, fun k g l hk hmut e => ?_, fun h => h⟩, by simp, ?_, hcs _ _⟩
      · have := ((hm.loc k g l hk).own_lt hmut e).1
        omega
      · intro j v hj
        simp only [World.cell?, heap_alloc_new]
        simpa using hj
    · exact h _ _ _ _

/-- Behind calls and new variables: what was known, and what lies in new blocks. -/
theorem rel_new {n0 n : Nat} {S : Nat → Prop} {kv kv' : Nat → Option Value} {kb : Nat → Prop} {tv : Nat → Option Obj} {E E' : List (Nat × Tk.V)} {M : List (Nat × Tk.L)} {a a' : Act} (hR : Rel P (hB n0 S kv kb tv) w0 n (mkSt (E, M)) a w) (hit : ∀ k g l, (mkSt (E, M)).loc k = some (g, l) → l.isIt = false)
    (hbel : Below w.heap.size w w') (hsz : a'.tmps.size = n) (hd : a'.defers = []) (hkp : ∀ t v, kv' t = some v → a'.tmps.getD t undef = v)
    (hE : ∀ t U, lk E' t = some U → (∃ t2, lk E t2 = some U ∧ a'.tmps.getD t undef = a.tmps.getD t2 undef) ∨ ∀ G, (∀ b, w.heap.size ≤ b → dS (hB n0 S kv' kb fun b => w'.heap[b]?) G (mkLoc M) true b) → ERep P (hB n0 S kv' kb fun b => w'.heap[b]?) G (mkLoc M) w' U (a'.tmps.getD t undef)) :
    Rel P (hB n0 S kv' kb fun b => w'.heap[b]?) w0 n (mkSt (E', M)) a' w' := by
  obtain ⟨G, hm, he⟩ := hR.ex
  obtain ⟨r1, r2⟩ := hm.re2 (w' := w') hit (fo := fun _ => False) (kb := kb) (tv := fun b => w'.heap[b]?) (kv := kv') (ro := none) (lb := 0) (Nat.zero_le _) hbel.os hbel.tape hbel.output hbel.size (fun b hb _ => hbel.block b hb.lt) (fun b hb => hbel.block b (Nat.lt_of_lt_of_le hb hm.base)) (fun _ _ h => h) (fun b h => by
    rcases h with h | h
    · exact h.elim
    · exact ⟨Nat.lt_of_lt_of_le (hm.frn.1 b (.inr h)).1 hbel.size, rfl⟩) (fun b h hlt => by
    rcases h with h | h
    · exact h.elim
    · exact .inl (.inr h))
  refine ⟨⟨G, r1, fun t' => ?_⟩, hsz, by rw [hd]; exact ⟨Marks.nil _ _, fun _ => rfl⟩, hkp⟩
  show ERep P _ G (mkLoc M) _ (match lk E' t' with | some v => v | none => .any) _
  cases hl : lk E' t' with
  | none => trivial
  | some U =>
    rcases hE t' U hl with ⟨t2, h1, h2⟩ | h
    · have h3 := he t2
      have h4 : (mkSt (E, M)).env t2 = U := by
        show (match lk E t2 with | some v => v | none => .any) = U
        rw [h1]
      rw [h4] at h3
      rw [h2]
      exact r2 h3
    · refine h G fun b hb => ⟨⟨fun _ => Nat.le_trans hm.base hb, .inl (Nat.le_trans hm.base hb)⟩, fun k g l hk hmut e => ?_, fun h => h⟩
      have := ((hm.loc k g l hk).own_lt hmut e).1
      omega
/-- Nothing is known. -/
theorem rel_zero {n : Nat} {S : Nat → Prop} {kv : Nat → Option Value} {kb : Nat → Prop} {a : Act} (hsz : a.tmps.size = n) (hd : a.defers = []) (hkp : ∀ t v, kv t = some v → a.tmps.getD t undef = v) (hkb : ∀ b, kb b → b < w.heap.size) :
    Rel P (hB w.heap.size S kv kb fun b => w.heap[b]?) w n (mkSt ([], [])) a w :=
  ⟨⟨fun _ => gh undef none, ⟨fun _ => Below.refl _ _, Nat.le_refl _, fun k g l hk => (by cases hk), fun k k' g g' l l' b hk => (by cases hk), ⟨fun b h => by
    rcases h with h | h
    · exact h.elim
    · exact ⟨hkb b h, rfl⟩, fun k g l b hk => (by cases hk)⟩, Nat.zero_le _⟩, fun t => trivial⟩, hsz, by rw [hd]; exact ⟨Marks.nil _ _, fun _ => rfl⟩, hkp⟩
/-- A datum's value. -/
theorem rel_d {n0 n : Nat} {S : Nat → Prop} {kv : Nat → Option Value} {kb : Nat → Prop} {tv : Nat → Option Obj} {E : List (Nat × Tk.V)} {M : List (Nat × Tk.L)} {a : Act} (hR : Rel P (hB n0 S kv kb tv) w0 n (mkSt (E, M)) a w) {d : Nat} {f : Bool} {t : T} {x : t.den} (h : lk E d = some (.d f t x)) :
    ∃ (cs : List Value) (S' : Nat → Prop), a.tmps.getD d undef = mkV t cs ∧ (reps P t).c w S' x cs := by
  obtain ⟨G, hm, he⟩ := hR.ex
  have h3 := he d
  have h4 : (mkSt (E, M)).env d = .d f t x := by
    show (match lk E d with | some v => v | none => .any) = _
    rw [h]
  rw [h4] at h3
  obtain ⟨cs, e, hc⟩ := h3
  exact ⟨cs, _, e, hc⟩
theorem rel_int {n0 n : Nat} {S : Nat → Prop} {kv : Nat → Option Value} {kb : Nat → Prop} {tv : Nat → Option Obj} {E : List (Nat × Tk.V)} {M : List (Nat × Tk.L)} {a : Act} (hR : Rel P (hB n0 S kv kb tv) w0 n (mkSt (E, M)) a w) {d : Nat} {f : Bool} {x : Int} (h : lk E d = some (.d f .int x)) : a.tmps.getD d undef = .int .i64 x ∧ inI x := by
  obtain ⟨cs, S', e, hc, hi⟩ := rel_d hR h
  subst hc
  exact ⟨e, hi⟩
theorem rel_bool {n0 n : Nat} {S : Nat → Prop} {kv : Nat → Option Value} {kb : Nat → Prop} {tv : Nat → Option Obj} {E : List (Nat × Tk.V)} {M : List (Nat × Tk.L)} {a : Act} (hR : Rel P (hB n0 S kv kb tv) w0 n (mkSt (E, M)) a w) {d : Nat} {f : Bool} {x : Bool} (h : lk E d = some (.d f .bool x)) : a.eval (.tmp d) = .bool x := by
  obtain ⟨cs, S', e, hc⟩ := rel_d hR h
  have hc : cs = [.bool x] := hc
  subst hc
  exact e

/-- The beginning of a function. -/
theorem rel_start {A : T} {x : A.den} {vs : List Value} {S : Nat → Prop} {n : Nat} (hA : (isTup A && Nat.ble (arity A) n) = true) (hv : (reps P A).v w S x vs []) :
    Rel P (hB w.heap.size S (fun _ => none) (fun _ => False) fun b => w.heap[b]?) w n (mkSt (argE A x 0, [])) { tmps := vs.toArray ++ Array.replicate (n - vs.toArray.size) undef, defers := [] } w := by
  rw [Bool.and_eq_true] at hA
  have hle := Nat.le_of_ble_eq_true hA.2
  let G : Nat → Gh := fun _ => gh undef none
  obtain ⟨i1, i2, i3⟩ := argE_ok (S' := dS (hB w.heap.size S (fun _ => none) (fun _ => False) fun b => w.heap[b]?) G (mkLoc []) false) (fun b hb => ⟨⟨fun e => (by cases e), .inr hb⟩, fun k g l hk => by simp [mkLoc, lk] at hk, fun h => h⟩) A x vs 0 hA.1 hv
  refine ⟨⟨G, ⟨fun _ => Below.refl _ _, Nat.le_refl _, fun k g l hk => by simp [mkSt, mkLoc, lk] at hk, fun k k' g g' l l' b hk => by simp [mkSt, mkLoc, lk] at hk, ⟨fun b h => by rcases h with h | h <;> exact h.elim, fun k g l b hk => by simp [mkSt, mkLoc, lk] at hk⟩, Nat.zero_le _⟩, fun t => ?_⟩, by simp; omega, ⟨Marks.nil _ _, fun _ => rfl⟩, fun t v e => by cases e⟩
  show ERep P _ G (mkLoc []) w (match lk (argE A x 0) t with | some v => v | none => .any) _
  split
  · rename_i V e
    obtain ⟨_, v, f', a, y, cs, j1, rfl, rfl, j4, rfl⟩ := i3 t V e
    refine ⟨cs, ?_, j4⟩
    have hlt : t < vs.length := (List.getElem?_eq_some_iff.1 j1).1
    have j1 : vs[t]? = some (mkV a cs) := j1
    have e1 : (vs.toArray ++ Array.replicate (n - vs.toArray.size) undef)[t]? = some (mkV a cs) := by
      rw [Array.getElem?_append_left (by simpa using hlt)]
      simpa using j1
    simp only [Array.getD_eq_getD_getElem?, e1, Option.getD_some]
  · trivial

/-- The run from here to a label; what follows is by hand. -/
theorem eng_to {cx : Cx} (hk : Cok P cx) (hmix : P.follows .mixedOrders = true) (hx : cx.X.itf = none) (hpn : cx.X.pan = none) {code : Code} {n0 : Nat} {S : Nat → Prop} {kv : Nat → Option Value} {kb : Nat → Prop} {tv : Nat → Option Obj} {st : St} {a : Act} {Q : Exit → Act → World → Prop} (ly : List (Pth × Lay))
    (hR : Rel P (hB n0 S kv kb tv) w0 cx.n st a w) (hok : (okC cx.n code && noRF code) = true) (hkv : ∀ t ∈ wrs code, kv t = none)
    (h : ∀ Λ : Pth → Lst → Prop, Λ = Sem P (hB n0 S kv kb tv) w0 cx.n code Q → Wl cx (LyL ly) Λ code (fun _ _ => False) st) : code.wpIn (Fw none) 0 P Q a w := by
  rw [Bool.and_eq_true] at hok
  have := (sound hk hmix code (hB n0 S kv kb tv) w0 (LyL ly) (fun _ _ => False) Q hok.1 ⟨hkv, .inl hok.2, fun fr e => (by rw [hx] at e; cases e), .inl hpn⟩ (fun e st a w h => h.elim) fun p hp => by rw [hpn] at hp; cases hp).1 st a w (h _ rfl) hR
  exact this
/-- The run through a stretch of code without loops. -/
theorem eng_thru {cx : Cx} (hk : Cok P cx) (hmix : P.follows .mixedOrders = true) (hx : cx.X.itf = none) (hpn : cx.X.pan = none) {code : Code} {n0 : Nat} {S : Nat → Prop} {kv : Nat → Option Value} {kb : Nat → Prop} {tv : Nat → Option Obj} {st : St} {a : Act} {Q : Exit → Act → World → Prop} (ly : Lay) (x : Lst)
    (hR : Rel P (hB n0 S kv kb tv) w0 cx.n st a w) (hok : (okC cx.n code && noRF code) = true) (hkv : ∀ t ∈ wrs code, kv t = none)
    (h : Wl cx (fun _ => none) (fun _ _ => False) code (fun e st => match e with | .normal => canK ly (fun y => y = x) st | _ => False) st) (hQ : ∀ a w, Rel P (hB n0 S kv kb tv) w0 cx.n (mkSt x) a w → Q .normal a w) : code.wpIn (Fw none) 0 P Q a w := by
  rw [Bool.and_eq_true] at hok
  have hs := sound hk hmix code (hB n0 S kv kb tv) w0 (fun _ => none) (fun e st => match e with | .normal => canK ly (fun y => y = x) st | _ => False) Q hok.1 ⟨hkv, .inl hok.2, fun fr e => (by rw [hx] at e; cases e), .inl hpn⟩ (fun e st a w h hR => by
    cases e <;> first | exact h.elim | skip
    obtain ⟨y, rfl, hR2⟩ := canK_ok h hR
    exact hQ a w hR2) fun p hp => by rw [hpn] at hp; cases hp
  refine hs.1 st a w ?_ hR
  exact Wl_mono _ _ _ _ _ _ _ (fun _ _ h => h.elim) (fun _ _ h => h) h

/-- An own slice, for a result. -/
theorem rel_own {n0 n : Nat} {S : Nat → Prop} {kv : Nat → Option Value} {kb : Nat → Prop} {tv : Nat → Option Obj} {E : List (Nat × V)} {M : List (Nat × Tk.L)} {a : Act} (hR : Rel P (hB n0 S kv kb tv) w0 n (mkSt (E, M)) a w) {d k : Nat} {t : T} {xs : List t.den}
    (hE : lk E d = some (.own k 0)) (hM : lk M k = some (.sl true t xs)) : ∃ ob : Option (Nat × Nat), repOwn ((reps P t).c w fun b => n0 ≤ b ∧ ¬ b ∈ (ob.map (·.1)).toList) t.csize w (fun _ => True) xs (a.tmps.getD d undef) ob ∧ ∀ b ∈ (ob.map (·.1)).toList, n0 ≤ b := by
  obtain ⟨G, hm, he⟩ := hR.ex
  have hl : mkLoc M k = some (0, .sl true t xs) := by
    show (match lk M k with | some l => some (0, l) | none => none) = _
    rw [hM]
  have h1 := he d
  have h2 : (mkSt (E, M)).env d = .own k 0 := by
    show (match lk E d with | some v => v | none => .any) = _
    rw [hE]
  rw [h2] at h1
  obtain ⟨g', l, q1, _, q2⟩ := h1
  have q1 : mkLoc M k = some (g', l) := q1
  rw [hl] at q1
  cases q1
  have h3 : a.tmps.getD d undef = (G k).hdr := q2 rfl
  have h4 : repOwn ((reps P t).c w (dS (hB n0 S kv kb tv) G (mkLoc M) true)) t.csize w (fun b => n0 ≤ b) xs (G k).hdr (G k).blk := hm.loc k 0 _ hl
  rw [h3]
  refine ⟨(G k).blk, ?_, ?_⟩
  · rcases h4 with h4 | ⟨b, off, cap, cur, e, g1, g2, g3, g4, g5, g6, g7, g8⟩
    · exact .inl h4
    · refine .inr ⟨b, off, cap, cur, e, g1, g2, trivial, g4, g5, g6, g7, repL_mono (fun _ _ h => c_mono _ h fun b' _ hb => ⟨hb.1.1 rfl, fun hin => ?_⟩) _ _ g8⟩
      rw [g1] at hin
      simp at hin
      exact hb.2.1 k 0 _ hl rfl ⟨off, by rw [g1, hin]⟩
  · intro b hb
    rcases h4 with ⟨_, _, h4⟩ | ⟨b', off, cap, cur, e, g1, g2, g3, g4, g5, g6, g7, g8⟩
    · rw [h4] at hb; simp at hb
    · rw [g1] at hb
      simp at hb
      rw [hb]; exact g3

/-! ### A region's operations, in their order -/
variable {ops : Array Oper} {Q : Exit → Act → World → Prop} {rest : List Nat} {a : Act}
theorem sp_val {k : Nat} {o : Oper} {v : Value} {w1 : World} (ho : ops[k]? = some o) (hg : o.guard = none) (hr : (execOp a.eval o).run P w = .ok (.value v) w1) (h : wpOpsIn (Fw none) 0 P ops Q rest (a.put o.dst v) w1) :
    wpOpsIn (Fw none) 0 P ops Q (k :: rest) a w := by
  rw [wpOpsIn_cons]
  have hw : Region.wanted o (yielded ops a.tmps) = true := by unfold Region.wanted; rw [hg]
  unfold wpOpIn
  rw [ho]
  simp only [hw, if_true]
  refine ⟨fun _ _ => trivial, ?_⟩
  show Oper.uponIn (Fw none) 0 P o a _ Q ((o.semAt none a.eval).run P w)
  rw [Oper.semAt_none, hr]
  exact upon_in h
theorem sp_call {k : Nat} {o : Oper} {f : FuncId} {args : Array Value} (ho : ops[k]? = some o) (hg : o.guard = none) (hr : (execOp a.eval o).run P w = .ok (.enter f args) w)
    (h : Calls P f args w fun e w1 => ∃ v, e = .returned v ∧ wpOpsIn (Fw none) 0 P ops Q rest (a.put o.dst v) w1) : wpOpsIn (Fw none) 0 P ops Q (k :: rest) a w := by
  rw [wpOpsIn_cons]
  have hw : Region.wanted o (yielded ops a.tmps) = true := by unfold Region.wanted; rw [hg]
  unfold wpOpIn
  rw [ho]
  simp only [hw, if_true]
  refine ⟨fun _ _ => trivial, ?_⟩
  show Oper.uponIn (Fw none) 0 P o a _ Q ((o.semAt none a.eval).run P w)
  rw [Oper.semAt_none, hr]
  refine upon_in (r := .ok (.enter f args) w) ?_
  refine Calls.mono h ?_
  rintro e w1 ⟨v, rfl, h⟩
  exact h

/-- A stretch of a region by the run. -/
theorem stretch_wp {cx : Cx} (hk : Cok P cx) {st : St} (hR : Rel P B w0 cx.n st a w) (hro : B.ro = none) (k c : Nat) (hkv : ∀ o ∈ (ops.toList.drop k).take c, ∀ d, o.dst = some d → B.kv d = none) (hd : dstsOK cx.n ((ops.toList.drop k).take c) = true) (hlen : ((ops.toList.drop k).take c).length = c)
    {Φ : St → Prop} (h : runG cx ops.toList ((ops.toList.drop k).take c) st [] fun st _ => Φ st) (hQ : ∀ st a w, Φ st → Rel P B w0 cx.n st a w → wpOpsIn (Fw none) 0 P ops Q rest a w) : wpOpsIn (Fw none) 0 P ops Q (List.range' k c ++ rest) a w := by
  obtain ⟨τ, _, h⟩ := runL_lex (R := Real P B w0 cx.n) (Pd := fun o => ∀ d, o.dst = some d → B.kv d = none) (fun st o e tu hp => real_yop hk hp) _ st [] 0 (fun _ => ([], [])) hkv ⟨a, w, hR⟩ hd rfl (runL_of_runG _ _ _ _ h)
  have key : ∀ (l : List Oper) (k : Nat) (st : St) (a : Act) (w : World), (∀ o ∈ l, ∀ d, o.dst = some d → B.kv d = none) → (∀ j, j < l.length → l[j]? = ops.toList[k + j]?) → Rel P B w0 cx.n st a w → lexA cx ops.toList τ (fun st => Φ st) l (0 + (k - k)) st ∨ True → True := fun _ _ _ _ _ _ _ _ _ => trivial
  clear key
  have key : ∀ (l : List Oper) (k i : Nat) (st : St) (a : Act) (w : World), (∀ o ∈ l, ∀ d, o.dst = some d → B.kv d = none) → (∀ j, j < l.length → l[j]? = ops.toList[k + j]?) → Rel P B w0 cx.n st a w → lexA cx ops.toList τ (fun st => Φ st) l i st → wpOpsIn (Fw none) 0 P ops Q (List.range' k l.length ++ rest) a w := by
    intro l
    induction l with
    | nil => intro k i st a w _ _ hR h; exact hQ _ _ _ h hR
    | cons o l ih =>
      intro k i st a w hkv hl hR h
      obtain ⟨e, hy, h⟩ := h
      rw [List.length_cons, List.range'_succ, List.cons_append, wpOpsIn_cons]
      have ho : ops.toList[k]? = some o := by simpa using (hl 0 (by simp)).symm
      have ho2 : ops.toList.toArray[k]? = some o := by simpa using ho
      have := yop_wp hk (Q := Q) (hkv o (by simp)) hR hy ho2 (K := fun a w => wpOpsIn (Fw none) 0 P ops Q (List.range' (k + 1) l.length ++ rest) a w) fun a' w' hR' => ih (k + 1) (i + 1) _ _ _ (fun o ho => hkv o (by simp [ho])) (fun j hj => by
        have := hl (j + 1) (by simp; omega)
        simpa [Nat.add_assoc, Nat.add_comm 1 j] using this) hR' h
      rw [hro] at this
      simpa using this
  have := key ((ops.toList.drop k).take c) k 0 st a w hkv (fun j hj => by
    rw [List.getElem?_take, List.getElem?_drop]
    rw [hlen] at hj
    rw [if_pos hj]) hR h
  rw [hlen] at this
  exact this

/-! ### Loops -/
theorem loop_upX {F : Fence} {c : Code} {n : Nat} (A : Nat → Act → World → Prop) (last : ∀ a W, A n a W → c.wpIn F 0 P (Exit.then (fun _ _ => False) Q) a W)
    (step : ∀ m a W, m < n → A m a W → c.wpIn F 0 P (Exit.then (A (m + 1)) Q) a W) : ∀ m, m ≤ n → ∀ a W, A m a W → LoopAt F P c Q a W := by
  have key : ∀ d m, m + d = n → ∀ a W, A m a W → LoopAt F P c Q a W := by
    intro d
    induction d with
    | zero =>
      intro m hm a W h
      obtain rfl : m = n := by omega
      refine loopAt_round (wpIn_mono (last a W h) fun e a' W' he => ?_)
      cases e <;> first | exact he.elim | exact he
    | succ d ih =>
      intro m hm a W h
      refine loopAt_round (wpIn_mono (step m a W (by omega) h) fun e a' W' he => ?_)
      cases e <;> first | exact ih (m + 1) (by omega) _ _ he | exact he
  exact fun m hm a W h => key (n - m) m (by omega) a W h
theorem loop_downX {F : Fence} {c : Code} (A : Nat → Act → World → Prop) (step : ∀ m a W, A m a W → c.wpIn F 0 P (Exit.then (fun a W => ∃ m', m' < m ∧ A m' a W) Q) a W) : ∀ m a W, A m a W → LoopAt F P c Q a W := by
  intro m
  induction m using Nat.strongRecOn with
  | ind m ih =>
    intro a W h
    refine loopAt_round (wpIn_mono (step m a W h) fun e a' W' he => ?_)
    cases e <;> first | (obtain ⟨m', h1, h2⟩ := he; exact ih m' h1 _ _ h2) | exact he
/-! ### Regions, one operation after another, by hand -/
def ql (P : Program) : List Oper → (Act → World → Prop) → (Exit → Act → World → Prop) → Act → World → Prop
  | [], K, _, a, w => K a w
  | o :: l, K, Q, a, w => o.upon P a (fun a' w' => ql P l K Q a' w') Q ((execOp a.eval o).run P w)
theorem ql_mono {P : Program} {o : Oper} {a : Act} {K K' : Act → World → Prop} {Q : Exit → Act → World → Prop} {r : Result Next} (h : ∀ a w, K a w → K' a w) (hr : o.upon P a K Q r) : o.upon P a K' Q r := by
  cases r with
  | halt x w => cases x <;> exact hr
  | ok x w =>
    cases x <;> simp only [Oper.upon] at hr ⊢
    case value v => exact h _ _ hr
    case skip => exact h _ _ hr
    case defer d => exact h _ _ hr
    case enter f args =>
      refine hr.mono ?_
      intro e w' he
      cases e with
      | returned v => exact h _ _ he
      | panicked c => exact he
      | outgrown => exact he
    case row row args =>
      intro c cs
      obtain ⟨v, w', hv, hs⟩ := hr c cs
      exact ⟨v, w', h _ _ hv, hs⟩
theorem ql_ops {P : Program} {ops : List Oper} {Q : Exit → Act → World → Prop} : ∀ (l : List Oper) (k : Nat) (a : Act) (w : World), (∀ j, l[j]? = ops[k + j]?) → (∀ o ∈ l, o.guard = none) → ql P l (Q .normal) Q a w →
    wpOpsIn (Fw none) 0 P ops.toArray Q (List.range' k l.length) a w
  | [], k, a, w, _, _, h => by
    have h : Q .normal a w := h
    simpa [wpOpsIn] using h
  | o :: l, k, a, w, hl, hg, h => by
    rw [List.length_cons, List.range'_succ, wpOpsIn_cons]
    have ho : ops[k]? = some o := by simpa using (hl 0).symm
    have hl' : ∀ j, l[j]? = ops[k + 1 + j]? := fun j => by have := hl (j + 1); simpa [Nat.add_assoc, Nat.add_comm 1 j] using this
    have hw : Region.wanted o (yielded ops.toArray a.tmps) = true := by unfold Region.wanted; rw [hg o (by simp)]
    unfold wpOpIn
    rw [show ops.toArray[k]? = some o by simpa using ho]
    simp only [hw, if_true]
    refine ⟨fun _ _ => trivial, ?_⟩
    show Oper.uponIn (Fw none) 0 P o a _ Q ((o.semAt none a.eval).run P w)
    rw [Oper.semAt_none]
    exact upon_in (ql_mono (fun a' w' h' => ql_ops l (k + 1) a' w' hl' (fun q hq => hg q (by simp [hq])) h') h)
theorem ql_region {P : Program} {ops : Array Oper} {id : Nat} {Q : Exit → Act → World → Prop} {a : Act} {w : World} (hg : (ops.toList.all fun o => o.guard.isNone) = true) (h : ql P ops.toList (Q .normal) Q a w) : (Code.region id ops false).wpIn (Fw none) 0 P Q a w := by
  refine wpIn_region ?_
  have := ql_ops (P := P) (ops := ops.toList) (Q := Q) ops.toList 0 a w (by simp) (fun o ho => by simpa using List.all_eq_true.1 hg o ho) h
  simpa [List.range_eq_range'] using this


/-- The first operations by hand, the others as wpOpsIn. -/
theorem ql_pre {P : Program} {ops : Array Oper} {id : Nat} {Q : Exit → Act → World → Prop} {a : Act} {w : World} (c : Nat) (hc : c ≤ ops.size) (hg : ((ops.toList.take c).all fun o => o.guard.isNone) = true) (h : ql P (ops.toList.take c) (fun a w => wpOpsIn (Fw none) 0 P ops Q (List.range' c (ops.size - c)) a w) Q a w) : (Code.region id ops false).wpIn (Fw none) 0 P Q a w := by
  refine wpIn_region ?_
  have key : ∀ (l : List Oper) (k : Nat) (a : Act) (w : World), k + l.length = c → (∀ j, j < l.length → l[j]? = ops[k + j]?) → (∀ o ∈ l, o.guard = none) → ql P l (fun a w => wpOpsIn (Fw none) 0 P ops Q (List.range' c (ops.size - c)) a w) Q a w →
      wpOpsIn (Fw none) 0 P ops Q (List.range' k l.length ++ List.range' c (ops.size - c)) a w := by
    intro l
    induction l with
    | nil => intro k a w _ _ _ h; exact h
    | cons o l ih =>
      intro k a w hk hl hg h
      rw [List.length_cons, List.range'_succ, List.cons_append, wpOpsIn_cons]
      have ho : ops[k]? = some o := by simpa using (hl 0 (by simp)).symm
      have hw : Region.wanted o (yielded ops a.tmps) = true := by unfold Region.wanted; rw [hg o (by simp)]
      unfold wpOpIn
      rw [ho]
      simp only [hw, if_true]
      refine ⟨fun _ _ => trivial, ?_⟩
      show Oper.uponIn (Fw none) 0 P o a _ Q ((o.semAt none a.eval).run P w)
      rw [Oper.semAt_none]
      exact upon_in (ql_mono (fun a' w' h' => ih (k + 1) a' w' (by simp only [List.length_cons] at hk; omega) (fun j hj => by
        have := hl (j + 1) (by simp; omega)
        simpa [Nat.add_assoc, Nat.add_comm 1 j] using this) (fun q hq => hg q (by simp [hq])) h') h)
  have hlen : (ops.toList.take c).length = c := by rw [List.length_take, Array.length_toList]; exact Nat.min_eq_left hc
  have := key (ops.toList.take c) 0 a w (by omega) (fun j hj => by
    rw [hlen] at hj
    rw [List.getElem?_take, if_pos hj]
    simp) (fun o ho => by simpa using List.all_eq_true.1 hg o ho) h
  rw [hlen] at this
  have e : List.range' 0 c ++ List.range' c (ops.size - c) = List.range ops.size := by
    rw [List.range_eq_range']
    have := List.range'_append_1 (s := 0) (m := c) (n := ops.size - c)
    rw [Nat.zero_add] at this
    rw [this]
    congr 1
    omega
  rw [e] at this
  exact this
end
end Go.Tk
/- Plain facts of layer 4: tables as ascending lists, and the kit's data of maps. No program in sight. -/
set_option linter.unusedSimpArgs false
set_option linter.unusedVariables false
set_option linter.unnecessarySimpa false
namespace Go.Tk
open Go Go.RowKit

section
variable {L : Type}
def Asc (E : List (Int × L)) : Prop := E.Pairwise fun p q => p.1 < q.1
def putE : List (Int × L) → Int → L → List (Int × L)
  | [], k, l => [(k, l)]
  | (a, m) :: E, k, l => if k < a then (k, l) :: (a, m) :: E else if k = a then (k, l) :: E else (a, m) :: putE E k l
def lookE : List (Int × L) → Int → Option L
  | [], _ => none
  | (a, m) :: E, k => if a = k then some m else lookE E k
def mergeE (E F : List (Int × L)) : List (Int × L) := F.foldl (fun E p => putE E p.1 p.2) E

theorem putE_mem {E : List (Int × L)} {k : Int} {l : L} : ∀ {p}, p ∈ putE E k l → p.1 = k ∨ p ∈ E := by
  induction E with
  | nil => intro p hp; simp [putE] at hp; simp [hp]
  | cons a E ih =>
    obtain ⟨a, m⟩ := a
    intro p hp
    unfold putE at hp
    split at hp
    · rcases List.mem_cons.1 hp with rfl | hp
      · exact .inl rfl
      · exact .inr hp
    · split at hp
      · rcases List.mem_cons.1 hp with rfl | hp
        · exact .inl rfl
        · exact .inr (by simp [hp])
      · rcases List.mem_cons.1 hp with rfl | hp
        · exact .inr (by simp)
        · rcases ih hp with h | h
          · exact .inl h
          · exact .inr (by simp [h])
theorem putE_val {k : Int} {l : L} : ∀ {E : List (Int × L)} {p}, p ∈ putE E k l → p = (k, l) ∨ p ∈ E
  | [], p, hp => by simp [putE] at hp; simp [hp]
  | (a, m) :: E, p, hp => by
    unfold putE at hp
    split at hp
    · rcases List.mem_cons.1 hp with rfl | hp
      · exact .inl rfl
      · exact .inr hp
    · split at hp
      · rcases List.mem_cons.1 hp with rfl | hp
        · exact .inl rfl
        · exact .inr (by simp [hp])
      · rcases List.mem_cons.1 hp with rfl | hp
        · exact .inr (by simp)
        · rcases putE_val hp with h | h
          · exact .inl h
          · exact .inr (by simp [h])
theorem putE_asc {k : Int} {l : L} : ∀ {E : List (Int × L)}, Asc E → Asc (putE E k l)
  | [], _ => by simp [putE, Asc]
  | (a, m) :: E, h => by
    obtain ⟨h1, h2⟩ := List.pairwise_cons.1 h
    unfold putE
    split
    · rename_i hk
      refine List.pairwise_cons.2 ⟨fun p hp => ?_, h⟩
      rcases List.mem_cons.1 hp with rfl | hp
      · exact hk
      · have := h1 p hp
        show k < p.1
        have : a < p.1 := this
        omega
    · split
      · rename_i hk
        refine List.pairwise_cons.2 ⟨fun p hp => ?_, h2⟩
        have : a < p.1 := h1 p hp
        show k < p.1
        omega
      · refine List.pairwise_cons.2 ⟨fun p hp => ?_, putE_asc h2⟩
        rcases putE_mem hp with e | hp
        · show a < p.1
          omega
        · exact h1 p hp
theorem look_none {k : Int} : ∀ {E : List (Int × L)}, (∀ p ∈ E, p.1 ≠ k) → lookE E k = none
  | [], _ => rfl
  | (a, m) :: E, h => by
    unfold lookE
    rw [if_neg (h (a, m) (by simp))]
    exact look_none fun p hp => h p (by simp [hp])
theorem look_mem {k : Int} {l : L} : ∀ {E : List (Int × L)}, Asc E → (lookE E k = some l ↔ (k, l) ∈ E)
  | [], _ => by simp [lookE]
  | (a, m) :: E, h => by
    obtain ⟨h1, h2⟩ := List.pairwise_cons.1 h
    unfold lookE
    by_cases e : a = k
    · rw [if_pos e]
      subst e
      constructor
      · intro q; cases q; simp
      · intro q
        rcases List.mem_cons.1 q with q | q
        · cases q; rfl
        · have : a < a := h1 (a, l) q
          omega
    · rw [if_neg e, look_mem h2]
      constructor
      · intro q; simp [q]
      · intro q
        rcases List.mem_cons.1 q with q | q
        · cases q; exact absurd rfl e
        · exact q
theorem look_put {k j : Int} {l : L} : ∀ {E : List (Int × L)}, Asc E → lookE (putE E k l) j = if k = j then some l else lookE E j
  | [], _ => by simp [putE, lookE]
  | (a, m) :: E, h => by
    obtain ⟨h1, h2⟩ := List.pairwise_cons.1 h
    unfold putE
    split
    · rfl
    · split
      · rename_i hk
        subst hk
        simp only [lookE]
        by_cases e : k = j
        · rw [if_pos e, if_pos e]
        · rw [if_neg e, if_neg e, if_neg e]
      · rename_i g1 g2
        simp only [lookE]
        rw [look_put h2]
        by_cases e : a = j
        · rw [if_pos e, if_pos e, if_neg (by omega)]
        · rw [if_neg e, if_neg e]
theorem asc_ext : ∀ {E F : List (Int × L)}, Asc E → Asc F → (∀ k, lookE E k = lookE F k) → E = F
  | [], [], _, _, _ => rfl
  | [], (b, n) :: F, _, _, h => by have := h b; simp [lookE] at this
  | (a, m) :: E, [], _, _, h => by have := h a; simp [lookE] at this
  | (a, m) :: E, (b, n) :: F, hE, hF, h => by
    obtain ⟨e1, e2⟩ := List.pairwise_cons.1 hE
    obtain ⟨f1, f2⟩ := List.pairwise_cons.1 hF
    have ha : (a, m) ∈ (b, n) :: F := (look_mem hF).1 (by rw [← h a]; simp [lookE])
    have hb : (b, n) ∈ (a, m) :: E := (look_mem hE).1 (by rw [h b]; simp [lookE])
    have hab : (a, m) = (b, n) := by
      rcases List.mem_cons.1 ha with q | q
      · exact q
      · rcases List.mem_cons.1 hb with r | r
        · exact r.symm
        · have q1 : b < a := f1 _ q
          have q2 : a < b := e1 _ r
          omega
    cases hab
    congr 1
    refine asc_ext e2 f2 fun k => ?_
    have hk := h k
    simp only [lookE] at hk
    by_cases e : a = k
    · rw [look_none (fun p hp => by have : a < p.1 := e1 p hp; omega), look_none (fun p hp => by have : a < p.1 := f1 p hp; omega)]
    · rw [if_neg e, if_neg e] at hk; exact hk
theorem merge_asc : ∀ {F E : List (Int × L)}, Asc E → Asc (mergeE E F)
  | [], _, h => h
  | p :: F, E, h => merge_asc (F := F) (putE_asc h)
theorem look_merge {k : Int} : ∀ {F E : List (Int × L)}, Asc E → Asc F → lookE (mergeE E F) k = match lookE F k with | some l => some l | none => lookE E k
  | [], _, _, _ => rfl
  | (a, m) :: F, E, hE, hF => by
    obtain ⟨f1, f2⟩ := List.pairwise_cons.1 hF
    show lookE (mergeE (putE E a m) F) k = _
    rw [look_merge (putE_asc hE) f2, look_put hE]
    simp only [lookE]
    by_cases e : a = k
    · rw [if_pos e, if_pos e, look_none fun p hp => by have : a < p.1 := f1 p hp; omega]
    · rw [if_neg e, if_neg e]
theorem putE_len (k : Int) (l : L) : ∀ E : List (Int × L), (putE E k l).length ≤ E.length + 1
  | [] => by simp [putE]
  | (a, m) :: E => by
    unfold putE
    split
    · simp
    · split
      · simp
      · have := putE_len k l E
        simp only [List.length_cons]
        omega
theorem merge_len : ∀ F E : List (Int × L), (mergeE E F).length ≤ E.length + F.length
  | [], E => by simp [mergeE]
  | p :: F, E => by
    have := merge_len F (putE E p.1 p.2)
    have h2 := putE_len p.1 p.2 E
    show (mergeE (putE E p.1 p.2) F).length ≤ _
    simp only [List.length_cons]
    omega
/-- A key above all others goes to the end. -/
theorem putE_end {k : Int} {l : L} : ∀ {E : List (Int × L)}, (∀ p ∈ E, p.1 < k) → putE E k l = E ++ [(k, l)]
  | [], _ => rfl
  | (a, m) :: E, h => by
    have h1 : a < k := h (a, m) (by simp)
    unfold putE
    rw [if_neg (by omega), if_neg (by omega), putE_end fun p hp => h p (by simp [hp])]
    rfl

/-! ### The kit's data -/
variable (enc : L → Value)
def ent (p : Int × L) : Lit × DataW Value := (.int .i64 p.1, .held (enc p.2))
def dm (E : List (Int × L)) : DataW Value := .map (E.map (ent enc))
theorem same_int (a b : Int) : (Lit.int .i64 a).sameKey (.int .i64 b) = decide (a = b) := by simp [Lit.sameKey]
theorem before_int (a b : Int) : (Lit.int .i64 a).before (.int .i64 b) = decide (a < b) := by simp [Lit.before]
theorem filt_gt {k : Int} : ∀ {E : List (Int × L)}, (∀ p ∈ E, p.1 ≠ k) → (E.map (ent enc)).filter (fun p => !p.1.sameKey (.int .i64 k)) = E.map (ent enc)
  | [], _ => rfl
  | p :: E, h => by
    rw [List.map_cons, List.filter_cons_of_pos (by simp [ent, same_int, h p (by simp)]), filt_gt fun q hq => h q (by simp [hq])]
theorem dm_put {k : Int} {l : L} : ∀ {E : List (Int × L)}, Asc E → (dm enc E).put (.int .i64 k) (.held (enc l)) = dm enc (putE E k l)
  | [], _ => rfl
  | (a, m) :: E, h => by
    obtain ⟨h1, h2⟩ := List.pairwise_cons.1 h
    have ih := dm_put (k := k) (l := l) h2
    unfold dm DataW.put at ih ⊢
    simp only [DataW.map.injEq] at ih ⊢
    unfold putE
    by_cases e : k = a
    · subst e
      rw [if_neg (by omega), if_pos rfl, List.map_cons, List.filter_cons_of_neg (by simp [ent, same_int]), filt_gt enc fun p hp => by have : k < p.1 := h1 p hp; omega]
      cases E with
      | nil => rfl
      | cons q E =>
        have : k < q.1 := h1 q (by simp)
        rw [List.map_cons]
        unfold DataW.insert
        rw [if_pos (by simp [ent, before_int, this])]
        rfl
    · rw [List.map_cons, List.filter_cons_of_pos (by simp [ent, same_int]; omega)]
      unfold DataW.insert
      by_cases g : k < a
      · rw [if_pos g, if_pos (by simp [ent, before_int, g]), filt_gt enc fun p hp => by have : a < p.1 := h1 p hp; omega]
        rfl
      · rw [if_neg g, if_neg e, if_neg (by simp [ent, before_int]; omega), ih]
        rfl
theorem dm_has (E : List (Int × L)) (k : Int) : Maps.has (dm enc E) (.int .i64 k) = (lookE E k).isSome := by
  unfold dm
  rw [Maps.has_eq]
  induction E with
  | nil => rfl
  | cons p E ih =>
    obtain ⟨a, m⟩ := p
    rw [List.map_cons, List.any_cons, ih]
    simp only [lookE, ent, same_int]
    by_cases e : a = k <;> simp [e]
theorem dm_at {k : Int} (z : DataW Value) : ∀ (E : List (Int × L)), (dm enc E).atKey (.int .i64 k) z = match lookE E k with | some l => .held (enc l) | none => z
  | [] => rfl
  | (a, m) :: E => by
    have ih := dm_at z E (k := k)
    unfold dm DataW.atKey at ih ⊢
    simp only [List.map_cons, List.find?_cons, ent, same_int, lookE]
    by_cases e : a = k
    · simp [e]
    · simp only [e, decide_false, if_false]
      exact ih
theorem dm_size (E : List (Int × L)) : Maps.size (dm enc E) = E.length := by simp [dm, Maps.size_eq]
theorem dm_keys (E : List (Int × L)) : intKeys (dm enc E) = E.map (·.1) := by
  show (E.map (ent enc)).map _ = _
  rw [List.map_map]
  rfl
theorem dm_merge : ∀ (F E : List (Int × L)), Asc E → Lib.mergeD (dm enc E) (dm enc F) = dm enc (mergeE E F)
  | [], _, _ => rfl
  | p :: F, E, h => by
    have := dm_merge F (putE E p.1 p.2) (putE_asc h)
    show List.foldl (fun D (p : Lit × DataW Value) => D.put p.1 p.2) ((dm enc E).put (.int .i64 p.1) (.held (enc p.2))) (F.map (ent enc)) = _
    rw [dm_put enc h]
    exact this
end
end Go.Tk
/- Tables of patches, in a world. -/
set_option linter.unusedSimpArgs false
set_option linter.unusedVariables false
set_option linter.unnecessarySimpa false
namespace Go.Tk
open Go Go.RowKit

def lnV (l : Lin) : Value := .agg #[.int .i64 l.1, .int .i64 l.2.1, .int .i64 l.2.2.1, .int .i64 l.2.2.2.1]
def edV (e : Edt) : Value := .agg #[.int .i64 e.1, .int .i64 e.2.1.1, .int .i64 e.2.1.2.1, .int .i64 e.2.1.2.2.1, .int .i64 e.2.1.2.2.2.1]
def inL (l : Lin) : Prop := inI l.1 ∧ inI l.2.1 ∧ inI l.2.2.1 ∧ inI l.2.2.2.1
theorem lnV_inj {a b : Lin} (h : lnV a = lnV b) : a = b := by
  obtain ⟨a1, a2, a3, a4, ⟨⟩⟩ := a
  obtain ⟨b1, b2, b3, b4, ⟨⟩⟩ := b
  simp [lnV] at h
  obtain ⟨rfl, rfl, rfl, rfl⟩ := h
  rfl
/-- How a line reads. -/
def encR (v : Value) : Option (DataW Value × List MemPlace) := match v with
  | .agg ⟨[.int .i64 a, .int .i64 b, .int .i64 c, .int .i64 d]⟩ => if (-9223372036854775808 ≤ a ∧ a ≤ 9223372036854775807) ∧ (-9223372036854775808 ≤ b ∧ b ≤ 9223372036854775807) ∧ (-9223372036854775808 ≤ c ∧ c ≤ 9223372036854775807) ∧ (-9223372036854775808 ≤ d ∧ d ≤ 9223372036854775807) then some (.held v, []) else none
  | _ => none
theorem encR_ln {l : Lin} (h : inL l) : encR (lnV l) = some (.held (lnV l), []) := by
  obtain ⟨h1, h2, h3, h4⟩ := h
  unfold inI at h1 h2 h3 h4
  simp only [encR, lnV]
  rw [if_pos ⟨h1, h2, h3, h4⟩]
theorem encR_inv {v : Value} {y : DataW Value × List MemPlace} (h : encR v = some y) : ∃ l : Lin, inL l ∧ v = lnV l ∧ y = (.held (lnV l), []) := by
  unfold encR at h
  split at h
  · rename_i a b c d
    split at h
    · rename_i hb
      cases h
      exact ⟨(a, b, c, d, ()), by unfold inL inI; exact hb, rfl, rfl⟩
    · cases h
  · cases h
theorem key_wf {n : Int} (h : inI n) : (Lit.int .i64 n).wf = true := by
  unfold inI at h
  have e1 : IntKind.i64.min = -9223372036854775808 := by decide
  have e2 : IntKind.i64.max = 9223372036854775807 := by decide
  show (decide (IntKind.i64.min ≤ n) && decide (n ≤ IntKind.i64.max)) = true
  rw [e1, e2, Bool.and_eq_true, decide_eq_true_eq, decide_eq_true_eq]
  exact h
theorem kI_u : Go.Proofs.Try.prog.underlying 3 = some (.int .i64) := by kernel_rfl
theorem tT_u : Go.Proofs.Try.prog.underlying 114 = some (.map 3 46) := by kernel_rfl
theorem kI : Maps.Keyed Go.Proofs.Try.prog 3 := Maps.int_keyed kI_u
theorem key_mk {n : Int} (h : inI n) : keyOf Go.Proofs.Try.prog 3 (.int .i64 n) = some (.int .i64 n) := Maps.keyOf_int_mk kI_u (key_wf h)

/-- Block b is the table E. -/
structure ownsT (w : World) (b : Nat) (E : List (Int × Lin)) : Prop where
  own : w.ownsMap Go.Proofs.Try.prog 3 encR b E.length (dm lnV E)
  asc : Asc E
  ok : ∀ p ∈ E, inI p.1 ∧ inL p.2
theorem own_tight {w : World} {b n : Nat} {E : List (Int × Lin)} (h : w.ownsMap Go.Proofs.Try.prog 3 encR b n (dm lnV E)) : w.ownsMap Go.Proofs.Try.prog 3 encR b E.length (dm lnV E) := by
  obtain ⟨es, clock, hb, F, hs, hD⟩ := h
  refine ⟨es, clock, hb, F, ?_, hD⟩
  have := congrArg Maps.size hD
  rw [dm_size] at this
  rw [this, Maps.size_eq, length_read]
  exact Nat.le_refl _
theorem ownsT_new (w : World) : ownsT (w.alloc (.map #[] 0)) w.heap.size [] := ⟨World.ownsMap_made w _ _ _, List.Pairwise.nil, by simp⟩
theorem ownsT.kept {w w' : World} {b : Nat} {E : List (Int × Lin)} (h : ownsT w b E) (hb : w'.heap[b]? = w.heap[b]?) : ownsT w' b E := by
  obtain ⟨⟨es, clock, h1, h2⟩, h3, h4⟩ := h
  exact ⟨⟨es, clock, hb.trans h1, h2⟩, h3, h4⟩
theorem ownsT.lt {w : World} {b : Nat} {E : List (Int × Lin)} (h : ownsT w b E) : b < w.heap.size := h.own.lt
theorem ownsT.put {w : World} {b : Nat} {E : List (Int × Lin)} (h : ownsT w b E) (hn : E.length ≤ 1000000) {k : Int} {l : Lin} (hk : inI k) (hl : inL l) :
    ∃ w', (Instr.mapUpdate 114 (.map (some b)) (.int .i64 k) (lnV l)).run Go.Proofs.Try.prog w = .ok () w' ∧ ownsT w' b (putE E k l) ∧ w.grownBy w' (some b) := by
  obtain ⟨w', hr, h1, h2⟩ := h.own.update kI tT_u (by unfold maxLen; omega) (key_mk hk) (encR_ln hl)
  rw [dm_put lnV h.asc] at h1
  refine ⟨w', hr, ⟨own_tight h1, putE_asc h.asc, fun p hp => ?_⟩, h2⟩
  rcases putE_val hp with rfl | hp
  · exact ⟨hk, hl⟩
  · exact h.ok p hp
theorem ownsT.len {w : World} {b : Nat} {E : List (Int × Lin)} (h : ownsT w b E) (ty : TypeId) : (Builtin.len_ #[114] ty #[.map (some b)]).run Go.Proofs.Try.prog w = .ok (.int .i64 E.length) w := by
  have := h.own.len tT_u ty
  rwa [dm_size] at this
def zL : Lin := (0, 0, 0, 0, ())
theorem zL_run (w : World) : (zeroValue 46).run Go.Proofs.Try.prog w = .ok (lnV zL) w := by kernel_rfl
theorem zL_in : inL zL := by unfold inL inI zL; decide
theorem ownsT.look {w : World} {b : Nat} {E : List (Int × Lin)} (h : ownsT w b E) {k : Int} (hk : inI k) :
    (Instr.lookup 114 (.map (some b)) (.int .i64 k) false).run Go.Proofs.Try.prog w = .ok (lnV ((lookE E k).getD zL)) w := by
  obtain ⟨v, ps, hr, hv⟩ := h.own.lookup kI tT_u (zL_run w) (encR_ln zL_in) (key_mk hk)
  obtain ⟨l, hl, rfl, e⟩ := encR_inv hv
  rw [dm_at] at e
  rw [hr]
  have e := congrArg Prod.fst e
  simp only at e
  cases hx : lookE E k with
  | none =>
    rw [hx] at e
    cases lnV_inj (DataW.held.inj e)
    rfl
  | some m =>
    rw [hx] at e
    cases lnV_inj (DataW.held.inj e)
    rfl
theorem ownsT.look_ok {w : World} {b : Nat} {E : List (Int × Lin)} (h : ownsT w b E) {k : Int} (hk : inI k) :
    (Instr.lookup 114 (.map (some b)) (.int .i64 k) true).run Go.Proofs.Try.prog w = .ok (.tuple #[lnV ((lookE E k).getD zL), .bool (lookE E k).isSome]) w := by
  obtain ⟨v, ps, hr, hv⟩ := h.own.look_ok kI tT_u (zL_run w) (encR_ln zL_in) (key_mk hk)
  obtain ⟨l, hl, rfl, e⟩ := encR_inv hv
  rw [dm_at] at e
  rw [hr, dm_has]
  have e := congrArg Prod.fst e
  simp only at e
  cases hx : lookE E k with
  | none =>
    rw [hx] at e
    cases lnV_inj (DataW.held.inj e)
    rfl
  | some m =>
    rw [hx] at e
    cases lnV_inj (DataW.held.inj e)
    rfl
end Go.Tk
/- Plain facts of layer 4: a patch as a table. No program in sight. -/
set_option linter.unusedSimpArgs false
set_option linter.unusedVariables false
set_option linter.unnecessarySimpa false
namespace Go.Tk
open Go Go.RowKit
def readE (x : List Edt) : List (Int × Lin) := x.map fun e => (e.1, e.2.1)
def inX (n : Nat) (x : List Edt) : Prop := ∀ e ∈ x, 0 ≤ e.1 ∧ e.1 < n
theorem look_in {E : List (Int × Lin)} {k : Int} {l : Lin} : lookE E k = some l → (k, l) ∈ E := by
  induction E with
  | nil => intro h; cases h
  | cons p E ih =>
    obtain ⟨a, m⟩ := p
    intro h
    unfold lookE at h
    split at h
    · rename_i e
      subst e
      cases h
      simp
    · simp [ih h]
theorem play_look : ∀ (x : List Edt) (p : List Lin) (i : Nat) (d : Lin), Asc (readE x) → inX p.length x → i < p.length → (playX p x).getD i d = match lookE (readE x) i with | some l => l | none => p.getD i d
  | [], _, _, _, _, _, _ => rfl
  | e :: x, p, i, d, ha, hx, hi => by
    obtain ⟨h1, h2⟩ := List.pairwise_cons.1 ha
    have he := hx e (by simp)
    have ih := play_look x (p.set e.1.toNat e.2.1) i d h2 (fun q hq => by rw [List.length_set]; exact hx q (by simp [hq])) (by rw [List.length_set]; exact hi)
    show (playX (p.set e.1.toNat e.2.1) x).getD i d = match lookE ((e.1, e.2.1) :: readE x) i with | some l => l | none => p.getD i d
    rw [ih, show lookE ((e.1, e.2.1) :: readE x) i = if e.1 = (i : Int) then some e.2.1 else lookE (readE x) i from rfl]
    by_cases g : e.1 = (i : Int)
    · rw [if_pos g, look_none fun q hq => by have : e.1 < q.1 := h1 q hq; omega]
      simp only
      rw [show e.1.toNat = i by omega, List.getD_eq_getElem?_getD, List.getElem?_set_self hi]
      rfl
    · rw [if_neg g]
      have : (p.set e.1.toNat e.2.1).getD i d = p.getD i d := by
        rw [List.getD_eq_getElem?_getD, List.getElem?_set_ne (by omega), ← List.getD_eq_getElem?_getD]
      rw [this]
end Go.Tk
/- patch.read. -/
set_option linter.unusedSimpArgs false
set_option linter.unusedVariables false
set_option linter.unnecessarySimpa false
set_option maxRecDepth 10000
set_option maxHeartbeats 4000000
namespace Go.Tk
open Go Go.RowKit

/-! ### The elements of a patch -/
abbrev tX : T := .sl tEd
def inE (e : Edt) : Prop := inI e.1 ∧ inL e.2.1
theorem ed_cs {w : World} {S : Nat → Prop} {e : Edt} {cs : List Value} (h : (reps Go.Proofs.Try.prog tEd).c w S e cs) : cs = [.int .i64 e.1, .int .i64 e.2.1.1, .int .i64 e.2.1.2.1, .int .i64 e.2.1.2.2.1, .int .i64 e.2.1.2.2.2.1] ∧ inE e := by
  obtain ⟨c1, c2, rfl, ⟨rfl, h1⟩, c3, c4, rfl, ⟨d1, d2, rfl, ⟨rfl, h2⟩, d3, d4, rfl, ⟨rfl, h3⟩, d5, d6, rfl, ⟨rfl, h4⟩, d7, d8, rfl, ⟨rfl, h5⟩, h6⟩, h7⟩ := h
  have e8 : d8 = [] := h6
  have e4 : c4 = [] := h7
  subst e8
  subst e4
  exact ⟨rfl, h1, h2, h3, h4, h5⟩
theorem repL_nth {α : Type} {R : α → List Value → Prop} {n : Nat} (d : α) (hn : ∀ x cs, R x cs → cs.length = n) : ∀ (xs : List α) (cs : List Value) (i : Nat), repL R xs cs → i < xs.length → R (xs.getD i d) ((cs.drop (i * n)).take n)
  | [], _, _, _, hi => by simp at hi
  | x :: xs, cs, 0, ⟨c1, c2, e, h1, h2⟩, _ => by
    have := hn _ _ h1
    subst e
    rw [Nat.zero_mul, List.drop_zero, List.take_left' this]
    exact h1
  | x :: xs, cs, i + 1, ⟨c1, c2, e, h1, h2⟩, hi => by
    have h3 := hn _ _ h1
    subst e
    have := repL_nth d hn xs c2 i h2 (by simpa using hi)
    have e : (c1 ++ c2).drop ((i + 1) * n) = c2.drop (i * n) := by
      rw [show (i + 1) * n = c1.length + i * n by rw [h3, Nat.add_mul]; omega]
      simp
    rw [e]
    exact this
theorem cell_same {W w : World} {b o : Nat} (h : W.heap[b]? = w.heap[b]?) : W.cell? ⟨b, o, none⟩ = w.cell? ⟨b, o, none⟩ := by
  simp only [World.cell?]; rw [h]
theorem ed_load {w : World} {S : Nat → Prop} {x : List Edt} {xv : Value} (h : (reps Go.Proofs.Try.prog tX).c w S x [xv]) : ∃ ao cap, xv = .slice ao x.length cap ∧ x.length ≤ 140737488355328 ∧ (∀ e ∈ x, inE e) ∧ (x ≠ [] → ∃ b off, ao = some ⟨b, off, none⟩ ∧ b < w.heap.size ∧ (∀ i : Nat, i < x.length → ∀ W : World,
    (Instr.indexAt 41 xv (.int .i64 i)).run Go.Proofs.Try.prog W = .ok (.pointer (some ⟨b, off + i * 5, none⟩)) W) ∧ (∀ i : Nat, i < x.length → ∀ W : World, W.heap[b]? = w.heap[b]? → ∃ e, e = x.getD i tEd.dflt ∧
    W.cell? ⟨b, off + i * 5, none⟩ = some (.int .i64 e.1) ∧ W.cell? ⟨b, off + i * 5 + 1, none⟩ = some (.int .i64 e.2.1.1) ∧ W.cell? ⟨b, off + i * 5 + 2, none⟩ = some (.int .i64 e.2.1.2.1) ∧ W.cell? ⟨b, off + i * 5 + 3, none⟩ = some (.int .i64 e.2.1.2.2.1) ∧ W.cell? ⟨b, off + i * 5 + 4, none⟩ = some (.int .i64 e.2.1.2.2.2.1))) := by
  obtain ⟨v, e, ao, cap, rfl, h1, h2, h3⟩ := h
  cases e
  have h3 : x = [] ∨ ∃ b off cs, ao = some ⟨b, off, none⟩ ∧ S b ∧ b < w.heap.size ∧ cellsAt w b off cs ∧ repL ((reps Go.Proofs.Try.prog tEd).c w S) x cs := h3
  have hn : ∀ (e : Edt) cs, (reps Go.Proofs.Try.prog tEd).c w S e cs → cs.length = 5 := fun e cs h => by rw [(ed_cs h).1]; rfl
  refine ⟨ao, cap, rfl, h2, fun e he => ?_, fun hne => ?_⟩
  · rcases h3 with rfl | ⟨b, off, cs, _, _, _, _, h4⟩
    · cases he
    · obtain ⟨i, hi, ei⟩ := List.mem_iff_getElem.1 he
      have := (ed_cs (repL_nth tEd.dflt hn x cs i h4 hi)).2
      rw [List.getD_eq_getElem?_getD, List.getElem?_eq_getElem hi] at this
      rw [← ei]; exact this
  · rcases h3 with rfl | ⟨b, off, cs, rfl, _, hb, hc, h4⟩
    · exact absurd rfl hne
    · refine ⟨b, off, rfl, hb, fun i hi W => ?_, fun i hi W hW => ⟨_, rfl, ?_⟩⟩
      · have hty : (tys Go.Proofs.Try.prog tX).ty 41 := (tyB_ok Go.Proofs.Try.prog tX).1 41 (by kernel_rfl)
        obtain ⟨e, t1, t2⟩ := ty_sl hty
        have := run_index_sl (w := W) t1 t2 (b := b) (off := off) (len := x.length) (cap := cap) (n := (i : Int)) (by omega) (by omega)
        rw [Int.toNat_natCast] at this
        exact this
      · have h5 := (ed_cs (repL_nth tEd.dflt hn x cs i h4 hi)).1
        have key : ∀ j v, j < 5 → ((cs.drop (i * 5)).take 5)[j]? = some v → W.cell? ⟨b, off + i * 5 + j, none⟩ = some v := by
          intro j v hj e
          rw [List.getElem?_take, if_pos hj, List.getElem?_drop] at e
          have := hc _ _ e
          rw [cell_same hW, Nat.add_assoc]
          exact this
        exact ⟨key 0 _ (by omega) (by rw [h5]; rfl), key 1 _ (by omega) (by rw [h5]; rfl), key 2 _ (by omega) (by rw [h5]; rfl), key 3 _ (by omega) (by rw [h5]; rfl), key 4 _ (by omega) (by rw [h5]; rfl)⟩

end Go.Tk
/- maps.Copy at tables of patches. -/
set_option linter.unusedSimpArgs false
set_option linter.unusedVariables false
set_option linter.unnecessarySimpa false
set_option maxRecDepth 10000
set_option maxHeartbeats 400000
namespace Go.Tk
open Go Go.RowKit
theorem arr16 (x : Array Value) (h : x.size = 16) : ∃ x0 x1 x2 x3 x4 x5 x6 x7 x8 x9 x10 x11 x12 x13 x14 x15 : Value, x = #[x0, x1, x2, x3, x4, x5, x6, x7, x8, x9, x10, x11, x12, x13, x14, x15] := by
  obtain ⟨l⟩ := x
  match l, h with
  | [x0, x1, x2, x3, x4, x5, x6, x7, x8, x9, x10, x11, x12, x13, x14, x15], _ => exact ⟨_, _, _, _, _, _, _, _, _, _, _, _, _, _, _, _, rfl⟩
/-- What comes out of the ranging. -/
theorem next_ent {w : World} {b r n : Nat} {E : List (Int × Lin)} {left : Lit → Bool} {cnt : Nat} (hok : ∀ p ∈ E, inI p.1 ∧ inL p.2) (h : w.ranges Go.Proofs.Try.prog 3 encR b r n (dm lnV E) left cnt) (ty : TypeId) :
    (cnt = 0 ∧ (∀ kl, left kl = false) ∧ (Instr.next (.pointer (some ⟨r, 0, none⟩)) false ty).run Go.Proofs.Try.prog w = .ok (.tuple #[.bool false]) w) ∨
    ∃ (k : Int) (l : Lin) (w' : World) (cnt' : Nat), lookE E k = some l ∧ (k, l) ∈ E ∧ inI k ∧ inL l ∧ (Instr.next (.pointer (some ⟨r, 0, none⟩)) false ty).run Go.Proofs.Try.prog w = .ok (.tuple #[.bool true, .int .i64 k, .agg #[.int .i64 l.1, .int .i64 l.2.1, .int .i64 l.2.2.1, .int .i64 l.2.2.2.1]]) w' ∧
      w'.ranges Go.Proofs.Try.prog 3 encR b r n (dm lnV E) (fun z => left z && !z.sameKey (.int .i64 k)) cnt' ∧ cnt' < cnt ∧ w.grownBy w' (some r) ∧ w'.heap.size = w.heap.size ∧
      (Instr.entry (.pointer (some ⟨r, 0, none⟩))).run Go.Proofs.Try.prog w' = .ok (.tuple #[.int .i64 k, .agg #[.int .i64 l.1, .int .i64 l.2.1, .int .i64 l.2.2.1, .int .i64 l.2.2.2.1]]) w' := by
  rcases h.next kI ty with h | ⟨key, v, kl, y, Wn, cnt', hkey, hlk, hv, hat, hrun, hrg', hlt, hgr, hsz', hen⟩
  · exact .inl h
  · obtain ⟨k, rfl, rfl, hkw⟩ := Maps.keyOf_int_inv kI_u hkey
    obtain ⟨l, hl, rfl, rfl⟩ := encR_inv hv
    have hkl : lookE E k = some l := by
      have := hat .nil
      rw [dm_at] at this
      cases hlk : lookE E k with
      | none => rw [hlk] at this; cases this
      | some m =>
        rw [hlk] at this
        have := lnV_inj (DataW.held.inj this)
        rw [this]
    exact .inr ⟨k, l, Wn, cnt', hkl, look_in hkl, (hok _ (look_in hkl)).1, hl, hrun, hrg', hlt, hgr, hsz', hen⟩
theorem ranges_kept {w w' : World} {b r n : Nat} {D : DataW Value} {left : Lit → Bool} {cnt : Nat} (h : w.ranges Go.Proofs.Try.prog 3 encR b r n D left cnt) (h1 : w'.heap[b]? = w.heap[b]?) (h2 : w'.heap[r]? = w.heap[r]?) : w'.ranges Go.Proofs.Try.prog 3 encR b r n D left cnt := by
  obtain ⟨es, cl, sn, se, c0, g1, F, hs, hD, g2, rest⟩ := h
  exact ⟨es, cl, sn, se, c0, h1.trans g1, F, hs, hD, h2.trans g2, rest⟩
end Go.Tk
/- The keys of a table, sorted. -/
set_option linter.unusedSimpArgs false
set_option linter.unusedVariables false
set_option linter.unnecessarySimpa false
namespace Go.Proofs
open Go.RowKit Go.Maps Go.Sort Go.Shelf
shelf_lay_g SlLaysM.n5 Slgm 5 at Try 144 as Try.sortI
shelf_lay_g SlLaysZI.n7 Ggz 7 at Try 137 as Try.keysA
shelf_lay_g SlLaysZI.n6 Ggz 6 at Try 136 as Try.sortedA
theorem Try.sortsA (m : Nat) : AnyZI.SortsIn Try.prog Try.sortedA_ren Fence.wide m :=
  ⟨fun blk off cap ss W hH hblk hsz => callsIn_wide.2 (AnyM.slices_Sort_int Try.sortI blk off cap ss W hH hblk hsz),
   fun p cap W => callsIn_wide.2 (AnyM.slices_Sort_int_none Try.sortI p cap W)⟩
end Go.Proofs
namespace Go.Tk
open Go Go.RowKit Go.Maps Go.Sort
theorem ints_rep {P : Program} {w : World} {S : Nat → Prop} : ∀ {xs : List Int}, (∀ x ∈ xs, inI x) → repL ((reps P .int).c w S) xs (xs.map (Value.int .i64))
  | [], _ => rfl
  | x :: xs, h => ⟨[.int .i64 x], xs.map (Value.int .i64), rfl, ⟨rfl, h x (by simp)⟩, ints_rep fun y hy => h y (by simp [hy])⟩
theorem sort_keys {E : List (Int × Lin)} (ha : Asc E) {ss : List Int} (h : ss.Perm (E.map (·.1))) : ss.mergeSort (fun x y => decide (x ≤ y)) = E.map (·.1) := by
  have h1 : (ss.mergeSort fun x y => decide (x ≤ y)).Pairwise fun x y => decide (x ≤ y) = true := List.pairwise_mergeSort (fun a b c h1 h2 => by simp at *; omega) (fun a b => by simp; omega) _
  have h2 : (E.map (·.1)).Pairwise fun x y => decide (x ≤ y) = true := List.Pairwise.map _ (fun a b (h : a.1 < b.1) => by simp; omega) ha
  refine List.Perm.eq_of_pairwise (fun a b _ _ p q => ?_) h1 h2 ((List.mergeSort_perm ..).trans h)
  simp at p q; omega
theorem keys_call {w : World} {b : Nat} : Calls Go.Proofs.Try.prog 137 #[.map (some b)] w fun e w' => e = .returned (.func (.func 145) #[] #[.pointer (some ⟨w.heap.size, 0, none⟩)]) ∧ w' = w.alloc (.cells #[.map (some b)] 114) :=
  callsIn_wide.1 (Go.Proofs.AnyZI.keys_in Go.Proofs.Try.keysA Fence.wide 5 trivial rfl (some b) w)
theorem sorted_call {w : World} {b : Nat} {E : List (Int × Lin)} (h : ownsT w b E) (hl : E.length ≤ 1000) : Calls Go.Proofs.Try.prog 136 #[.func (.func 145) #[] #[.pointer (some ⟨w.heap.size, 0, none⟩)]] (w.alloc (.cells #[.map (some b)] 114)) fun e w' =>
    ∃ v, e = .returned v ∧ (reps Go.Proofs.Try.prog (.sl .int)).c w' (fun k => w.heap.size ≤ k) (E.map (·.1)) [v] ∧ Below w.heap.size w w' := by
  have hbl := h.lt
  have hseq : SeqGives Fence.wide 2 Go.Proofs.Try.prog 145 #[.pointer (some ⟨w.heap.size, 0, none⟩)] encZ (fun ss => ss.Perm (intKeys (dm lnV E))) (Maps.size (dm lnV E)) (w.alloc (.cells #[.map (some b)] 114)) :=
    Go.Proofs.AnyZI.keys_gives (ρ := Go.Proofs.Try.keysA_ren) { Go.Proofs.Try.keysA with } Fence.wide _ trivial rfl (by omega) w.heap.size b _ _ _ (by simp) (by simp) (h.kept (Below.heap_alloc _ _ b hbl)).own
  have cS := Go.Proofs.AnyZI.sorted_in Go.Proofs.Try.sortedA Fence.wide 5 trivial trivial trivial trivial rfl (by omega) (Go.Proofs.Try.sortsA _) (Go.Proofs.enters_of Go.Proofs.Try.func144 (by kernel_rfl) rfl) 145 #[.pointer (some ⟨w.heap.size, 0, none⟩)] trivial (Go.Proofs.enters_of Go.Proofs.Try.func145 (by kernel_rfl) rfl) _ _ (by rw [dm_size]; unfold maxLen; omega) (by rw [dm_size]; omega) _ hseq
  refine (callsIn_wide.1 cS).mono ?_
  rintro e w' ⟨v, ss, rfl, hS, hrow, hnil, hb⟩
  rw [dm_keys] at hS
  rw [sort_keys h.asc hS] at hrow
  have hlen := hS.length_eq
  have hsz : (w.alloc (.cells #[.map (some b)] 114)).heap.size = w.heap.size + 1 := by simp
  rw [hsz] at hrow hb
  refine ⟨v, rfl, ⟨v, rfl, ?_⟩, ((Below.refl _ w).alloc (Nat.le_refl _) _).trans (hb.mono (by omega))⟩
  have hin : ∀ x ∈ E.map (·.1), inI x := fun x hx => by
    obtain ⟨p, hp, rfl⟩ := List.mem_map.1 hx
    exact (h.ok p hp).1
  have hEl : (E.map (·.1)).length = E.length := List.length_map ..
  obtain ⟨_, ⟨rfl, h0⟩ | ⟨g, cap, cur, rfl, g1, g2, g3, g4, g5, g6⟩⟩ := hrow
  · have : E.map (·.1) = [] := List.length_eq_zero_iff.1 (by omega)
    rw [this]
    exact ⟨none, 0, rfl, Nat.le_refl _, by simp, .inl rfl⟩
  · refine ⟨some ⟨g, 0, none⟩, cap, by rw [hEl, hlen, hEl], by omega, by omega, .inr ⟨g, 0, (E.map (·.1)).map (Value.int .i64), rfl, show w.heap.size ≤ g by omega, (Array.getElem?_eq_some_iff.1 g2).1, ?_, ints_rep hin⟩⟩
    intro j u hj
    have hj2 : (cur.toList.take (ss.length * 1))[j]? = some u := by rw [g6]; exact hj
    rw [List.getElem?_take] at hj2
    split at hj2
    · simp only [World.cell?, g2, Nat.zero_add]
      simpa using hj2
    · cases hj2
end Go.Tk
/- patch.do. -/
set_option linter.unusedSimpArgs false
set_option linter.unusedVariables false
set_option linter.unnecessarySimpa false
set_option maxRecDepth 10000
set_option maxHeartbeats 400000
namespace Go.Tk
open Go Go.RowKit
theorem arr27 (x : Array Value) (h : x.size = 27) : ∃ x0 x1 x2 x3 x4 x5 x6 x7 x8 x9 x10 x11 x12 x13 x14 x15 x16 x17 x18 x19 x20 x21 x22 x23 x24 x25 x26 : Value, x = #[x0, x1, x2, x3, x4, x5, x6, x7, x8, x9, x10, x11, x12, x13, x14, x15, x16, x17, x18, x19, x20, x21, x22, x23, x24, x25, x26] := by
  obtain ⟨l⟩ := x
  match l, h with
  | [x0, x1, x2, x3, x4, x5, x6, x7, x8, x9, x10, x11, x12, x13, x14, x15, x16, x17, x18, x19, x20, x21, x22, x23, x24, x25, x26], _ => exact ⟨_, _, _, _, _, _, _, _, _, _, _, _, _, _, _, _, _, _, _, _, _, _, _, _, _, _, _, rfl⟩
abbrev tP : T := .sl tL
theorem lk_key {α : Type _} : ∀ {E : List (Nat × α)} {t : Nat} {U : α}, lk E t = some U → t ∈ E.map (·.1)
  | [], _, _, h => by cases h
  | (k, v) :: E, t, U, h => by
    simp only [lk] at h
    split at h
    · rename_i e
      have : k = t := Nat.eq_of_beq_eq_true e
      simp [this]
    · simp [lk_key h]
theorem noIt1 {E : List (Nat × V)} {k0 : Nat} {f : Bool} {t : T} {xs : List t.den} : ∀ k g l, (mkSt (E, [(k0, .sl f t xs)])).loc k = some (g, l) → l.isIt = false := by
  intro k g l h
  have h := (mkLoc_some h).2
  simp only [lk] at h
  split at h
  · cases h; rfl
  · cases h
def kv16 (r : Nat) : Nat → Option Value := fun t => if t = 16 then some (.pointer (some ⟨r, 0, none⟩)) else none
theorem kv16_at {r t : Nat} {v : Value} (h : kv16 r t = some v) : t = 16 ∧ v = .pointer (some ⟨r, 0, none⟩) := by
  unfold kv16 at h
  split at h
  · rename_i e; cases h; exact ⟨e, rfl⟩
  · cases h
theorem kv16_no {r t : Nat} (h : t ≠ 16) : kv16 r t = none := by unfold kv16; rw [if_neg h]
end Go.Tk
/- Plain facts of layer 4: valid patches ascend. No program in sight. -/
set_option linter.unusedSimpArgs false
set_option linter.unusedVariables false
set_option linter.unnecessarySimpa false
namespace Go.Tk
open Go Go.RowKit
theorem adj_pair : ∀ (l : List Int), (∀ i, i + 1 < l.length → l.getD i 0 < l.getD (i + 1) 0) → l.Pairwise (· < ·)
  | [], _ => .nil
  | [a], _ => by simp
  | a :: b :: l, h => by
    have ih := adj_pair (b :: l) fun i hi => by
      have := h (i + 1) (by simp at hi ⊢; omega)
      simpa using this
    have hab : a < b := by have := h 0 (by simp); simpa using this
    refine List.pairwise_cons.2 ⟨fun c hc => ?_, ih⟩
    rcases List.mem_cons.1 hc with rfl | hc
    · exact hab
    · have := (List.pairwise_cons.1 ih).1 c hc
      omega
theorem validX_asc {x : List Edt} (h : validX x = 0) : Asc (readE x) := by
  unfold validX at h
  split at h
  · omega
  · have ha := okTo_at _ (argErr_zero.1 h)
    have key : (x.map (·.1)).Pairwise (· < ·) := by
      refine adj_pair _ fun i hi => ?_
      rw [List.length_map] at hi
      have g := ha (i + 1) hi
      unfold edOK at g
      simp only [Nat.add_sub_cancel, Bool.not_eq_true', Bool.or_eq_false_iff, Bool.and_eq_false_iff, decide_eq_false_iff_not, Int.not_le] at g
      have e1 : (x.map (·.1)).getD i 0 = (x.getD i tEd.dflt).1 := by
        simp [List.getD_eq_getElem?_getD, show i < x.length by omega]
      have e2 : (x.map (·.1)).getD (i + 1) 0 = (x.getD (i + 1) tEd.dflt).1 := by
        simp [List.getD_eq_getElem?_getD, hi]
      rw [e1, e2]
      have := g.1.2
      simp at this
      omega
    unfold Asc readE
    rw [List.pairwise_map] at key ⊢
    exact key
def bothX (x y : List Edt) : Int := if validX x = 0 then validX y else validX x
theorem bothX_ok {x y : List Edt} (h : bothX x y = 0) : validX x = 0 ∧ validX y = 0 := by
  unfold bothX at h
  split at h
  · exact ⟨by assumption, h⟩
  · exact absurd h (by assumption)
def editE (E : List (Int × Lin)) : List Edt := E.map fun p => (p.1, p.2, ())
def limE (E : List (Int × Lin)) : List Edt := if E.length > 4 then [] else editE E
def limN (E : List (Int × Lin)) : Int := if E.length > 4 then 3 else 0
end Go.Tk
