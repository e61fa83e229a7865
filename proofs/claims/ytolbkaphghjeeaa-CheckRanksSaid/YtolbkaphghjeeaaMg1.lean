/- Merged: P1 C1 P1r C1r C1q P2 C2 P2t C2t C0. -/
import Derived.Test.YtolbkaphghjeeaaTy
import Derived.Shelf.Bits.Mul64
import Derived.Shelf.Lay
import Derived.Ground.NamesProg
/- Plain facts: lists, numbers, and what the functions of layer 1 (code) give. No program in sight. -/
set_option linter.unusedSimpArgs false
set_option linter.unusedVariables false
namespace Go.Tk
open Go Go.RowKit

/-- From the end down: for loops that count up. -/
theorem upto {n : Nat} {Q : Nat → Prop} (last : Q n) (step : ∀ i, i < n → Q (i + 1) → Q i) : ∀ i, i ≤ n → Q i := by
  intro i hi
  obtain ⟨k, rfl⟩ : ∃ k, n = i + k := ⟨n - i, by omega⟩
  clear hi
  induction k generalizing i with
  | zero => exact last
  | succ k ih =>
    have e : i + (k + 1) = i + 1 + k := by omega
    rw [e] at last step
    exact step i (by omega) (ih (i + 1) last step)

theorem all_take_next {α : Type} {p : α → Bool} {l : List α} {i : Nat} (d : α) (h : i < l.length) (h1 : (l.take i).all p = true) (h2 : p (l.getD i d) = true) : (l.take (i + 1)).all p = true := by
  rw [take_snoc d h, List.all_append, h1]; simp only [List.all_cons, h2]; rfl

theorem all_false_at {α : Type} {p : α → Bool} {l : List α} {i : Nat} (d : α) (h : i < l.length) (h2 : p (l.getD i d) = false) : l.all p = false := by
  rw [List.all_eq_false]
  refine ⟨l[i], List.getElem_mem h, ?_⟩
  simp [List.getD_eq_getElem?_getD, h] at h2
  simp [h2]

theorem mem_getD {α : Type} {d : α} {l : List α} {i : Nat} (h : i < l.length) : l.getD i d ∈ l := by
  simp [List.getD_eq_getElem?_getD, h]

theorem findIdx?_at {α : Type} {p : α → Bool} {l : List α} {i : Nat} (d : α) (h : i < l.length) (h1 : (l.take i).any p = false) (h2 : p (l.getD i d) = true) : l.findIdx? p = some i := by
  rw [List.findIdx?_eq_some_iff_getElem]
  refine ⟨h, by simpa [List.getD_eq_getElem?_getD, h] using h2, fun j hj => ?_⟩
  rw [List.any_eq_false] at h1
  have := h1 (l[j]) (by rw [List.mem_take_iff_getElem]; exact ⟨j, by omega, rfl⟩)
  simpa using this

theorem any_take_next {α : Type} {p : α → Bool} {l : List α} {i : Nat} (d : α) (h : i < l.length) (h1 : (l.take i).any p = false) (h2 : p (l.getD i d) = false) : (l.take (i + 1)).any p = false := by
  rw [take_snoc d h, List.any_append, h1]; simp only [List.any_cons, h2]; rfl

/-- The place of the first element with a property, as Go gives it. -/
def idxF {α : Type} (p : α → Bool) (l : List α) : Int := match l.findIdx? p with | some i => (i : Int) | none => -1

theorem idxF_any {α : Type} (p : α → Bool) (l : List α) : decide (idxF p l ≥ 0) = l.any p := by
  unfold idxF
  cases h : l.findIdx? p with
  | none =>
    rw [List.findIdx?_eq_none_iff] at h
    have : l.any p = false := by rw [List.any_eq_false]; intro x hx; simp [h x hx]
    rw [this]; rfl
  | some i =>
    rw [List.findIdx?_eq_some_iff_getElem] at h
    obtain ⟨h1, h2, _⟩ := h
    have : l.any p = true := List.any_eq_true.2 ⟨_, List.getElem_mem h1, h2⟩
    rw [this]
    simp

theorem idxF_at {α : Type} {p : α → Bool} {l : List α} {i : Nat} (d : α) (h : i < l.length) (h1 : (l.take i).any p = false) (h2 : p (l.getD i d) = true) : idxF p l = i := by
  unfold idxF; rw [findIdx?_at d h h1 h2]

theorem idxF_none {α : Type} {p : α → Bool} {l : List α} (h1 : l.any p = false) : idxF p l = -1 := by
  unfold idxF
  rw [List.findIdx?_eq_none_iff.2 (by intro x hx; rw [List.any_eq_false] at h1; simpa using h1 x hx)]

theorem any_not_all {α : Type} (p : α → Bool) (l : List α) : (l.any fun x => !p x) = !l.all p := by
  induction l with
  | nil => rfl
  | cons a l ih => simp [ih]

theorem beq_dec (a b : Int) : (a == b) = decide (a = b) := by by_cases h : a = b <;> simp [h]

theorem take_eq_next {α : Type} {a b : List α} {i : Nat} (d : α) (h : i < a.length) (hl : a.length = b.length) (h1 : a.take i = b.take i) (h2 : a.getD i d = b.getD i d) : a.take (i + 1) = b.take (i + 1) := by
  rw [take_snoc d h, take_snoc d (by omega), h1, h2]

theorem ne_at {α : Type} {a b : List α} {i : Nat} (d : α) (h2 : a.getD i d ≠ b.getD i d) : a ≠ b := fun e => h2 (by rw [e])

/-! ### Layer 1 -/
def within (n lo hi : Int) : Bool := decide (lo ≤ n) && decide (n ≤ hi)
def isReg (n : Int) : Bool := within n 0 3
def argErr (b : Bool) : Int := bif b then 0 else 1
def validLine (l : Lin) : Bool := match l with
  | (op, t, a, b, _) =>
    if op = 0 then decide (t = 0 ∧ a = 0 ∧ b = 0)
    else if op = 1 then isReg t && within a (-9) 9 && decide (b = 0)
    else if op = 2 then isReg t && isReg a && decide (b = 0)
    else if op = 3 ∨ op = 4 ∨ op = 5 ∨ op = 6 then isReg t && isReg a && isReg b
    else if op = 7 then within t 1 8 && isReg a && isReg b
    else false
def validP (p : List Lin) : Int := if p.length > 8 then 3 else argErr (p.all validLine)
def isVal (n : Int) : Bool := within n (-999) 999
def validS (s : List Int) : Bool := decide (s.length = 4) && s.all isVal

theorem within_iff {n lo hi : Int} : within n lo hi = true ↔ lo ≤ n ∧ n ≤ hi := by
  simp [within]

theorem argErr_zero {b : Bool} : argErr b = 0 ↔ b = true := by cases b <;> simp [argErr]

theorem validLine_regs {op t x y : Int} (h1 : validLine (op, t, x, y, ()) = true) : (2 ≤ op ∧ op ≤ 7 → 0 ≤ x ∧ x ≤ 3) ∧ (3 ≤ op ∧ op ≤ 7 → 0 ≤ y ∧ y ≤ 3) ∧ (1 ≤ op ∧ op ≤ 6 → 0 ≤ t ∧ t ≤ 3) ∧ (op = 7 → 1 ≤ t ∧ t ≤ 8) ∧ (op = 1 → -9 ≤ x ∧ x ≤ 9) ∧ 0 ≤ op ∧ op ≤ 7 := by
  unfold validLine at h1
  simp only at h1
  split at h1
  · omega
  · split at h1
    · simp [isReg, within] at h1; omega
    · split at h1
      · simp [isReg, within] at h1; omega
      · split at h1
        · simp [isReg, within] at h1; omega
        · split at h1
          · simp [isReg, within] at h1; omega
          · cases h1

theorem validP_ok {p : List Lin} (h : validP p = 0) : p.length ≤ 8 ∧ p.all validLine = true := by
  unfold validP at h
  split at h
  · omega
  · refine ⟨by omega, ?_⟩
    cases hh : p.all validLine
    · rw [hh] at h; exact absurd h (by decide)
    · rfl

end Go.Tk
set_option linter.unusedSimpArgs false
set_option linter.unusedVariables false
namespace Go.Tk
open Go Go.RowKit

theorem idx_nat {i n : Nat} (h : i < n) : idx (i : Int) (n : Int) := ⟨by omega, by omega⟩
theorem inI_succ {i n : Nat} (h : i < n) (hn : n ≤ 140737488355328) : inI ((i : Int) + 1) := by unfold inI; omega

abbrev cWithin1 : Con := { A := (.cons .int (.cons .int (.cons .int .nil))), R := (.cons .bool .nil), pre := fun x => True, F := fun x => (within x.1 x.2.1 x.2.2.1, ()) }
def cWithin1_0  (n : Int) (lo : Int) (hi : Int) (y0 : Bool) : Prop :=
  if (decide (n ≥ lo)) = true then (True ∧ ((bif true then (decide (n ≤ hi)) else false) = y0 ∧ True)) else (false = false ∧ (false = y0 ∧ True))
theorem cWithin1_law (h : ∀ (n : Int) (lo : Int) (hi : Int), cWithin1.A.wf (n, lo, hi, ()) → cWithin1_0  n lo hi (within n lo hi)) : ConOK Go.Proofs.Try.prog 134 cWithin1 := by
  refine lawL (Γ := []) (Θ := Th) (n := 15) [] trivial (by kernel_rfl) th_ok mix_ok Go.Proofs.Try.func134 (by kernel_rfl) ?_
  intro x hw hp Λ hC
  have h0 := h x.1 x.2.1 x.2.2.1 hw  
  exact Eq.mpr (by kernel_rfl) h0
theorem cWithin1_ok : ConOK Go.Proofs.Try.prog 134 cWithin1 := by
  refine cWithin1_law ?_
  intro n lo hi hw
  unfold cWithin1_0
  unfold within
  split <;> simp_all
  omega
abbrev cIsReg1 : Con := { A := (.cons .int .nil), R := (.cons .bool .nil), pre := fun x => True, F := fun x => (isReg x.1, ()) }
def cIsReg1_0  (n : Int) (y0 : Bool) : Prop :=
  True ∧ ((within n (0 : Int) (3 : Int)) = y0 ∧ True)
theorem cIsReg1_law (h : ∀ (n : Int), cIsReg1.A.wf (n, ()) → cIsReg1_0  n (isReg n)) : ConOK Go.Proofs.Try.prog 133 cIsReg1 := by
  refine lawL (Γ := [(134, cWithin1)]) (Θ := Th) (n := 5) [] ⟨cWithin1_ok, trivial⟩ (by kernel_rfl) th_ok mix_ok Go.Proofs.Try.func133 (by kernel_rfl) ?_
  intro x hw hp Λ hC
  have h0 := h x.1 hw  
  exact Eq.mpr (by kernel_rfl) h0
theorem cIsReg1_ok : ConOK Go.Proofs.Try.prog 133 cIsReg1 := by
  refine cIsReg1_law ?_
  intro n hw
  unfold cIsReg1_0
  exact ⟨trivial, rfl, trivial⟩
abbrev cValLine : Con := { A := (.cons tL .nil), R := (.cons .int .nil), pre := fun x => True, F := fun x => (argErr (validLine x.1), ()) }
def cValLine_0  (l : Lin) (y0 : Int) : Prop :=
  if (l.1 == (0 : Int)) = true then (if (!(T.eqB tL l (0, 0, 0, 0, ()))) = true then ((1 : Int) = y0 ∧ True) else ((0 : Int) = y0 ∧ True)) else (if (l.1 == (1 : Int)) = true then (True ∧ (if (isReg l.2.1) = true then (True ∧ (True ∧ (if (bif true then (within l.2.2.1 (-9 : Int) (9 : Int)) else false) = true then (True ∧ (if (!(bif true then (l.2.2.2.1 == (0 : Int)) else false)) = true then ((1 : Int) = y0 ∧ True) else ((0 : Int) = y0 ∧ True))) else (false = false ∧ ((1 : Int) = y0 ∧ True))))) else (false = false ∧ (false = false ∧ ((1 : Int) = y0 ∧ True))))) else (if (l.1 == (2 : Int)) = true then (True ∧ (if (isReg l.2.1) = true then (True ∧ (True ∧ (if (bif true then (isReg l.2.2.1) else false) = true then (True ∧ (if (!(bif true then (l.2.2.2.1 == (0 : Int)) else false)) = true then ((1 : Int) = y0 ∧ True) else ((0 : Int) = y0 ∧ True))) else (false = false ∧ ((1 : Int) = y0 ∧ True))))) else (false = false ∧ (false = false ∧ ((1 : Int) = y0 ∧ True))))) else (if (l.1 == (3 : Int)) = true then (if (l.1 == (3 : Int)) = true then (True ∧ (if (isReg l.2.1) = true then (True ∧ (True ∧ (if (bif true then (isReg l.2.2.1) else false) = true then (True ∧ (True ∧ (if (!(bif true then (isReg l.2.2.2.1) else false)) = true then ((1 : Int) = y0 ∧ True) else ((0 : Int) = y0 ∧ True)))) else (false = false ∧ ((1 : Int) = y0 ∧ True))))) else (false = false ∧ (false = false ∧ ((1 : Int) = y0 ∧ True))))) else (if (l.1 == (7 : Int)) = true then (True ∧ (if (within l.2.1 (1 : Int) (8 : Int)) = true then (True ∧ (True ∧ (if (bif true then (isReg l.2.2.1) else false) = true then (True ∧ (True ∧ (if (!(bif true then (isReg l.2.2.2.1) else false)) = true then ((1 : Int) = y0 ∧ True) else ((0 : Int) = y0 ∧ True)))) else (false = false ∧ ((1 : Int) = y0 ∧ True))))) else (false = false ∧ (false = false ∧ ((1 : Int) = y0 ∧ True))))) else ((1 : Int) = y0 ∧ True))) else (if (l.1 == (4 : Int)) = true then (if (l.1 == (4 : Int)) = true then (True ∧ (if (isReg l.2.1) = true then (True ∧ (True ∧ (if (bif true then (isReg l.2.2.1) else false) = true then (True ∧ (True ∧ (if (!(bif true then (isReg l.2.2.2.1) else false)) = true then ((1 : Int) = y0 ∧ True) else ((0 : Int) = y0 ∧ True)))) else (false = false ∧ ((1 : Int) = y0 ∧ True))))) else (false = false ∧ (false = false ∧ ((1 : Int) = y0 ∧ True))))) else (if (l.1 == (7 : Int)) = true then (True ∧ (if (within l.2.1 (1 : Int) (8 : Int)) = true then (True ∧ (True ∧ (if (bif true then (isReg l.2.2.1) else false) = true then (True ∧ (True ∧ (if (!(bif true then (isReg l.2.2.2.1) else false)) = true then ((1 : Int) = y0 ∧ True) else ((0 : Int) = y0 ∧ True)))) else (false = false ∧ ((1 : Int) = y0 ∧ True))))) else (false = false ∧ (false = false ∧ ((1 : Int) = y0 ∧ True))))) else ((1 : Int) = y0 ∧ True))) else (if (l.1 == (5 : Int)) = true then (if (l.1 == (5 : Int)) = true then (True ∧ (if (isReg l.2.1) = true then (True ∧ (True ∧ (if (bif true then (isReg l.2.2.1) else false) = true then (True ∧ (True ∧ (if (!(bif true then (isReg l.2.2.2.1) else false)) = true then ((1 : Int) = y0 ∧ True) else ((0 : Int) = y0 ∧ True)))) else (false = false ∧ ((1 : Int) = y0 ∧ True))))) else (false = false ∧ (false = false ∧ ((1 : Int) = y0 ∧ True))))) else (if (l.1 == (7 : Int)) = true then (True ∧ (if (within l.2.1 (1 : Int) (8 : Int)) = true then (True ∧ (True ∧ (if (bif true then (isReg l.2.2.1) else false) = true then (True ∧ (True ∧ (if (!(bif true then (isReg l.2.2.2.1) else false)) = true then ((1 : Int) = y0 ∧ True) else ((0 : Int) = y0 ∧ True)))) else (false = false ∧ ((1 : Int) = y0 ∧ True))))) else (false = false ∧ (false = false ∧ ((1 : Int) = y0 ∧ True))))) else ((1 : Int) = y0 ∧ True))) else (if (l.1 == (6 : Int)) = true then (True ∧ (if (isReg l.2.1) = true then (True ∧ (True ∧ (if (bif true then (isReg l.2.2.1) else false) = true then (True ∧ (True ∧ (if (!(bif true then (isReg l.2.2.2.1) else false)) = true then ((1 : Int) = y0 ∧ True) else ((0 : Int) = y0 ∧ True)))) else (false = false ∧ ((1 : Int) = y0 ∧ True))))) else (false = false ∧ (false = false ∧ ((1 : Int) = y0 ∧ True))))) else (if (l.1 == (7 : Int)) = true then (True ∧ (if (within l.2.1 (1 : Int) (8 : Int)) = true then (True ∧ (True ∧ (if (bif true then (isReg l.2.2.1) else false) = true then (True ∧ (True ∧ (if (!(bif true then (isReg l.2.2.2.1) else false)) = true then ((1 : Int) = y0 ∧ True) else ((0 : Int) = y0 ∧ True)))) else (false = false ∧ ((1 : Int) = y0 ∧ True))))) else (false = false ∧ (false = false ∧ ((1 : Int) = y0 ∧ True))))) else ((1 : Int) = y0 ∧ True))))))))
theorem cValLine_law (h : ∀ (l : Lin), cValLine.A.wf (l, ()) → cValLine_0  l (argErr (validLine l))) : ConOK Go.Proofs.Try.prog 120 cValLine := by
  refine lawL (Γ := [(133, cIsReg1), (134, cWithin1)]) (Θ := Th) (n := 76) [] ⟨cIsReg1_ok, cWithin1_ok, trivial⟩ (by kernel_rfl) th_ok mix_ok Go.Proofs.Try.func120 (by kernel_rfl) ?_
  intro x hw hp Λ hC
  have h0 := h x.1 hw  
  exact Eq.mpr (by kernel_rfl) h0
theorem cValLine_ok : ConOK Go.Proofs.Try.prog 120 cValLine := by
  refine cValLine_law ?_
  intro l hw
  unfold cValLine_0
  obtain ⟨op, t, a, b, ⟨⟩⟩ := l
  repeat' split
  all_goals (simp_all [validLine, argErr, T.eqB, T.dflt])
  rintro rfl
  by_cases h1 : t = 0 <;> by_cases h2 : a = 0 <;> by_cases h3 : b = 0 <;> simp_all
abbrev cValP : Con := { A := (.cons (.sl tL) .nil), R := (.cons .int .nil), pre := fun x => True, F := fun x => (validP x.1, ()) }
def cValP_0 (Λ1 : Int → Prop) (p : (List Lin)) (y0 : Int) : Prop :=
  if (decide ((List.length p : Int) > (8 : Int))) = true then ((3 : Int) = y0 ∧ True) else Λ1 (0 : Int)
def cValP_1 (Λ1 : Int → Prop) (p : (List Lin)) (y0 : Int)  (t11_1 : Int) : Prop :=
  if (decide (t11_1 < (List.length p : Int))) = true then (idx t11_1 (List.length p : Int) ∧ (True ∧ (if ((argErr (validLine (List.getD p (Int.toNat t11_1) tL.dflt))) != (0 : Int)) = true then ((argErr (validLine (List.getD p (Int.toNat t11_1) tL.dflt))) = y0 ∧ True) else (inI (t11_1 + (1 : Int)) ∧ Λ1 (t11_1 + (1 : Int)))))) else ((0 : Int) = y0 ∧ True)
theorem cValP_law (h : ∀ (p : (List Lin)), cValP.A.wf (p, ()) → ∀ (Λ1 : Int → Prop), (∀ (t11_1 : Int), cValP_1 Λ1 p (validP p) t11_1 → Λ1 t11_1) → cValP_0 Λ1 p (validP p)) : ConOK Go.Proofs.Try.prog 88 cValP := by
  refine lawL (Γ := [(120, cValLine)]) (Θ := Th) (n := 21) [([1, 1, 0, 1, 0], ⟨[(9, false), (10, true), (11, true)], []⟩)] ⟨cValLine_ok, trivial⟩ (by kernel_rfl) th_ok mix_ok Go.Proofs.Try.func88 (by kernel_rfl) ?_
  intro x hw hp Λ hC
  have h0 := h x.1 hw (fun t11_1 => Λ [1, 1, 0, 1, 0] ([(9, .d false (.sl tL) x.1), (10, .d true .int (List.length x.1 : Int)), (11, .d true .int t11_1)], [])) (fun t11_1 hb => hC [1, 1, 0, 1, 0] ([(9, .d false (.sl tL) x.1), (10, .d true .int (List.length x.1 : Int)), (11, .d true .int t11_1)], []) (Eq.mpr (by kernel_rfl) hb))
  exact Eq.mpr (by kernel_rfl) h0
theorem cValP_ok : ConOK Go.Proofs.Try.prog 88 cValP := by
  refine cValP_law ?_
  intro p hw Λ1 h1
  unfold cValP_0
  simp only [decide_eq_true_eq]
  split
  · refine ⟨?_, trivial⟩
    unfold validP
    rw [if_pos (by omega)]
  · rename_i h8
    refine upto (n := p.length) (Q := fun i => (p.take i).all validLine = true → Λ1 i) ?_ ?_ 0 (Nat.zero_le _) rfl
    · intro ha
      rw [List.take_length] at ha
      apply h1; unfold cValP_1; rw [if_neg (by simp)]
      refine ⟨?_, trivial⟩
      unfold validP
      rw [if_neg (by omega), ha]; rfl
    · intro i hi ih ha
      apply h1; unfold cValP_1; rw [if_pos (by simpa using hi)]
      refine ⟨idx_nat hi, trivial, ?_⟩
      rw [Int.toNat_natCast]
      cases hv : validLine (List.getD p i tL.dflt)
      · rw [if_pos (by rfl)]
        refine ⟨?_, trivial⟩
        unfold validP
        rw [if_neg (by omega), all_false_at (p := validLine) tL.dflt hi hv]
      · rw [if_neg (by simp [argErr])]
        exact ⟨inI_succ hi (by omega), ih (all_take_next tL.dflt hi ha hv)⟩
abbrev cIndexI : Con := { A := (.cons (.sl .int) (.cons (.fn (.cons .int .nil) (.cons .bool .nil)) .nil)), R := (.cons .int .nil), pre := fun x => ∀ r, inI r → x.2.1.1 (r, ()), F := fun x => (idxF (fun r => (x.2.1.2 (r, ())).1) x.1, ()) }
def cIndexI_0 (Λ1 : Int → Prop) (s : (List Int)) (f : (T.fn (.cons .int .nil) (.cons .bool .nil)).den) (y0 : Int) : Prop :=
  Λ1 (0 : Int)
def cIndexI_1 (Λ1 : Int → Prop) (s : (List Int)) (f : (T.fn (.cons .int .nil) (.cons .bool .nil)).den) (y0 : Int)  (t8_1 : Int) : Prop :=
  if (decide (t8_1 < (List.length s : Int))) = true then (idx t8_1 (List.length s : Int) ∧ (f.1 ((List.getD s (Int.toNat t8_1) 0), ()) ∧ (if ((f.2 ((List.getD s (Int.toNat t8_1) 0), ())).1) = true then (t8_1 = y0 ∧ True) else (inI (t8_1 + (1 : Int)) ∧ Λ1 (t8_1 + (1 : Int)))))) else ((-1 : Int) = y0 ∧ True)
theorem cIndexI_law (h : ∀ (s : (List Int)) (f : (T.fn (.cons .int .nil) (.cons .bool .nil)).den), cIndexI.A.wf (s, f, ()) → (∀ r, inI r → f.1 (r, ())) → ∀ (Λ1 : Int → Prop), (∀ (t8_1 : Int), cIndexI_1 Λ1 s f (idxF (fun r => (f.2 (r, ())).1) s) t8_1 → Λ1 t8_1) → cIndexI_0 Λ1 s f (idxF (fun r => (f.2 (r, ())).1) s)) : ConOK Go.Proofs.Try.prog 144 cIndexI := by
  refine lawL (Γ := []) (Θ := Th) (n := 19) [([1, 0, 1, 0], ⟨[(0, false), (1, false), (7, true), (8, true)], []⟩)] trivial (by kernel_rfl) th_ok mix_ok Go.Proofs.Try.func144 (by kernel_rfl) ?_
  intro x hw hp Λ hC
  have h0 := h x.1 x.2.1 hw hp (fun t8_1 => Λ [1, 0, 1, 0] ([(0, .d false (.sl .int) x.1), (1, .d false (.fn (.cons .int .nil) (.cons .bool .nil)) x.2.1), (7, .d true .int (List.length x.1 : Int)), (8, .d true .int t8_1)], [])) (fun t8_1 hb => hC [1, 0, 1, 0] ([(0, .d false (.sl .int) x.1), (1, .d false (.fn (.cons .int .nil) (.cons .bool .nil)) x.2.1), (7, .d true .int (List.length x.1 : Int)), (8, .d true .int t8_1)], []) (Eq.mpr (by kernel_rfl) hb))
  exact Eq.mpr (by kernel_rfl) h0
theorem cIndexI_ok : ConOK Go.Proofs.Try.prog 144 cIndexI := by
  refine cIndexI_law ?_
  intro s f hw hp Λ1 h1
  unfold cIndexI_0
  refine upto (n := s.length) (Q := fun i => (s.take i).any (fun r => (f.2 (r, ())).1) = false → Λ1 i) ?_ ?_ 0 (Nat.zero_le _) rfl
  · intro ha
    rw [List.take_length] at ha
    apply h1; unfold cIndexI_1; rw [if_neg (by simp), idxF_none ha]
    exact ⟨rfl, trivial⟩
  · intro i hi ih ha
    apply h1; unfold cIndexI_1; rw [if_pos (by simpa using hi), Int.toNat_natCast]
    refine ⟨idx_nat hi, hp _ (hw.1.2 _ (mem_getD hi)), ?_⟩
    cases hv : (f.2 (List.getD s i 0, ())).1
    · rw [if_neg (by simp)]
      exact ⟨inI_succ hi hw.1.1, ih (any_take_next (p := fun r => (f.2 (r, ())).1) 0 hi ha hv)⟩
    · rw [if_pos (by rfl), idxF_at (p := fun r => (f.2 (r, ())).1) 0 hi ha hv]
      exact ⟨rfl, trivial⟩
abbrev cContI : Con := { A := (.cons (.sl .int) (.cons (.fn (.cons .int .nil) (.cons .bool .nil)) .nil)), R := (.cons .bool .nil), pre := fun x => ∀ r, inI r → x.2.1.1 (r, ()), F := fun x => (x.1.any (fun r => (x.2.1.2 (r, ())).1), ()) }
def cContI_0  (s : (List Int)) (f : (T.fn (.cons .int .nil) (.cons .bool .nil)).den) (y0 : Bool) : Prop :=
  (∀ r, inI r → f.1 (r, ())) ∧ ((decide ((idxF (fun r => (f.2 (r, ())).1) s) ≥ (0 : Int))) = y0 ∧ True)
theorem cContI_law (h : ∀ (s : (List Int)) (f : (T.fn (.cons .int .nil) (.cons .bool .nil)).den), cContI.A.wf (s, f, ()) → (∀ r, inI r → f.1 (r, ())) → cContI_0  s f (s.any (fun r => (f.2 (r, ())).1))) : ConOK Go.Proofs.Try.prog 135 cContI := by
  refine lawL (Γ := [(144, cIndexI)]) (Θ := Th) (n := 9) [] ⟨cIndexI_ok, trivial⟩ (by kernel_rfl) th_ok mix_ok Go.Proofs.Try.func135 (by kernel_rfl) ?_
  intro x hw hp Λ hC
  have h0 := h x.1 x.2.1 hw hp  
  exact Eq.mpr (by kernel_rfl) h0
theorem cContI_ok : ConOK Go.Proofs.Try.prog 135 cContI := by
  refine cContI_law ?_
  intro s f hw hp
  unfold cContI_0
  exact ⟨hp, idxF_any _ _, trivial⟩
abbrev cNotVal1 : Con := { A := (.cons .int .nil), R := (.cons .bool .nil), pre := fun x => True, F := fun x => (!(isVal x.1), ()) }
def cNotVal1_0  (n : Int) (y0 : Bool) : Prop :=
  True ∧ ((!(within n (-999 : Int) (999 : Int))) = y0 ∧ True)
theorem cNotVal1_law (h : ∀ (n : Int), cNotVal1.A.wf (n, ()) → cNotVal1_0  n (!(isVal n))) : ConOK Go.Proofs.Try.prog 136 cNotVal1 := by
  refine lawL (Γ := [(134, cWithin1)]) (Θ := Th) (n := 6) [] ⟨cWithin1_ok, trivial⟩ (by kernel_rfl) th_ok mix_ok Go.Proofs.Try.func136 (by kernel_rfl) ?_
  intro x hw hp Λ hC
  have h0 := h x.1 hw  
  exact Eq.mpr (by kernel_rfl) h0
theorem cNotVal1_ok : ConOK Go.Proofs.Try.prog 136 cNotVal1 := by
  refine cNotVal1_law ?_
  intro n hw
  unfold cNotVal1_0
  exact ⟨trivial, rfl, trivial⟩
abbrev cValS : Con := { A := (.cons (.sl .int) .nil), R := (.cons .int .nil), pre := fun x => True, F := fun x => (argErr (validS x.1), ()) }
def cValS_0  (in_ : (List Int)) (y0 : Int) : Prop :=
  if ((List.length in_ : Int) != (4 : Int)) = true then (true = true ∧ ((1 : Int) = y0 ∧ True)) else ((∀ r, inI r → (fun (xx : (Int × Unit)) => True, fun (xx : (Int × Unit)) => (!(isVal xx.1), ())).1 (r, ())) ∧ (True ∧ (if (bif false then true else (in_.any (fun r => ((fun (xx : (Int × Unit)) => True, fun (xx : (Int × Unit)) => (!(isVal xx.1), ())).2 (r, ())).1))) = true then ((1 : Int) = y0 ∧ True) else ((0 : Int) = y0 ∧ True))))
theorem cValS_law (h : ∀ (in_ : (List Int)), cValS.A.wf (in_, ()) → cValS_0  in_ (argErr (validS in_))) : ConOK Go.Proofs.Try.prog 121 cValS := by
  refine lawL (Γ := [(135, cContI), (136, cNotVal1)]) (Θ := Th) (n := 10) [] ⟨cContI_ok, cNotVal1_ok, trivial⟩ (by kernel_rfl) th_ok mix_ok Go.Proofs.Try.func121 (by kernel_rfl) ?_
  intro x hw hp Λ hC
  have h0 := h x.1 hw  
  exact Eq.mpr (by kernel_rfl) h0
theorem cValS_ok : ConOK Go.Proofs.Try.prog 121 cValS := by
  refine cValS_law ?_
  intro in_ hw
  unfold cValS_0
  unfold validS
  simp only [bne_iff_ne, ne_eq]
  split
  · rename_i h4
    rw [show decide (in_.length = 4) = false by simp; omega]
    exact ⟨trivial, rfl, trivial⟩
  · rename_i h4
    rw [show decide (in_.length = 4) = true by simp; omega]
    refine ⟨fun _ _ => trivial, trivial, ?_⟩
    show if (in_.any fun r => !isVal r) = true then _ else _
    rw [any_not_all]
    cases in_.all isVal <;> exact ⟨rfl, trivial⟩
abbrev cCheck1 : Con := { A := (.cons (.sl tL) (.cons (.sl .int) .nil)), R := (.cons .int .nil), pre := fun x => True, F := fun x => ((if validP x.1 = 0 then argErr (validS x.2.1) else validP x.1), ()) }
def cCheck1_0  (p : (List Lin)) (in_ : (List Int)) (y0 : Int) : Prop :=
  True ∧ (if ((validP p) != (0 : Int)) = true then ((validP p) = y0 ∧ True) else (True ∧ ((argErr (validS in_)) = y0 ∧ True)))
theorem cCheck1_law (h : ∀ (p : (List Lin)) (in_ : (List Int)), cCheck1.A.wf (p, in_, ()) → cCheck1_0  p in_ (if validP p = 0 then argErr (validS in_) else validP p)) : ConOK Go.Proofs.Try.prog 127 cCheck1 := by
  refine lawL (Γ := [(88, cValP), (121, cValS)]) (Θ := Th) (n := 13) [] ⟨cValP_ok, cValS_ok, trivial⟩ (by kernel_rfl) th_ok mix_ok Go.Proofs.Try.func127 (by kernel_rfl) ?_
  intro x hw hp Λ hC
  have h0 := h x.1 x.2.1 hw  
  exact Eq.mpr (by kernel_rfl) h0
theorem cCheck1_ok : ConOK Go.Proofs.Try.prog 127 cCheck1 := by
  refine cCheck1_law ?_
  intro p in_ hw
  unfold cCheck1_0
  split <;> simp_all
/-! The reference's -/
abbrev cWithinR1 : Con := { A := (.cons .int (.cons .int (.cons .int .nil))), R := (.cons .bool .nil), pre := fun x => True, F := fun x => (within x.1 x.2.1 x.2.2.1, ()) }
def cWithinR1_0  (n : Int) (lo : Int) (hi : Int) (y0 : Bool) : Prop :=
  if (decide (n ≥ lo)) = true then (True ∧ ((bif true then (decide (n ≤ hi)) else false) = y0 ∧ True)) else (false = false ∧ (false = y0 ∧ True))
theorem cWithinR1_law (h : ∀ (n : Int) (lo : Int) (hi : Int), cWithinR1.A.wf (n, lo, hi, ()) → cWithinR1_0  n lo hi (within n lo hi)) : ConOK Go.Proofs.Try.prog 111 cWithinR1 := by
  refine lawL (Γ := []) (Θ := Th) (n := 15) [] trivial (by kernel_rfl) th_ok mix_ok Go.Proofs.Try.func111 (by kernel_rfl) ?_
  intro x hw hp Λ hC
  have h0 := h x.1 x.2.1 x.2.2.1 hw  
  exact Eq.mpr (by kernel_rfl) h0
theorem cWithinR1_ok : ConOK Go.Proofs.Try.prog 111 cWithinR1 := by
  refine cWithinR1_law ?_
  intro n lo hi hw
  unfold cWithinR1_0
  unfold within
  split <;> simp_all
  omega
abbrev cIsRegR1 : Con := { A := (.cons .int .nil), R := (.cons .bool .nil), pre := fun x => True, F := fun x => (isReg x.1, ()) }
def cIsRegR1_0  (n : Int) (y0 : Bool) : Prop :=
  True ∧ ((within n (0 : Int) (3 : Int)) = y0 ∧ True)
theorem cIsRegR1_law (h : ∀ (n : Int), cIsRegR1.A.wf (n, ()) → cIsRegR1_0  n (isReg n)) : ConOK Go.Proofs.Try.prog 130 cIsRegR1 := by
  refine lawL (Γ := [(111, cWithinR1)]) (Θ := Th) (n := 5) [] ⟨cWithinR1_ok, trivial⟩ (by kernel_rfl) th_ok mix_ok Go.Proofs.Try.func130 (by kernel_rfl) ?_
  intro x hw hp Λ hC
  have h0 := h x.1 hw  
  exact Eq.mpr (by kernel_rfl) h0
theorem cIsRegR1_ok : ConOK Go.Proofs.Try.prog 130 cIsRegR1 := by
  refine cIsRegR1_law ?_
  intro n hw
  unfold cIsRegR1_0
  exact ⟨trivial, rfl, trivial⟩
abbrev cIsLineR : Con := { A := (.cons tL .nil), R := (.cons .bool .nil), pre := fun x => True, F := fun x => (validLine x.1, ()) }
def cIsLineR_0  (l : Lin) (y0 : Bool) : Prop :=
  if (l.1 == (0 : Int)) = true then (if (l.2.1 == (0 : Int)) = true then (True ∧ (if (bif true then (l.2.2.1 == (0 : Int)) else false) = true then (True ∧ ((bif true then (l.2.2.2.1 == (0 : Int)) else false) = y0 ∧ True)) else (false = false ∧ (false = y0 ∧ True)))) else (false = false ∧ (false = false ∧ (false = y0 ∧ True)))) else (if (l.1 == (1 : Int)) = true then (True ∧ (if (isReg l.2.1) = true then (True ∧ (True ∧ (if (bif true then (within l.2.2.1 (-9 : Int) (9 : Int)) else false) = true then (True ∧ ((bif true then (l.2.2.2.1 == (0 : Int)) else false) = y0 ∧ True)) else (false = false ∧ (false = y0 ∧ True))))) else (false = false ∧ (false = false ∧ (false = y0 ∧ True))))) else (if (l.1 == (2 : Int)) = true then (True ∧ (if (isReg l.2.1) = true then (True ∧ (True ∧ (if (bif true then (isReg l.2.2.1) else false) = true then (True ∧ ((bif true then (l.2.2.2.1 == (0 : Int)) else false) = y0 ∧ True)) else (false = false ∧ (false = y0 ∧ True))))) else (false = false ∧ (false = false ∧ (false = y0 ∧ True))))) else (if (l.1 == (3 : Int)) = true then (if (l.1 == (3 : Int)) = true then (True ∧ (if (isReg l.2.1) = true then (True ∧ (True ∧ (if (bif true then (isReg l.2.2.1) else false) = true then (True ∧ (True ∧ ((bif true then (isReg l.2.2.2.1) else false) = y0 ∧ True))) else (false = false ∧ (false = y0 ∧ True))))) else (false = false ∧ (false = false ∧ (false = y0 ∧ True))))) else (if (l.1 == (7 : Int)) = true then (True ∧ (if (within l.2.1 (1 : Int) (8 : Int)) = true then (True ∧ (True ∧ (if (bif true then (isReg l.2.2.1) else false) = true then (True ∧ (True ∧ ((bif true then (isReg l.2.2.2.1) else false) = y0 ∧ True))) else (false = false ∧ (false = y0 ∧ True))))) else (false = false ∧ (false = false ∧ (false = y0 ∧ True))))) else (false = y0 ∧ True))) else (if (l.1 == (4 : Int)) = true then (if (l.1 == (4 : Int)) = true then (True ∧ (if (isReg l.2.1) = true then (True ∧ (True ∧ (if (bif true then (isReg l.2.2.1) else false) = true then (True ∧ (True ∧ ((bif true then (isReg l.2.2.2.1) else false) = y0 ∧ True))) else (false = false ∧ (false = y0 ∧ True))))) else (false = false ∧ (false = false ∧ (false = y0 ∧ True))))) else (if (l.1 == (7 : Int)) = true then (True ∧ (if (within l.2.1 (1 : Int) (8 : Int)) = true then (True ∧ (True ∧ (if (bif true then (isReg l.2.2.1) else false) = true then (True ∧ (True ∧ ((bif true then (isReg l.2.2.2.1) else false) = y0 ∧ True))) else (false = false ∧ (false = y0 ∧ True))))) else (false = false ∧ (false = false ∧ (false = y0 ∧ True))))) else (false = y0 ∧ True))) else (if (l.1 == (5 : Int)) = true then (if (l.1 == (5 : Int)) = true then (True ∧ (if (isReg l.2.1) = true then (True ∧ (True ∧ (if (bif true then (isReg l.2.2.1) else false) = true then (True ∧ (True ∧ ((bif true then (isReg l.2.2.2.1) else false) = y0 ∧ True))) else (false = false ∧ (false = y0 ∧ True))))) else (false = false ∧ (false = false ∧ (false = y0 ∧ True))))) else (if (l.1 == (7 : Int)) = true then (True ∧ (if (within l.2.1 (1 : Int) (8 : Int)) = true then (True ∧ (True ∧ (if (bif true then (isReg l.2.2.1) else false) = true then (True ∧ (True ∧ ((bif true then (isReg l.2.2.2.1) else false) = y0 ∧ True))) else (false = false ∧ (false = y0 ∧ True))))) else (false = false ∧ (false = false ∧ (false = y0 ∧ True))))) else (false = y0 ∧ True))) else (if (l.1 == (6 : Int)) = true then (True ∧ (if (isReg l.2.1) = true then (True ∧ (True ∧ (if (bif true then (isReg l.2.2.1) else false) = true then (True ∧ (True ∧ ((bif true then (isReg l.2.2.2.1) else false) = y0 ∧ True))) else (false = false ∧ (false = y0 ∧ True))))) else (false = false ∧ (false = false ∧ (false = y0 ∧ True))))) else (if (l.1 == (7 : Int)) = true then (True ∧ (if (within l.2.1 (1 : Int) (8 : Int)) = true then (True ∧ (True ∧ (if (bif true then (isReg l.2.2.1) else false) = true then (True ∧ (True ∧ ((bif true then (isReg l.2.2.2.1) else false) = y0 ∧ True))) else (false = false ∧ (false = y0 ∧ True))))) else (false = false ∧ (false = false ∧ (false = y0 ∧ True))))) else (false = y0 ∧ True))))))))
theorem cIsLineR_law (h : ∀ (l : Lin), cIsLineR.A.wf (l, ()) → cIsLineR_0  l (validLine l)) : ConOK Go.Proofs.Try.prog 114 cIsLineR := by
  refine lawL (Γ := [(130, cIsRegR1), (111, cWithinR1)]) (Θ := Th) (n := 83) [] ⟨cIsRegR1_ok, cWithinR1_ok, trivial⟩ (by kernel_rfl) th_ok mix_ok Go.Proofs.Try.func114 (by kernel_rfl) ?_
  intro x hw hp Λ hC
  have h0 := h x.1 hw  
  exact Eq.mpr (by kernel_rfl) h0
theorem cIsLineR_ok : ConOK Go.Proofs.Try.prog 114 cIsLineR := by
  refine cIsLineR_law ?_
  intro l hw
  unfold cIsLineR_0
  obtain ⟨op, t, a, b, ⟨⟩⟩ := l
  repeat' split
  all_goals (simp_all [validLine, argErr, T.eqB, T.dflt, beq_dec])
abbrev cValPR : Con := { A := (.cons (.sl tL) .nil), R := (.cons .int .nil), pre := fun x => True, F := fun x => (validP x.1, ()) }
def cValPR_0 (Λ1 : Int → Prop) (p : (List Lin)) (y0 : Int) : Prop :=
  if (decide ((List.length p : Int) > (8 : Int))) = true then ((3 : Int) = y0 ∧ True) else Λ1 (0 : Int)
def cValPR_1 (Λ1 : Int → Prop) (p : (List Lin)) (y0 : Int)  (i_1 : Int) : Prop :=
  if (decide (i_1 < (List.length p : Int))) = true then (idx i_1 (List.length p : Int) ∧ (True ∧ (if (!(validLine (List.getD p (Int.toNat i_1) tL.dflt))) = true then ((1 : Int) = y0 ∧ True) else (inI (i_1 + (1 : Int)) ∧ Λ1 (i_1 + (1 : Int)))))) else ((0 : Int) = y0 ∧ True)
theorem cValPR_law (h : ∀ (p : (List Lin)), cValPR.A.wf (p, ()) → ∀ (Λ1 : Int → Prop), (∀ (i_1 : Int), cValPR_1 Λ1 p (validP p) i_1 → Λ1 i_1) → cValPR_0 Λ1 p (validP p)) : ConOK Go.Proofs.Try.prog 76 cValPR := by
  refine lawL (Γ := [(114, cIsLineR)]) (Θ := Th) (n := 19) [([1, 1, 0, 1, 0], ⟨[(0, false), (3, true)], []⟩)] ⟨cIsLineR_ok, trivial⟩ (by kernel_rfl) th_ok mix_ok Go.Proofs.Try.func76 (by kernel_rfl) ?_
  intro x hw hp Λ hC
  have h0 := h x.1 hw (fun i_1 => Λ [1, 1, 0, 1, 0] ([(0, .d false (.sl tL) x.1), (3, .d true .int i_1)], [])) (fun i_1 hb => hC [1, 1, 0, 1, 0] ([(0, .d false (.sl tL) x.1), (3, .d true .int i_1)], []) (Eq.mpr (by kernel_rfl) hb))
  exact Eq.mpr (by kernel_rfl) h0
theorem cValPR_ok : ConOK Go.Proofs.Try.prog 76 cValPR := by
  refine cValPR_law ?_
  intro p hw Λ1 h1
  unfold cValPR_0
  simp only [decide_eq_true_eq]
  split
  · refine ⟨?_, trivial⟩
    unfold validP
    rw [if_pos (by omega)]
  · rename_i h8
    refine upto (n := p.length) (Q := fun i => (p.take i).all validLine = true → Λ1 i) ?_ ?_ 0 (Nat.zero_le _) rfl
    · intro ha
      rw [List.take_length] at ha
      apply h1; unfold cValPR_1; rw [if_neg (by simp)]
      refine ⟨?_, trivial⟩
      unfold validP
      rw [if_neg (by omega), ha]; rfl
    · intro i hi ih ha
      apply h1; unfold cValPR_1; rw [if_pos (by simpa using hi)]
      refine ⟨idx_nat hi, trivial, ?_⟩
      rw [Int.toNat_natCast]
      cases hv : validLine (List.getD p i tL.dflt)
      · rw [if_pos (by rfl)]
        refine ⟨?_, trivial⟩
        unfold validP
        rw [if_neg (by omega), all_false_at (p := validLine) tL.dflt hi hv]
        rfl
      · rw [if_neg (by simp)]
        exact ⟨inI_succ hi (by omega), ih (all_take_next tL.dflt hi ha hv)⟩
abbrev cValSR : Con := { A := (.cons (.sl .int) .nil), R := (.cons .int .nil), pre := fun x => True, F := fun x => (argErr (validS x.1), ()) }
def cValSR_0 (Λ1 : Int → Prop) (in_ : (List Int)) (y0 : Int) : Prop :=
  if ((List.length in_ : Int) != (4 : Int)) = true then ((1 : Int) = y0 ∧ True) else Λ1 (0 : Int)
def cValSR_1 (Λ1 : Int → Prop) (in_ : (List Int)) (y0 : Int)  (i_1 : Int) : Prop :=
  if (decide (i_1 < (List.length in_ : Int))) = true then (idx i_1 (List.length in_ : Int) ∧ (True ∧ (if (!(within (List.getD in_ (Int.toNat i_1) 0) (-999 : Int) (999 : Int))) = true then ((1 : Int) = y0 ∧ True) else (inI (i_1 + (1 : Int)) ∧ Λ1 (i_1 + (1 : Int)))))) else ((0 : Int) = y0 ∧ True)
theorem cValSR_law (h : ∀ (in_ : (List Int)), cValSR.A.wf (in_, ()) → ∀ (Λ1 : Int → Prop), (∀ (i_1 : Int), cValSR_1 Λ1 in_ (argErr (validS in_)) i_1 → Λ1 i_1) → cValSR_0 Λ1 in_ (argErr (validS in_))) : ConOK Go.Proofs.Try.prog 68 cValSR := by
  refine lawL (Γ := [(111, cWithinR1)]) (Θ := Th) (n := 19) [([1, 1, 0, 1, 0], ⟨[(0, false), (3, true)], []⟩)] ⟨cWithinR1_ok, trivial⟩ (by kernel_rfl) th_ok mix_ok Go.Proofs.Try.func68 (by kernel_rfl) ?_
  intro x hw hp Λ hC
  have h0 := h x.1 hw (fun i_1 => Λ [1, 1, 0, 1, 0] ([(0, .d false (.sl .int) x.1), (3, .d true .int i_1)], [])) (fun i_1 hb => hC [1, 1, 0, 1, 0] ([(0, .d false (.sl .int) x.1), (3, .d true .int i_1)], []) (Eq.mpr (by kernel_rfl) hb))
  exact Eq.mpr (by kernel_rfl) h0
theorem cValSR_ok : ConOK Go.Proofs.Try.prog 68 cValSR := by
  refine cValSR_law ?_
  intro in_ hw Λ1 h1
  unfold cValSR_0
  simp only [bne_iff_ne, ne_eq]
  split
  · refine ⟨?_, trivial⟩
    unfold validS
    rw [show decide (in_.length = 4) = false by simp; omega]; rfl
  · rename_i h8
    refine upto (n := in_.length) (Q := fun i => (in_.take i).all isVal = true → Λ1 i) ?_ ?_ 0 (Nat.zero_le _) rfl
    · intro ha
      rw [List.take_length] at ha
      apply h1; unfold cValSR_1; rw [if_neg (by simp)]
      refine ⟨?_, trivial⟩
      unfold validS
      rw [ha, show decide (in_.length = 4) = true by simp; omega]; rfl
    · intro i hi ih ha
      apply h1; unfold cValSR_1; rw [if_pos (by simpa using hi)]
      refine ⟨idx_nat hi, trivial, ?_⟩
      rw [Int.toNat_natCast]
      cases hv : isVal (List.getD in_ i 0)
      · rw [if_pos (by unfold isVal at hv; rw [hv]; rfl)]
        refine ⟨?_, trivial⟩
        unfold validS
        rw [all_false_at (p := isVal) 0 hi hv, Bool.and_false]; rfl
      · rw [if_neg (by unfold isVal at hv; rw [hv]; simp)]
        exact ⟨inI_succ hi (by omega), ih (all_take_next 0 hi ha hv)⟩
abbrev cAskedR : Con := { A := (.cons (.sl tL) (.cons (.sl .int) .nil)), R := (.cons .int .nil), pre := fun x => True, F := fun x => ((if validP x.1 = 0 then argErr (validS x.2.1) else validP x.1), ()) }
def cAskedR_0  (p : (List Lin)) (in_ : (List Int)) (y0 : Int) : Prop :=
  True ∧ (if ((validP p) != (0 : Int)) = true then ((validP p) = y0 ∧ True) else (True ∧ ((argErr (validS in_)) = y0 ∧ True)))
theorem cAskedR_law (h : ∀ (p : (List Lin)) (in_ : (List Int)), cAskedR.A.wf (p, in_, ()) → cAskedR_0  p in_ (if validP p = 0 then argErr (validS in_) else validP p)) : ConOK Go.Proofs.Try.prog 117 cAskedR := by
  refine lawL (Γ := [(76, cValPR), (68, cValSR)]) (Θ := Th) (n := 13) [] ⟨cValPR_ok, cValSR_ok, trivial⟩ (by kernel_rfl) th_ok mix_ok Go.Proofs.Try.func117 (by kernel_rfl) ?_
  intro x hw hp Λ hC
  have h0 := h x.1 x.2.1 hw  
  exact Eq.mpr (by kernel_rfl) h0
theorem cAskedR_ok : ConOK Go.Proofs.Try.prog 117 cAskedR := by
  refine cAskedR_law ?_
  intro p in_ hw
  unfold cAskedR_0
  split <;> simp_all
abbrev cLongL : Con := { A := (.cons (.sl tL) .nil), R := (.cons .bool .nil), pre := fun x => True, F := fun x => (decide (100 < x.1.length), ()) }
def cLongL_0  (p : (List Lin)) (y0 : Bool) : Prop :=
  (decide ((List.length p : Int) > (100 : Int))) = y0 ∧ True
theorem cLongL_law (h : ∀ (p : (List Lin)), cLongL.A.wf (p, ()) → cLongL_0  p (decide (100 < p.length))) : ConOK Go.Proofs.Try.prog 16 cLongL := by
  refine lawL (Γ := []) (Θ := Th) (n := 6) [] trivial (by kernel_rfl) th_ok mix_ok Go.Proofs.Try.func16 (by kernel_rfl) ?_
  intro x hw hp Λ hC
  have h0 := h x.1 hw  
  exact Eq.mpr (by kernel_rfl) h0
theorem cLongL_ok : ConOK Go.Proofs.Try.prog 16 cLongL := by
  refine cLongL_law ?_
  intro p hw
  unfold cLongL_0
  exact ⟨by simp; omega, trivial⟩
end Go.Tk
/- Plain facts: what a run of a program does (layer 1). No program in sight. -/
set_option linter.unusedSimpArgs false
set_option linter.unusedVariables false
namespace Go.Tk
open Go Go.RowKit

def cut (n : Int) : Int := max (-999) (min 999 n)
def Rg (s : List Int) (i : Int) : Int := List.getD s i.toNat 0
/-- What a line that writes makes of a state, before it is cut. -/
def wval (l : Lin) (s : List Int) : Int :=
  if l.1 = 1 then l.2.2.1
  else if l.1 = 2 then Rg s l.2.2.1
  else if l.1 = 3 then Rg s l.2.2.1 + Rg s l.2.2.2.1
  else if l.1 = 4 then Rg s l.2.2.1 - Rg s l.2.2.2.1
  else if l.1 = 5 then min (Rg s l.2.2.1) (Rg s l.2.2.2.1)
  else max (Rg s l.2.2.1) (Rg s l.2.2.2.1)
def writes (l : Lin) : Bool := decide (1 ≤ l.1 ∧ l.1 ≤ 6)

/-- What a forced line writes: a number, if it is forced. -/
abbrev Frc := Int → Option Int
def wnum (fr : Frc) (l : Lin) (i : Nat) (s : List Int) : Int := match fr i with
  | some n => n
  | none => wval l s
def stepTo (l : Lin) (i : Nat) (s : List Int) : Nat := if l.1 = 7 ∧ Rg s l.2.2.1 < Rg s l.2.2.2.1 then i + 1 + l.2.1.toNat else i + 1
def stepS (fr : Frc) (l : Lin) (i : Nat) (s : List Int) : List Int := if writes l then s.set l.2.1.toNat (cut (wnum fr l i s)) else s
abbrev Vst := Int × List Int × Unit
def runF (p : List Lin) (fr : Frc) : Nat → Nat → List Int → List Vst × List Int
  | 0, _, s => ([], s)
  | f + 1, i, s => if i < p.length then (((i : Int), s, ()) :: (runF p fr f (stepTo (p.getD i tL.dflt) i s) (stepS fr (p.getD i tL.dflt) i s)).1, (runF p fr f (stepTo (p.getD i tL.dflt) i s) (stepS fr (p.getD i tL.dflt) i s)).2) else ([], s)
def noFrc : Frc := fun _ => none
def visits (p : List Lin) (fr : Frc) (s : List Int) : List Vst := (runF p fr (p.length + 1) 0 s).1
def endS (p : List Lin) (fr : Frc) (s : List Int) : List Int := (runF p fr (p.length + 1) 0 s).2
def runS (p : List Lin) (s : List Int) : List Int := endS p noFrc s
def doneS (p : List Lin) (s : List Int) : List Int := (visits p noFrc s).map (·.1)

theorem stepTo_gt (l : Lin) (i : Nat) (s : List Int) : i < stepTo l i s := by unfold stepTo; split <;> omega

theorem runF_more (p : List Lin) (fr : Frc) : ∀ (f i : Nat) (s : List Int), p.length < i + f → runF p fr (f + 1) i s = runF p fr f i s
  | 0, i, s, h => by
    unfold runF
    rw [if_neg (by omega)]
  | f + 1, i, s, h => by
    rw [runF]
    conv => rhs; rw [runF]
    by_cases hi : i < p.length
    · rw [if_pos hi, if_pos hi, runF_more p fr f _ _ (by have := stepTo_gt (p.getD i tL.dflt) i s; omega)]
    · rw [if_neg hi, if_neg hi]

theorem isVal_iff {n : Int} : isVal n = true ↔ -999 ≤ n ∧ n ≤ 999 := within_iff
theorem validS_iff {s : List Int} : validS s = true ↔ s.length = 4 ∧ ∀ n ∈ s, -999 ≤ n ∧ n ≤ 999 := by
  unfold validS
  rw [Bool.and_eq_true, List.all_eq_true]
  simp [isVal_iff]
theorem validS_len {s : List Int} (h : validS s = true) : s.length = 4 := (validS_iff.1 h).1
theorem validS_get {s : List Int} (h : validS s = true) (i : Int) : -999 ≤ Rg s i ∧ Rg s i ≤ 999 := by
  unfold Rg
  rcases Nat.lt_or_ge i.toNat s.length with g | g
  · exact (validS_iff.1 h).2 _ (mem_getD g)
  · rw [List.getD_eq_getElem?_getD, List.getElem?_eq_none g]; decide
theorem validS_set {s : List Int} (h : validS s = true) (i : Nat) {n : Int} (hn : -999 ≤ n ∧ n ≤ 999) : validS (s.set i n) = true := by
  rw [validS_iff] at *
  refine ⟨by simp [h.1], fun x hx => ?_⟩
  rcases List.mem_or_eq_of_mem_set hx with g | rfl
  · exact h.2 x g
  · exact hn
theorem cut_bd (n : Int) : -999 ≤ cut n ∧ cut n ≤ 999 := by unfold cut; omega
theorem stepS_ok (fr : Frc) (l : Lin) (i : Nat) {s : List Int} (h : validS s = true) : validS (stepS fr l i s) = true := by
  unfold stepS
  split
  · exact validS_set h _ (cut_bd _)
  · exact h
theorem runF_ok (p : List Lin) (fr : Frc) : ∀ (f i : Nat) (s : List Int), validS s = true → validS (runF p fr f i s).2 = true ∧ ∀ v ∈ (runF p fr f i s).1, (i : Int) ≤ v.1 ∧ v.1 < p.length ∧ validS v.2.1 = true
  | 0, i, s, h => ⟨h, fun v hv => by simp [runF] at hv⟩
  | f + 1, i, s, h => by
    rw [runF]
    split
    · rename_i hi
      obtain ⟨g1, g2⟩ := runF_ok p fr f (stepTo (p.getD i tL.dflt) i s) (stepS fr (p.getD i tL.dflt) i s) (stepS_ok fr _ i h)
      refine ⟨g1, fun v hv => ?_⟩
      rcases List.mem_cons.1 hv with rfl | hv
      · exact ⟨Int.le_refl _, by simpa using hi, h⟩
      · have g3 := g2 v hv
        have := stepTo_gt (p.getD i tL.dflt) i s
        exact ⟨by omega, g3.2.1, g3.2.2⟩
    · exact ⟨h, fun v hv => by simp at hv⟩
theorem runF_len (p : List Lin) (fr : Frc) : ∀ (f i : Nat) (s : List Int), (runF p fr f i s).1.length ≤ f
  | 0, _, _ => by simp [runF]
  | f + 1, i, s => by
    rw [runF]
    split
    · simp only [List.length_cons]
      have := runF_len p fr f (stepTo (p.getD i tL.dflt) i s) (stepS fr (p.getD i tL.dflt) i s)
      omega
    · simp
theorem runF_lt (p : List Lin) (fr : Frc) : ∀ (f i : Nat) (s : List Int), (runF p fr f i s).1.length + i ≤ max p.length i
  | 0, i, _ => by simp [runF]; omega
  | f + 1, i, s => by
    rw [runF]
    split
    · simp only [List.length_cons]
      have := runF_lt p fr f (stepTo (p.getD i tL.dflt) i s) (stepS fr (p.getD i tL.dflt) i s)
      have := stepTo_gt (p.getD i tL.dflt) i s
      omega
    · simp; omega
theorem runS_ok {p : List Lin} {s : List Int} (h : validS s = true) : validS (runS p s) = true := (runF_ok p noFrc _ 0 s h).1
theorem visits_len (p : List Lin) (fr : Frc) (s : List Int) : (visits p fr s).length ≤ p.length := by have := runF_lt p fr (p.length + 1) 0 s; unfold visits; omega
theorem visits_ok {p : List Lin} {fr : Frc} {s : List Int} (h : validS s = true) : ∀ v ∈ visits p fr s, 0 ≤ v.1 ∧ v.1 < p.length ∧ validS v.2.1 = true := fun v hv => by
  have := (runF_ok p fr _ 0 s h).2 v hv
  exact ⟨by omega, this.2⟩

def err1 (p : List Lin) (s : List Int) : Int := if validP p = 0 then argErr (validS s) else validP p
theorem err1_ok {p : List Lin} {s : List Int} (h : err1 p s = 0) : validP p = 0 ∧ validS s = true := by
  unfold err1 at h
  split at h
  · exact ⟨by assumption, argErr_zero.1 h⟩
  · rename_i g; exact absurd h g

theorem validLine_at {p : List Lin} (h : p.all validLine = true) {i : Nat} (hi : i < p.length) : validLine (p.getD i tL.dflt) = true := List.all_eq_true.1 h _ (mem_getD hi)
/-- What is known of the numbers of a right line. -/
theorem line_regs {l : Lin} (h : validLine l = true) : (2 ≤ l.1 ∧ l.1 ≤ 7 → 0 ≤ l.2.2.1 ∧ l.2.2.1 ≤ 3) ∧ (3 ≤ l.1 ∧ l.1 ≤ 7 → 0 ≤ l.2.2.2.1 ∧ l.2.2.2.1 ≤ 3) ∧ (1 ≤ l.1 ∧ l.1 ≤ 6 → 0 ≤ l.2.1 ∧ l.2.1 ≤ 3) ∧ (l.1 = 7 → 1 ≤ l.2.1 ∧ l.2.1 ≤ 8) ∧ (l.1 = 1 → -9 ≤ l.2.2.1 ∧ l.2.2.1 ≤ 9) ∧ 0 ≤ l.1 ∧ l.1 ≤ 7 := by
  obtain ⟨op, t, x, y, ⟨⟩⟩ := l
  exact validLine_regs h

/-- What a function that is handed over forces. -/
def frcOf (F : Int × Unit → Int × Bool × Unit) : Frc := fun i => if (F (i, ())).2.1 = true then some (F (i, ())).1 else none

end Go.Tk
set_option linter.unusedSimpArgs false
set_option linter.unusedVariables false
namespace Go.Tk
open Go Go.RowKit

def allOps : List Opn := [tOpn.dflt, (0, (fun (x : (Int × Int × Int × Unit)) => True, fun (x : (Int × Int × Int × Unit)) => (x.2.2.1, ())), ()), (1, (fun (x : (Int × Int × Int × Unit)) => True, fun (x : (Int × Int × Int × Unit)) => (x.1, ())), ()), (2, (fun (x : (Int × Int × Int × Unit)) => inI (x.1 + x.2.1), fun (x : (Int × Int × Int × Unit)) => (x.1 + x.2.1, ())), ()), (2, (fun (x : (Int × Int × Int × Unit)) => inI (x.1 - x.2.1), fun (x : (Int × Int × Int × Unit)) => (x.1 - x.2.1, ())), ()), (2, (fun (x : (Int × Int × Int × Unit)) => True, fun (x : (Int × Int × Int × Unit)) => (min x.1 x.2.1, ())), ()), (2, (fun (x : (Int × Int × Int × Unit)) => True, fun (x : (Int × Int × Int × Unit)) => (max x.1 x.2.1, ())), ()), (2, (T.fn (.cons .int (.cons .int (.cons .int .nil))) (.cons .int .nil)).dflt, ())]
abbrev cOp1 : Con := { A := (.cons .int (.cons .int (.cons .int .nil))), R := (.cons .int .nil), pre := fun x => True, F := fun x => (x.2.2.1, ()) }
def cOp1_0  (a : Int) (b : Int) (number : Int) (y0 : Int) : Prop :=
  number = y0 ∧ True
theorem cOp1_law (h : ∀ (a : Int) (b : Int) (number : Int), cOp1.A.wf (a, b, number, ()) → cOp1_0  a b number number) : ConOK Go.Proofs.Try.prog 146 cOp1 := by
  refine lawL (Γ := []) (Θ := Th) (n := 8) [] trivial (by kernel_rfl) th_ok mix_ok Go.Proofs.Try.func146 (by kernel_rfl) ?_
  intro x hw hp Λ hC
  have h0 := h x.1 x.2.1 x.2.2.1 hw  
  exact Eq.mpr (by kernel_rfl) h0
theorem cOp1_ok : ConOK Go.Proofs.Try.prog 146 cOp1 := by
  refine cOp1_law ?_
  intro a b number hw
  unfold cOp1_0
  exact ⟨rfl, trivial⟩
abbrev cOp2 : Con := { A := (.cons .int (.cons .int (.cons .int .nil))), R := (.cons .int .nil), pre := fun x => True, F := fun x => (x.1, ()) }
def cOp2_0  (a : Int) (b : Int) (number : Int) (y0 : Int) : Prop :=
  a = y0 ∧ True
theorem cOp2_law (h : ∀ (a : Int) (b : Int) (number : Int), cOp2.A.wf (a, b, number, ()) → cOp2_0  a b number a) : ConOK Go.Proofs.Try.prog 147 cOp2 := by
  refine lawL (Γ := []) (Θ := Th) (n := 8) [] trivial (by kernel_rfl) th_ok mix_ok Go.Proofs.Try.func147 (by kernel_rfl) ?_
  intro x hw hp Λ hC
  have h0 := h x.1 x.2.1 x.2.2.1 hw  
  exact Eq.mpr (by kernel_rfl) h0
theorem cOp2_ok : ConOK Go.Proofs.Try.prog 147 cOp2 := by
  refine cOp2_law ?_
  intro a b number hw
  unfold cOp2_0
  exact ⟨rfl, trivial⟩
abbrev cOp3 : Con := { A := (.cons .int (.cons .int (.cons .int .nil))), R := (.cons .int .nil), pre := fun x => inI (x.1 + x.2.1), F := fun x => (x.1 + x.2.1, ()) }
def cOp3_0  (a : Int) (b : Int) (number : Int) (y0 : Int) : Prop :=
  inI (a + b) ∧ ((a + b) = y0 ∧ True)
theorem cOp3_law (h : ∀ (a : Int) (b : Int) (number : Int), cOp3.A.wf (a, b, number, ()) → (inI (a + b)) → cOp3_0  a b number (a + b)) : ConOK Go.Proofs.Try.prog 148 cOp3 := by
  refine lawL (Γ := []) (Θ := Th) (n := 10) [] trivial (by kernel_rfl) th_ok mix_ok Go.Proofs.Try.func148 (by kernel_rfl) ?_
  intro x hw hp Λ hC
  have h0 := h x.1 x.2.1 x.2.2.1 hw hp  
  exact Eq.mpr (by kernel_rfl) h0
theorem cOp3_ok : ConOK Go.Proofs.Try.prog 148 cOp3 := by
  refine cOp3_law ?_
  intro a b number hw hp
  unfold cOp3_0
  exact ⟨hp, rfl, trivial⟩
abbrev cOp4 : Con := { A := (.cons .int (.cons .int (.cons .int .nil))), R := (.cons .int .nil), pre := fun x => inI (x.1 - x.2.1), F := fun x => (x.1 - x.2.1, ()) }
def cOp4_0  (a : Int) (b : Int) (number : Int) (y0 : Int) : Prop :=
  inI (a - b) ∧ ((a - b) = y0 ∧ True)
theorem cOp4_law (h : ∀ (a : Int) (b : Int) (number : Int), cOp4.A.wf (a, b, number, ()) → (inI (a - b)) → cOp4_0  a b number (a - b)) : ConOK Go.Proofs.Try.prog 149 cOp4 := by
  refine lawL (Γ := []) (Θ := Th) (n := 10) [] trivial (by kernel_rfl) th_ok mix_ok Go.Proofs.Try.func149 (by kernel_rfl) ?_
  intro x hw hp Λ hC
  have h0 := h x.1 x.2.1 x.2.2.1 hw hp  
  exact Eq.mpr (by kernel_rfl) h0
theorem cOp4_ok : ConOK Go.Proofs.Try.prog 149 cOp4 := by
  refine cOp4_law ?_
  intro a b number hw hp
  unfold cOp4_0
  exact ⟨hp, rfl, trivial⟩
abbrev cOp5 : Con := { A := (.cons .int (.cons .int (.cons .int .nil))), R := (.cons .int .nil), pre := fun x => True, F := fun x => (min x.1 x.2.1, ()) }
def cOp5_0  (a : Int) (b : Int) (number : Int) (y0 : Int) : Prop :=
  (min a b) = y0 ∧ True
theorem cOp5_law (h : ∀ (a : Int) (b : Int) (number : Int), cOp5.A.wf (a, b, number, ()) → cOp5_0  a b number (min a b)) : ConOK Go.Proofs.Try.prog 150 cOp5 := by
  refine lawL (Γ := []) (Θ := Th) (n := 10) [] trivial (by kernel_rfl) th_ok mix_ok Go.Proofs.Try.func150 (by kernel_rfl) ?_
  intro x hw hp Λ hC
  have h0 := h x.1 x.2.1 x.2.2.1 hw  
  exact Eq.mpr (by kernel_rfl) h0
theorem cOp5_ok : ConOK Go.Proofs.Try.prog 150 cOp5 := by
  refine cOp5_law ?_
  intro a b number hw
  unfold cOp5_0
  exact ⟨rfl, trivial⟩
abbrev cOp6 : Con := { A := (.cons .int (.cons .int (.cons .int .nil))), R := (.cons .int .nil), pre := fun x => True, F := fun x => (max x.1 x.2.1, ()) }
def cOp6_0  (a : Int) (b : Int) (number : Int) (y0 : Int) : Prop :=
  (max a b) = y0 ∧ True
theorem cOp6_law (h : ∀ (a : Int) (b : Int) (number : Int), cOp6.A.wf (a, b, number, ()) → cOp6_0  a b number (max a b)) : ConOK Go.Proofs.Try.prog 151 cOp6 := by
  refine lawL (Γ := []) (Θ := Th) (n := 10) [] trivial (by kernel_rfl) th_ok mix_ok Go.Proofs.Try.func151 (by kernel_rfl) ?_
  intro x hw hp Λ hC
  have h0 := h x.1 x.2.1 x.2.2.1 hw  
  exact Eq.mpr (by kernel_rfl) h0
theorem cOp6_ok : ConOK Go.Proofs.Try.prog 151 cOp6 := by
  refine cOp6_law ?_
  intro a b number hw
  unfold cOp6_0
  exact ⟨rfl, trivial⟩
abbrev cOperations : Con := { A := .nil, R := (.cons (.arr 8 tOpn) .nil), pre := fun x => True, F := fun x => (allOps, ()) }
def cOperations_0   (y0 : (List Opn)) : Prop :=
  (List.set (List.set (List.set (List.set (List.set (List.set (List.set (List.replicate 8 tOpn.dflt) 1 (0, (fun (xx : (Int × Int × Int × Unit)) => True, fun (xx : (Int × Int × Int × Unit)) => (xx.2.2.1, ())), ())) 2 (1, (fun (xx : (Int × Int × Int × Unit)) => True, fun (xx : (Int × Int × Int × Unit)) => (xx.1, ())), ())) 3 (2, (fun (xx : (Int × Int × Int × Unit)) => inI (xx.1 + xx.2.1), fun (xx : (Int × Int × Int × Unit)) => (xx.1 + xx.2.1, ())), ())) 4 (2, (fun (xx : (Int × Int × Int × Unit)) => inI (xx.1 - xx.2.1), fun (xx : (Int × Int × Int × Unit)) => (xx.1 - xx.2.1, ())), ())) 5 (2, (fun (xx : (Int × Int × Int × Unit)) => True, fun (xx : (Int × Int × Int × Unit)) => (min xx.1 xx.2.1, ())), ())) 6 (2, (fun (xx : (Int × Int × Int × Unit)) => True, fun (xx : (Int × Int × Int × Unit)) => (max xx.1 xx.2.1, ())), ())) 7 (2, (T.fn (.cons .int (.cons .int (.cons .int .nil))) (.cons .int .nil)).dflt, ())) = y0 ∧ True
theorem cOperations_law (h : cOperations.A.wf (()) → cOperations_0   allOps) : ConOK Go.Proofs.Try.prog 141 cOperations := by
  refine lawL (Γ := [(146, cOp1), (147, cOp2), (148, cOp3), (149, cOp4), (150, cOp5), (151, cOp6)]) (Θ := Th) (n := 9) [] ⟨cOp1_ok, cOp2_ok, cOp3_ok, cOp4_ok, cOp5_ok, cOp6_ok, trivial⟩ (by kernel_rfl) th_ok mix_ok Go.Proofs.Try.func141 (by kernel_rfl) ?_
  intro x hw hp Λ hC
  have h0 := h  hw  
  exact Eq.mpr (by kernel_rfl) h0
theorem cOperations_ok : ConOK Go.Proofs.Try.prog 141 cOperations := by
  refine cOperations_law ?_
  intro hw
  unfold cOperations_0
  exact ⟨rfl, trivial⟩
abbrev cWrites1 : Con := { A := (.cons tL .nil), R := (.cons .int (.cons .bool .nil)), pre := fun x => True, F := fun x => ((if writes x.1 then x.1.2.1 else 0), writes x.1, ()) }
def cWrites1_0  (l : Lin) (y0 : Int) (y1 : Bool) : Prop :=
  True ∧ (if (within l.1 (1 : Int) (6 : Int)) = true then (l.2.1 = y0 ∧ true = y1 ∧ True) else ((0 : Int) = y0 ∧ false = y1 ∧ True))
theorem cWrites1_law (h : ∀ (l : Lin), cWrites1.A.wf (l, ()) → cWrites1_0  l (if writes l then l.2.1 else 0) (writes l)) : ConOK Go.Proofs.Try.prog 142 cWrites1 := by
  refine lawL (Γ := [(134, cWithin1)]) (Θ := Th) (n := 9) [] ⟨cWithin1_ok, trivial⟩ (by kernel_rfl) th_ok mix_ok Go.Proofs.Try.func142 (by kernel_rfl) ?_
  intro x hw hp Λ hC
  have h0 := h x.1 hw  
  exact Eq.mpr (by kernel_rfl) h0
theorem cWrites1_ok : ConOK Go.Proofs.Try.prog 142 cWrites1 := by
  refine cWrites1_law ?_
  intro l hw
  unfold cWrites1_0
  refine ⟨trivial, ?_⟩
  by_cases h : 1 ≤ l.1 ∧ l.1 ≤ 6
  · have e : writes l = true := by unfold writes; simpa using h
    rw [if_pos (within_iff.2 h), if_pos e]
    exact ⟨rfl, e.symm, trivial⟩
  · have e : writes l = false := by unfold writes; simpa using h
    rw [if_neg (fun g => h (within_iff.1 g)), if_neg (by rw [e]; simp)]
    exact ⟨rfl, e.symm, trivial⟩
abbrev cRun0 : Con := { A := (.cons (.sl tL) (.cons (.sl .int) (.cons (.fn (.cons .int .nil) (.cons .int (.cons .bool .nil))) .nil))), R := (.cons (.osl tVis) (.cons (.arr 4 .int) .nil)), pre := fun x => validP x.1 = 0 ∧ validS x.2.1 = true ∧ ∀ i', x.2.2.1.1 (i', ()), F := fun x => (visits x.1 (frcOf x.2.2.1.2) x.2.1, endS x.1 (frcOf x.2.2.1.2) x.2.1, ()) }
def cRun0_0 (Λ1 : Int → (List Int) → (List Vis) → Prop) (Λ2 : Int → (List Int) → (List Vis) → Int → Prop) (p : (List Lin)) (in_ : (List Int)) (forced : (T.fn (.cons .int .nil) (.cons .int (.cons .bool .nil))).den) (y0 : (List Vis)) (y1 : (List Int)) : Prop :=
  True ∧ (True ∧ Λ1 (0 : Int) (List.append (List.take (List.length (List.replicate 4 0)) in_) (List.drop (List.length in_) (List.replicate 4 0))) ([] : List Vis))
def cRun0_1 (Λ1 : Int → (List Int) → (List Vis) → Prop) (Λ2 : Int → (List Int) → (List Vis) → Int → Prop) (p : (List Lin)) (in_ : (List Int)) (forced : (T.fn (.cons .int .nil) (.cons .int (.cons .bool .nil))).den) (y0 : (List Vis)) (y1 : (List Int))  (i_1 : Int) (now_1 : (List Int)) (out_1 : (List Vis)) : Prop :=
  if (decide (i_1 < (List.length p : Int))) = true then (idx i_1 (List.length p : Int) ∧ (List.length out_1 + List.length [(i_1, now_1, ())] ≤ 4294967296 ∧ (if ((List.getD p (Int.toNat i_1) tL.dflt).1 == (7 : Int)) = true then (idx ((List.getD p (Int.toNat i_1) tL.dflt).2.2.1) (4 : Int) ∧ (idx ((List.getD p (Int.toNat i_1) tL.dflt).2.2.2.1) (4 : Int) ∧ (if (decide ((List.getD now_1 (Int.toNat ((List.getD p (Int.toNat i_1) tL.dflt).2.2.1)) 0) < (List.getD now_1 (Int.toNat ((List.getD p (Int.toNat i_1) tL.dflt).2.2.2.1)) 0))) = true then (inI (i_1 + (List.getD p (Int.toNat i_1) tL.dflt).2.1) ∧ (inI ((i_1 + (List.getD p (Int.toNat i_1) tL.dflt).2.1) + (1 : Int)) ∧ Λ1 ((i_1 + (List.getD p (Int.toNat i_1) tL.dflt).2.1) + (1 : Int)) now_1 (out_1 ++ [(i_1, now_1, ())]))) else (inI (i_1 + (1 : Int)) ∧ Λ1 (i_1 + (1 : Int)) now_1 (out_1 ++ [(i_1, now_1, ())]))))) else (True ∧ (if (!(writes (List.getD p (Int.toNat i_1) tL.dflt))) = true then (inI (i_1 + (1 : Int)) ∧ Λ1 (i_1 + (1 : Int)) now_1 (out_1 ++ [(i_1, now_1, ())])) else (forced.1 (i_1, ()) ∧ (if (!((forced.2 (i_1, ())).2.1)) = true then (idx ((List.getD p (Int.toNat i_1) tL.dflt).1) (8 : Int) ∧ (if (decide ((List.getD allOps (Int.toNat ((List.getD p (Int.toNat i_1) tL.dflt).1)) tOpn.dflt).1 > (0 : Int))) = true then (idx ((List.getD p (Int.toNat i_1) tL.dflt).2.2.1) (4 : Int) ∧ Λ2 i_1 now_1 out_1 (List.getD now_1 (Int.toNat ((List.getD p (Int.toNat i_1) tL.dflt).2.2.1)) 0)) else Λ2 i_1 now_1 out_1 (0 : Int))) else (idx ((if writes (List.getD p (Int.toNat i_1) tL.dflt) then (List.getD p (Int.toNat i_1) tL.dflt).2.1 else 0)) (4 : Int) ∧ (inI (i_1 + (1 : Int)) ∧ Λ1 (i_1 + (1 : Int)) (List.set now_1 (Int.toNat ((if writes (List.getD p (Int.toNat i_1) tL.dflt) then (List.getD p (Int.toNat i_1) tL.dflt).2.1 else 0))) (max (-999 : Int) (min (999 : Int) ((forced.2 (i_1, ())).1)))) (out_1 ++ [(i_1, now_1, ())])))))))))) else (now_1 = y1 ∧ out_1 = y0)
def cRun0_2 (Λ1 : Int → (List Int) → (List Vis) → Prop) (Λ2 : Int → (List Int) → (List Vis) → Int → Prop) (p : (List Lin)) (in_ : (List Int)) (forced : (T.fn (.cons .int .nil) (.cons .int (.cons .bool .nil))).den) (y0 : (List Vis)) (y1 : (List Int)) (i_1 : Int) (now_1 : (List Int)) (out_1 : (List Vis)) (a_2 : Int) : Prop :=
  idx ((List.getD p (Int.toNat i_1) tL.dflt).1) (8 : Int) ∧ (if (decide ((List.getD allOps (Int.toNat ((List.getD p (Int.toNat i_1) tL.dflt).1)) tOpn.dflt).1 > (1 : Int))) = true then (idx ((List.getD p (Int.toNat i_1) tL.dflt).2.2.2.1) (4 : Int) ∧ (idx ((List.getD p (Int.toNat i_1) tL.dflt).1) (8 : Int) ∧ (((List.getD allOps (Int.toNat ((List.getD p (Int.toNat i_1) tL.dflt).1)) tOpn.dflt).2.1).1 (a_2, (List.getD now_1 (Int.toNat ((List.getD p (Int.toNat i_1) tL.dflt).2.2.2.1)) 0), (List.getD p (Int.toNat i_1) tL.dflt).2.2.1, ()) ∧ (idx ((if writes (List.getD p (Int.toNat i_1) tL.dflt) then (List.getD p (Int.toNat i_1) tL.dflt).2.1 else 0)) (4 : Int) ∧ (inI (i_1 + (1 : Int)) ∧ Λ1 (i_1 + (1 : Int)) (List.set now_1 (Int.toNat ((if writes (List.getD p (Int.toNat i_1) tL.dflt) then (List.getD p (Int.toNat i_1) tL.dflt).2.1 else 0))) (max (-999 : Int) (min (999 : Int) ((((List.getD allOps (Int.toNat ((List.getD p (Int.toNat i_1) tL.dflt).1)) tOpn.dflt).2.1).2 (a_2, (List.getD now_1 (Int.toNat ((List.getD p (Int.toNat i_1) tL.dflt).2.2.2.1)) 0), (List.getD p (Int.toNat i_1) tL.dflt).2.2.1, ())).1)))) (out_1 ++ [(i_1, now_1, ())])))))) else (idx ((List.getD p (Int.toNat i_1) tL.dflt).1) (8 : Int) ∧ (((List.getD allOps (Int.toNat ((List.getD p (Int.toNat i_1) tL.dflt).1)) tOpn.dflt).2.1).1 (a_2, 0, (List.getD p (Int.toNat i_1) tL.dflt).2.2.1, ()) ∧ (idx ((if writes (List.getD p (Int.toNat i_1) tL.dflt) then (List.getD p (Int.toNat i_1) tL.dflt).2.1 else 0)) (4 : Int) ∧ (inI (i_1 + (1 : Int)) ∧ Λ1 (i_1 + (1 : Int)) (List.set now_1 (Int.toNat ((if writes (List.getD p (Int.toNat i_1) tL.dflt) then (List.getD p (Int.toNat i_1) tL.dflt).2.1 else 0))) (max (-999 : Int) (min (999 : Int) ((((List.getD allOps (Int.toNat ((List.getD p (Int.toNat i_1) tL.dflt).1)) tOpn.dflt).2.1).2 (a_2, 0, (List.getD p (Int.toNat i_1) tL.dflt).2.2.1, ())).1)))) (out_1 ++ [(i_1, now_1, ())]))))))
theorem cRun0_law (h : ∀ (p : (List Lin)) (in_ : (List Int)) (forced : (T.fn (.cons .int .nil) (.cons .int (.cons .bool .nil))).den), cRun0.A.wf (p, in_, forced, ()) → (validP p = 0 ∧ validS in_ = true ∧ ∀ i', forced.1 (i', ())) → ∀ (Λ1 : Int → (List Int) → (List Vis) → Prop) (Λ2 : Int → (List Int) → (List Vis) → Int → Prop), (∀ (i_1 : Int) (now_1 : (List Int)) (out_1 : (List Vis)), cRun0_1 Λ1 Λ2 p in_ forced (visits p (frcOf forced.2) in_) (endS p (frcOf forced.2) in_) i_1 now_1 out_1 → Λ1 i_1 now_1 out_1) → (∀ (i_1 : Int) (now_1 : (List Int)) (out_1 : (List Vis)) (a_2 : Int), cRun0_2 Λ1 Λ2 p in_ forced (visits p (frcOf forced.2) in_) (endS p (frcOf forced.2) in_) i_1 now_1 out_1 a_2 → Λ2 i_1 now_1 out_1 a_2) → cRun0_0 Λ1 Λ2 p in_ forced (visits p (frcOf forced.2) in_) (endS p (frcOf forced.2) in_)) : ConOK Go.Proofs.Try.prog 128 cRun0 := by
  refine lawL (Γ := [(141, cOperations), (142, cWrites1)]) (Θ := Th) (n := 107) [([1, 1, 1, 1, 1, 0, 1, 0], ⟨[(0, false), (2, false), (7, true), (8, true), (9, true), (10, true), (11, true)], [(7, true), (8, true), (9, true), (10, true)]⟩), ([1, 1, 1, 1, 1, 0, 1, 0, 0, 1, 0, 0, 1, 1, 1, 1, 1, 1, 0, 1, 0, 1, 2], ⟨[(0, false), (2, false), (7, true), (8, true), (9, true), (10, true), (11, true), (12, true), (13, true), (17, true), (18, true)], [(7, true), (8, true), (9, true), (10, true), (12, true)]⟩)] ⟨cOperations_ok, cWrites1_ok, trivial⟩ (by kernel_rfl) th_ok mix_ok Go.Proofs.Try.func128 (by kernel_rfl) ?_
  intro x hw hp Λ hC
  have h0 := h x.1 x.2.1 x.2.2.1 hw hp (fun i_1 now_1 out_1 => Λ [1, 1, 1, 1, 1, 0, 1, 0] ([(0, .d false (.sl tL) x.1), (2, .d false (.fn (.cons .int .nil) (.cons .int (.cons .bool .nil))) x.2.2.1), (7, .ptr 7 0 []), (8, .ptr 8 0 []), (9, .ptr 9 0 []), (10, .own 10 0), (11, .d true .int i_1)], [(7, .box true (.arr 4 .int) (List.replicate 4 0)), (8, .box true (.arr 4 .int) now_1), (9, .box true (.arr 8 tOpn) allOps), (10, .sl true tVis out_1)])) (fun i_1 now_1 out_1 a_2 => Λ [1, 1, 1, 1, 1, 0, 1, 0, 0, 1, 0, 0, 1, 1, 1, 1, 1, 1, 0, 1, 0, 1, 2] ([(0, .d false (.sl tL) x.1), (2, .d false (.fn (.cons .int .nil) (.cons .int (.cons .bool .nil))) x.2.2.1), (7, .ptr 7 0 []), (8, .ptr 8 0 []), (9, .ptr 9 0 []), (10, .own 10 0), (11, .d true .int i_1), (12, .ptr 12 0 []), (13, .d true .int ((if writes (List.getD x.1 (Int.toNat i_1) tL.dflt) then (List.getD x.1 (Int.toNat i_1) tL.dflt).2.1 else 0))), (17, .d true .int a_2), (18, .d true .int 0)], [(7, .box true (.arr 4 .int) (List.replicate 4 0)), (8, .box true (.arr 4 .int) now_1), (9, .box true (.arr 8 tOpn) allOps), (10, .sl true tVis (out_1 ++ [(i_1, now_1, ())])), (12, .box true tL (List.getD x.1 (Int.toNat i_1) tL.dflt))])) (fun i_1 now_1 out_1 hb => hC [1, 1, 1, 1, 1, 0, 1, 0] ([(0, .d false (.sl tL) x.1), (2, .d false (.fn (.cons .int .nil) (.cons .int (.cons .bool .nil))) x.2.2.1), (7, .ptr 7 0 []), (8, .ptr 8 0 []), (9, .ptr 9 0 []), (10, .own 10 0), (11, .d true .int i_1)], [(7, .box true (.arr 4 .int) (List.replicate 4 0)), (8, .box true (.arr 4 .int) now_1), (9, .box true (.arr 8 tOpn) allOps), (10, .sl true tVis out_1)]) (Eq.mpr (by kernel_rfl) hb)) (fun i_1 now_1 out_1 a_2 hb => hC [1, 1, 1, 1, 1, 0, 1, 0, 0, 1, 0, 0, 1, 1, 1, 1, 1, 1, 0, 1, 0, 1, 2] ([(0, .d false (.sl tL) x.1), (2, .d false (.fn (.cons .int .nil) (.cons .int (.cons .bool .nil))) x.2.2.1), (7, .ptr 7 0 []), (8, .ptr 8 0 []), (9, .ptr 9 0 []), (10, .own 10 0), (11, .d true .int i_1), (12, .ptr 12 0 []), (13, .d true .int ((if writes (List.getD x.1 (Int.toNat i_1) tL.dflt) then (List.getD x.1 (Int.toNat i_1) tL.dflt).2.1 else 0))), (17, .d true .int a_2), (18, .d true .int 0)], [(7, .box true (.arr 4 .int) (List.replicate 4 0)), (8, .box true (.arr 4 .int) now_1), (9, .box true (.arr 8 tOpn) allOps), (10, .sl true tVis (out_1 ++ [(i_1, now_1, ())])), (12, .box true tL (List.getD x.1 (Int.toNat i_1) tL.dflt))]) (Eq.mpr (by kernel_rfl) hb))
  exact Eq.mpr (by kernel_rfl) h0
theorem cRun0_ok : ConOK Go.Proofs.Try.prog 128 cRun0 := by
  refine cRun0_law ?_
  intro p in_ forced hw hp Λ1 Λ2 h1 h2
  unfold cRun0_0
  obtain ⟨p1, p2, p3⟩ := hp
  obtain ⟨h8, hall⟩ := validP_ok p1
  have l4 := validS_len p2
  have key : ∀ (f i : Nat) (s : List Int) (out : List Vst), validS s = true → p.length < i + f → out.length ≤ i → visits p (frcOf forced.2) in_ = out ++ (runF p (frcOf forced.2) f i s).1 → endS p (frcOf forced.2) in_ = (runF p (frcOf forced.2) f i s).2 → Λ1 (i : Int) s out := by
    intro f
    induction f with
    | zero =>
      intro i s out hs hf ho e1 e2
      apply h1; unfold cRun0_1; rw [if_neg (by simp; omega)]
      exact ⟨e2.symm, by rw [e1]; simp [runF]⟩
    | succ f ih =>
      intro i s out hs hf ho e1 e2
      rw [runF] at e1 e2
      by_cases hi : i < p.length
      · rw [if_pos hi] at e1 e2
        have hl := validLine_at hall hi
        have hgt := stepTo_gt (List.getD p i tL.dflt) i s
        have nx := ih (stepTo (List.getD p i tL.dflt) i s) (stepS (frcOf forced.2) (List.getD p i tL.dflt) i s) (out ++ [((i : Int), s, ())]) (stepS_ok _ _ i hs) (by omega) (by rw [List.length_append]; simp only [List.length_cons, List.length_nil]; omega) (by rw [e1]; simp) e2
        have l4s := validS_len hs
        have J : ∀ a2, writes (List.getD p i tL.dflt) = true → (forced.2 ((i : Int), ())).2.1 = false → a2 = (if (List.getD p i tL.dflt).1 = 1 then 0 else Rg s (List.getD p i tL.dflt).2.2.1) → Λ2 i s out a2 := by
          intro a2 hw hfr ha
          have efr : frcOf forced.2 (i : Int) = none := by unfold frcOf; rw [if_neg (by rw [hfr]; simp)]
          apply h2; unfold cRun0_2; rw [Int.toNat_natCast]
          unfold stepS stepTo wnum at nx
          rw [efr] at nx
          generalize List.getD p i tL.dflt = l at *
          have hr := line_regs hl
          have hw2 : 1 ≤ l.1 ∧ l.1 ≤ 6 := by unfold writes at hw; simpa using hw
          rw [if_neg (by rintro ⟨h, _⟩; omega), if_pos hw] at nx
          have it := hr.2.2.1 hw2
          rw [if_pos hw]
          obtain ⟨op, t, x, y, ⟨⟩⟩ := l
          have I8 : idx op (8 : Int) := ⟨by dsimp only at hw2; omega, by dsimp only at hw2; omega⟩
          have I4 : idx t (4 : Int) := ⟨by dsimp only at it; omega, by dsimp only at it; omega⟩
          have hn : inI ((i : Int) + 1) := inI_succ hi (by omega)
          have c : op = 1 ∨ op = 2 ∨ op = 3 ∨ op = 4 ∨ op = 5 ∨ op = 6 := by dsimp only at hw2; omega
          rcases c with rfl | rfl | rfl | rfl | rfl | rfl
          · exact ⟨I8, I8, trivial, I4, hn, nx⟩
          · rw [if_neg (by simp)] at ha
            subst ha
            exact ⟨I8, I8, trivial, I4, hn, nx⟩
          all_goals
            rw [if_neg (by simp)] at ha
            subst ha
            have iy := hr.2.1 (by dsimp only; omega)
            dsimp only at iy
            have gx := validS_get hs x
            have gy := validS_get hs y
            have Iy : idx y (4 : Int) := ⟨iy.1, by omega⟩
            first
              | exact ⟨I8, Iy, I8, trivial, I4, hn, nx⟩
              | exact ⟨I8, Iy, I8, (by show inI (Rg s x + Rg s y); unfold inI; omega), I4, hn, nx⟩
              | exact ⟨I8, Iy, I8, (by show inI (Rg s x - Rg s y); unfold inI; omega), I4, hn, nx⟩
        apply h1; unfold cRun0_1; rw [if_pos (by simpa using hi), Int.toNat_natCast]
        have hr := line_regs hl
        have hn : inI ((i : Int) + 1) := inI_succ hi (by omega)
        refine ⟨idx_nat hi, by simp only [List.length_cons, List.length_nil]; omega, ?_⟩
        unfold stepS stepTo wnum at nx
        generalize List.getD p i tL.dflt = l at *
        by_cases h7 : l.1 = 7
        · rw [if_pos (by simpa using h7)]
          have ix := hr.1 (by omega)
          have iy := hr.2.1 (by omega)
          have it := hr.2.2.2.1 h7
          have hw : writes l = false := by unfold writes; simp only [decide_eq_false_iff_not]; omega
          rw [if_neg (show ¬ writes l = true by rw [hw]; simp)] at nx
          refine ⟨⟨ix.1, by omega⟩, ⟨iy.1, by omega⟩, ?_⟩
          by_cases hc : Rg s l.2.2.1 < Rg s l.2.2.2.1
          · rw [if_pos ⟨h7, hc⟩] at nx
            rw [if_pos (by unfold Rg at hc; simpa using hc)]
            refine ⟨by unfold inI; omega, by unfold inI; omega, ?_⟩
            rw [show ((i : Int) + l.2.1 + 1) = ((i + 1 + l.2.1.toNat : Nat) : Int) by omega]
            exact nx
          · rw [if_neg (by rintro ⟨_, h⟩; exact hc h)] at nx
            rw [if_neg (by unfold Rg at hc; simpa using hc)]
            exact ⟨hn, nx⟩
        · rw [if_neg (by simpa using h7)]
          rw [if_neg (by rintro ⟨h, _⟩; exact h7 h)] at nx
          refine ⟨trivial, ?_⟩
          cases hw : writes l
          · rw [hw] at nx
            rw [if_pos (by rfl)]
            exact ⟨hn, nx⟩
          · rw [if_neg (by simp)]
            have hw2 : 1 ≤ l.1 ∧ l.1 ≤ 6 := by unfold writes at hw; simpa using hw
            have it := hr.2.2.1 hw2
            refine ⟨p3 _, ?_⟩
            cases hfr : (forced.2 ((i : Int), ())).2.1
            · rw [if_pos (by rfl)]
              refine ⟨⟨by omega, by omega⟩, ?_⟩
              have J' := fun a2 => J a2 hw hfr
              obtain ⟨op, t, x, y, ⟨⟩⟩ := l
              have c : op = 1 ∨ op = 2 ∨ op = 3 ∨ op = 4 ∨ op = 5 ∨ op = 6 := by dsimp only at hw2; omega
              rcases c with rfl | rfl | rfl | rfl | rfl | rfl
              · exact J' 0 rfl
              all_goals
                have ix := hr.1 (by dsimp only; omega)
                dsimp only at ix
                exact ⟨⟨ix.1, by dsimp only; omega⟩, J' _ rfl⟩
            · rw [if_neg (by simp)]
              have efr : frcOf forced.2 (i : Int) = some (forced.2 ((i : Int), ())).1 := by unfold frcOf; rw [if_pos hfr]
              rw [efr, if_pos hw] at nx
              simp only [eq_self, if_true]
              exact ⟨⟨it.1, by omega⟩, hn, nx⟩
      · rw [if_neg hi] at e1 e2
        apply h1; unfold cRun0_1; rw [if_neg (by simpa using hi)]
        exact ⟨e2.symm, by rw [e1]; simp⟩
  refine ⟨trivial, trivial, ?_⟩
  show Λ1 0 (List.take 4 in_ ++ List.drop in_.length (List.replicate 4 0)) []
  rw [List.take_of_length_le (by omega), List.drop_of_length_le (by rw [List.length_replicate]; omega), List.append_nil]
  exact key (p.length + 1) 0 in_ [] p2 (by omega) (Nat.zero_le _) rfl rfl
abbrev cFree : Con := { A := (.cons .int .nil), R := (.cons .int (.cons .bool .nil)), pre := fun x => True, F := fun x => (0, false, ()) }
def cFree_0  (a0 : Int) (y0 : Int) (y1 : Bool) : Prop :=
  (0 : Int) = y0 ∧ false = y1 ∧ True
theorem cFree_law (h : ∀ (a0 : Int), cFree.A.wf (a0, ()) → cFree_0  a0 0 false) : ConOK Go.Proofs.Try.prog 129 cFree := by
  refine lawL (Γ := []) (Θ := Th) (n := 4) [] trivial (by kernel_rfl) th_ok mix_ok Go.Proofs.Try.func129 (by kernel_rfl) ?_
  intro x hw hp Λ hC
  have h0 := h x.1 hw  
  exact Eq.mpr (by kernel_rfl) h0
theorem cFree_ok : ConOK Go.Proofs.Try.prog 129 cFree := by
  refine cFree_law ?_
  intro a0 hw
  unfold cFree_0
  exact ⟨rfl, rfl, trivial⟩
theorem frc_free : frcOf (fun (x : (Int × Unit)) => (0, false, ())) = noFrc := rfl

abbrev cRun : Con := { A := (.cons (.sl tL) (.cons (.sl .int) .nil)), R := (.cons (.osl .int) (.cons .int .nil)), pre := fun x => True, F := fun x => ((if err1 x.1 x.2.1 = 0 then runS x.1 x.2.1 else []), err1 x.1 x.2.1, ()) }
def cRun_0  (p : (List Lin)) (in_ : (List Int)) (y0 : (List Int)) (y1 : Int) : Prop :=
  True ∧ (if (((if validP p = 0 then argErr (validS in_) else validP p)) != (0 : Int)) = true then (((if validP p = 0 then argErr (validS in_) else validP p)) = y1 ∧ ([] : List Int) = y0) else ((validP p = 0 ∧ validS in_ = true ∧ ∀ i', (fun (xx : (Int × Unit)) => True, fun (xx : (Int × Unit)) => (0, false, ())).1 (i', ())) ∧ (True ∧ ((0 : Int) = y1 ∧ (endS p (frcOf (fun (xx : (Int × Unit)) => True, fun (xx : (Int × Unit)) => (0, false, ())).2) in_) = y0))))
theorem cRun_law (h : ∀ (p : (List Lin)) (in_ : (List Int)), cRun.A.wf (p, in_, ()) → cRun_0  p in_ (if err1 p in_ = 0 then runS p in_ else []) (err1 p in_)) : ConOK Go.Proofs.Try.prog 113 cRun := by
  refine lawL (Γ := [(127, cCheck1), (129, cFree), (128, cRun0)]) (Θ := Th) (n := 22) [] ⟨cCheck1_ok, cFree_ok, cRun0_ok, trivial⟩ (by kernel_rfl) th_ok mix_ok Go.Proofs.Try.func113 (by kernel_rfl) ?_
  intro x hw hp Λ hC
  have h0 := h x.1 x.2.1 hw  
  exact Eq.mpr (by kernel_rfl) h0
theorem cRun_ok : ConOK Go.Proofs.Try.prog 113 cRun := by
  refine cRun_law ?_
  intro p in_ hw
  unfold cRun_0
  refine ⟨trivial, ?_⟩
  show if (err1 p in_ != 0) = true then _ else _
  by_cases h : err1 p in_ = 0
  · rw [if_neg (by simp [h]), if_pos h, h]
    have := err1_ok h
    exact ⟨⟨this.1, this.2, fun _ => trivial⟩, trivial, rfl, rfl⟩
  · rw [if_pos (by simpa using h), if_neg h]
    exact ⟨rfl, rfl⟩
abbrev cDone : Con := { A := (.cons (.sl tL) (.cons (.sl .int) .nil)), R := (.cons (.sl .int) (.cons .int .nil)), pre := fun x => True, F := fun x => ((if err1 x.1 x.2.1 = 0 then doneS x.1 x.2.1 else []), err1 x.1 x.2.1, ()) }
def cDone_0 (Λ1 : Int → (List Int) → Prop) (p : (List Lin)) (in_ : (List Int)) (y0 : (List Int)) (y1 : Int) : Prop :=
  True ∧ (if (((if validP p = 0 then argErr (validS in_) else validP p)) != (0 : Int)) = true then (([] : List Int) = y0 ∧ ((if validP p = 0 then argErr (validS in_) else validP p)) = y1 ∧ True) else ((validP p = 0 ∧ validS in_ = true ∧ ∀ i', (fun (xx : (Int × Unit)) => True, fun (xx : (Int × Unit)) => (0, false, ())).1 (i', ())) ∧ Λ1 (0 : Int) ([] : List Int)))
def cDone_1 (Λ1 : Int → (List Int) → Prop) (p : (List Lin)) (in_ : (List Int)) (y0 : (List Int)) (y1 : Int)  (t26_1 : Int) (out_1 : (List Int)) : Prop :=
  if (decide (t26_1 < (List.length (visits p (frcOf (fun (xx : (Int × Unit)) => True, fun (xx : (Int × Unit)) => (0, false, ())).2) in_) : Int))) = true then (idx t26_1 (List.length (visits p (frcOf (fun (xx : (Int × Unit)) => True, fun (xx : (Int × Unit)) => (0, false, ())).2) in_) : Int) ∧ (List.length out_1 + List.length [(List.getD (visits p (frcOf (fun (xx : (Int × Unit)) => True, fun (xx : (Int × Unit)) => (0, false, ())).2) in_) (Int.toNat t26_1) tVis.dflt).1] ≤ 4294967296 ∧ (inI (t26_1 + (1 : Int)) ∧ Λ1 (t26_1 + (1 : Int)) (out_1 ++ [(List.getD (visits p (frcOf (fun (xx : (Int × Unit)) => True, fun (xx : (Int × Unit)) => (0, false, ())).2) in_) (Int.toNat t26_1) tVis.dflt).1])))) else (out_1 = y0 ∧ (0 : Int) = y1 ∧ True)
theorem cDone_law (h : ∀ (p : (List Lin)) (in_ : (List Int)), cDone.A.wf (p, in_, ()) → ∀ (Λ1 : Int → (List Int) → Prop), (∀ (t26_1 : Int) (out_1 : (List Int)), cDone_1 Λ1 p in_ (if err1 p in_ = 0 then doneS p in_ else []) (err1 p in_) t26_1 out_1 → Λ1 t26_1 out_1) → cDone_0 Λ1 p in_ (if err1 p in_ = 0 then doneS p in_ else []) (err1 p in_)) : ConOK Go.Proofs.Try.prog 116 cDone := by
  refine lawL (Γ := [(127, cCheck1), (129, cFree), (128, cRun0)]) (Θ := Th) (n := 37) [([1, 1, 1, 1, 0, 1, 0], ⟨[(9, true), (24, true), (25, true), (26, true)], [(9, true), (21, true)]⟩)] ⟨cCheck1_ok, cFree_ok, cRun0_ok, trivial⟩ (by kernel_rfl) th_ok mix_ok Go.Proofs.Try.func116 (by kernel_rfl) ?_
  intro x hw hp Λ hC
  have h0 := h x.1 x.2.1 hw (fun t26_1 out_1 => Λ [1, 1, 1, 1, 0, 1, 0] ([(9, .own 9 0), (24, .own 21 0), (25, .d true .int (List.length (visits x.1 (frcOf (fun (xx : (Int × Unit)) => True, fun (xx : (Int × Unit)) => (0, false, ())).2) x.2.1) : Int)), (26, .d true .int t26_1)], [(9, .sl true .int out_1), (21, .sl true tVis (visits x.1 (frcOf (fun (xx : (Int × Unit)) => True, fun (xx : (Int × Unit)) => (0, false, ())).2) x.2.1))])) (fun t26_1 out_1 hb => hC [1, 1, 1, 1, 0, 1, 0] ([(9, .own 9 0), (24, .own 21 0), (25, .d true .int (List.length (visits x.1 (frcOf (fun (xx : (Int × Unit)) => True, fun (xx : (Int × Unit)) => (0, false, ())).2) x.2.1) : Int)), (26, .d true .int t26_1)], [(9, .sl true .int out_1), (21, .sl true tVis (visits x.1 (frcOf (fun (xx : (Int × Unit)) => True, fun (xx : (Int × Unit)) => (0, false, ())).2) x.2.1))]) (Eq.mpr (by kernel_rfl) hb))
  exact Eq.mpr (by kernel_rfl) h0
theorem cDone_ok : ConOK Go.Proofs.Try.prog 116 cDone := by
  refine cDone_law ?_
  intro p in_ hw Λ1 h1
  unfold cDone_0
  refine ⟨trivial, ?_⟩
  show if (err1 p in_ != 0) = true then _ else _
  by_cases h : err1 p in_ = 0
  · rw [if_neg (by simp [h])]
    have g := err1_ok h
    refine ⟨⟨g.1, g.2, fun _ => trivial⟩, ?_⟩
    have h8 := (validP_ok g.1).1
    have hl := visits_len p noFrc in_
    refine upto (n := (visits p noFrc in_).length) (Q := fun i => Λ1 (i : Int) ((doneS p in_).take i)) ?_ ?_ 0 (Nat.zero_le _)
    · apply h1; unfold cDone_1
      show if (decide (((visits p noFrc in_).length : Int) < ((visits p noFrc in_).length : Int))) = true then _ else _
      rw [if_neg (by simp), if_pos h, List.take_of_length_le (by unfold doneS; simp)]
      exact ⟨rfl, h.symm, trivial⟩
    · intro i hi ih
      apply h1; unfold cDone_1
      show if (decide ((i : Int) < ((visits p noFrc in_).length : Int))) = true then _ else _
      rw [if_pos (by simpa using hi), Int.toNat_natCast]
      refine ⟨idx_nat hi, ?_, inI_succ hi (by omega), ?_⟩
      · simp only [doneS, List.length_take, List.length_map, List.length_cons, List.length_nil]; omega
      · rw [take_snoc 0 (by unfold doneS; simpa using hi)] at ih
        have e : (doneS p in_).getD i 0 = (List.getD (visits p noFrc in_) i tVis.dflt).1 := by unfold doneS; simp [List.getD_eq_getElem?_getD, hi]
        rw [e] at ih
        exact ih
  · rw [if_pos (by simpa using h), if_neg h]
    exact ⟨rfl, rfl, trivial⟩
end Go.Tk
set_option linter.unusedSimpArgs false
set_option linter.unusedVariables false
namespace Go.Tk
open Go Go.RowKit

abbrev cWritesR : Con := { A := (.cons tL .nil), R := (.cons .bool .nil), pre := fun x => True, F := fun x => (!(x.1.1 == 0) && !(x.1.1 == 7), ()) }
def cWritesR_0  (l : Lin) (y0 : Bool) : Prop :=
  if (l.1 != (0 : Int)) = true then (True ∧ ((bif true then (l.1 != (7 : Int)) else false) = y0 ∧ True)) else (false = false ∧ (false = y0 ∧ True))
theorem cWritesR_law (h : ∀ (l : Lin), cWritesR.A.wf (l, ()) → cWritesR_0  l (!(l.1 == 0) && !(l.1 == 7))) : ConOK Go.Proofs.Try.prog 131 cWritesR := by
  refine lawL (Γ := []) (Θ := Th) (n := 11) [] trivial (by kernel_rfl) th_ok mix_ok Go.Proofs.Try.func131 (by kernel_rfl) ?_
  intro x hw hp Λ hC
  have h0 := h x.1 hw  
  exact Eq.mpr (by kernel_rfl) h0
theorem cWritesR_ok : ConOK Go.Proofs.Try.prog 131 cWritesR := by
  refine cWritesR_law ?_
  intro l hw
  unfold cWritesR_0
  by_cases h : l.1 = 0 <;> by_cases h7 : l.1 = 7 <;> simp [h, h7, bne]
theorem writes_eq {l : Lin} (h : validLine l = true) : (!(l.1 == 0) && !(l.1 == 7)) = writes l := by
  have hr := line_regs h
  unfold writes
  rw [Bool.eq_iff_iff]
  simp only [Bool.and_eq_true, Bool.not_eq_true', beq_eq_false_iff_ne, decide_eq_true_eq]
  omega

abbrev cCutR : Con := { A := (.cons .int .nil), R := (.cons .int .nil), pre := fun x => True, F := fun x => (cut x.1, ()) }
def cCutR_0  (n : Int) (y0 : Int) : Prop :=
  if (decide (n < (-999 : Int))) = true then ((-999 : Int) = y0 ∧ True) else (if (decide (n > (999 : Int))) = true then ((999 : Int) = y0 ∧ True) else (n = y0 ∧ True))
theorem cCutR_law (h : ∀ (n : Int), cCutR.A.wf (n, ()) → cCutR_0  n (cut n)) : ConOK Go.Proofs.Try.prog 143 cCutR := by
  refine lawL (Γ := []) (Θ := Th) (n := 8) [] trivial (by kernel_rfl) th_ok mix_ok Go.Proofs.Try.func143 (by kernel_rfl) ?_
  intro x hw hp Λ hC
  have h0 := h x.1 hw  
  exact Eq.mpr (by kernel_rfl) h0
theorem cCutR_ok : ConOK Go.Proofs.Try.prog 143 cCutR := by
  refine cCutR_law ?_
  intro n hw
  unfold cCutR_0
  unfold cut
  simp only [decide_eq_true_eq]
  split
  · exact ⟨by omega, trivial⟩
  · split
    · exact ⟨by omega, trivial⟩
    · exact ⟨by omega, trivial⟩
abbrev cValueR : Con := { A := (.cons tL (.cons (.sl .int) .nil)), R := (.cons .int .nil), pre := fun x => validLine x.1 = true ∧ writes x.1 = true ∧ validS x.2.1 = true, F := fun x => (cut (wval x.1 x.2.1), ()) }
def cValueR_0  (l : Lin) (s : (List Int)) (y0 : Int) : Prop :=
  if (l.1 == (1 : Int)) = true then (l.2.2.1 = y0 ∧ True) else (idx l.2.2.1 (List.length s : Int) ∧ (idx l.2.2.2.1 (List.length s : Int) ∧ (if (l.1 == (3 : Int)) = true then (inI ((List.getD s (Int.toNat l.2.2.1) 0) + (List.getD s (Int.toNat l.2.2.2.1) 0)) ∧ (True ∧ ((cut ((List.getD s (Int.toNat l.2.2.1) 0) + (List.getD s (Int.toNat l.2.2.2.1) 0))) = y0 ∧ True))) else (if (l.1 == (4 : Int)) = true then (inI ((List.getD s (Int.toNat l.2.2.1) 0) - (List.getD s (Int.toNat l.2.2.2.1) 0)) ∧ (True ∧ ((cut ((List.getD s (Int.toNat l.2.2.1) 0) - (List.getD s (Int.toNat l.2.2.2.1) 0))) = y0 ∧ True))) else (if (l.1 == (5 : Int)) = true then (if (decide ((List.getD s (Int.toNat l.2.2.2.1) 0) < (List.getD s (Int.toNat l.2.2.1) 0))) = true then (True ∧ ((cut (List.getD s (Int.toNat l.2.2.2.1) 0)) = y0 ∧ True)) else (True ∧ ((cut (List.getD s (Int.toNat l.2.2.1) 0)) = y0 ∧ True))) else (if (l.1 == (6 : Int)) = true then (if (decide ((List.getD s (Int.toNat l.2.2.2.1) 0) > (List.getD s (Int.toNat l.2.2.1) 0))) = true then (True ∧ ((cut (List.getD s (Int.toNat l.2.2.2.1) 0)) = y0 ∧ True)) else (True ∧ ((cut (List.getD s (Int.toNat l.2.2.1) 0)) = y0 ∧ True))) else (True ∧ ((cut (List.getD s (Int.toNat l.2.2.1) 0)) = y0 ∧ True))))))))
theorem cValueR_law (h : ∀ (l : Lin) (s : (List Int)), cValueR.A.wf (l, s, ()) → (validLine l = true ∧ writes l = true ∧ validS s = true) → cValueR_0  l s (cut (wval l s))) : ConOK Go.Proofs.Try.prog 132 cValueR := by
  refine lawL (Γ := [(143, cCutR)]) (Θ := Th) (n := 48) [] ⟨cCutR_ok, trivial⟩ (by kernel_rfl) th_ok mix_ok Go.Proofs.Try.func132 (by kernel_rfl) ?_
  intro x hw hp Λ hC
  have h0 := h x.1 x.2.1 hw hp  
  exact Eq.mpr (by kernel_rfl) h0
theorem cValueR_ok : ConOK Go.Proofs.Try.prog 132 cValueR := by
  refine cValueR_law ?_
  intro l s hw hp
  unfold cValueR_0
  obtain ⟨p1, p2, p3⟩ := hp
  have hr := line_regs p1
  have l4 := validS_len p3
  have hw2 : 1 ≤ l.1 ∧ l.1 ≤ 6 := by unfold writes at p2; simpa using p2
  have gx := validS_get p3 l.2.2.1
  have gy := validS_get p3 l.2.2.2.1
  unfold wval
  by_cases e1 : l.1 = 1
  · rw [if_pos (by simpa using e1), if_pos e1]
    have := hr.2.2.2.2.1 e1
    exact ⟨by unfold cut; omega, trivial⟩
  rw [if_neg (by simpa using e1), if_neg e1]
  have ix := hr.1 (by omega)
  have iy : 0 ≤ l.2.2.2.1 ∧ l.2.2.2.1 ≤ 3 := by
    by_cases e2 : l.1 = 2
    · obtain ⟨op, t, x, y, ⟨⟩⟩ := l
      dsimp only at e2
      subst e2
      unfold validLine at p1
      simp at p1
      dsimp only
      omega
    · exact hr.2.1 (by omega)
  refine ⟨⟨ix.1, by omega⟩, ⟨iy.1, by omega⟩, ?_⟩
  unfold Rg at gx gy ⊢
  by_cases e3 : l.1 = 3
  · rw [if_pos (by simpa using e3), if_neg (by omega), if_pos e3]
    exact ⟨by unfold inI; omega, trivial, rfl, trivial⟩
  rw [if_neg (by simpa using e3)]
  by_cases e4 : l.1 = 4
  · rw [if_pos (by simpa using e4), if_neg (by omega), if_neg (by omega), if_pos e4]
    exact ⟨by unfold inI; omega, trivial, rfl, trivial⟩
  rw [if_neg (by simpa using e4)]
  by_cases e5 : l.1 = 5
  · rw [if_pos (by simpa using e5), if_neg (show ¬ l.1 = 2 by omega), if_neg (show ¬ l.1 = 3 by omega), if_neg (show ¬ l.1 = 4 by omega), if_pos e5]
    simp only [decide_eq_true_eq]
    split
    · exact ⟨trivial, by congr 1; omega, trivial⟩
    · exact ⟨trivial, by congr 1; omega, trivial⟩
  rw [if_neg (by simpa using e5)]
  by_cases e6 : l.1 = 6
  · rw [if_pos (by simpa using e6), if_neg (show ¬ l.1 = 2 by omega), if_neg (show ¬ l.1 = 3 by omega), if_neg (show ¬ l.1 = 4 by omega), if_neg (show ¬ l.1 = 5 by omega)]
    simp only [decide_eq_true_eq]
    split
    · exact ⟨trivial, by congr 1; omega, trivial⟩
    · exact ⟨trivial, by congr 1; omega, trivial⟩
  rw [if_neg (by simpa using e6), if_pos (by omega)]
  exact ⟨trivial, rfl, trivial⟩
abbrev cTraceR : Con := { A := (.cons (.sl tL) (.cons (.sl .int) (.cons (.sl .int) (.cons (.sl .int) .nil)))), R := (.cons (.osl tStp) (.cons (.sl .int) .nil)), pre := fun x => validP x.1 = 0 ∧ validS x.2.1 = true ∧ x.2.2.1 = [], F := fun x => (visits x.1 noFrc x.2.1, runS x.1 x.2.1, ()) }
def cTraceR_0 (Λ1 : Int → (List Step1) → (List Int) → Prop) (Λ2 : Int → (List Int) → (List Step1) → Int → Prop) (Λ3 : Int → Int → (List Int) → (List Step1) → Int → Int → Prop) (p : (List Lin)) (in_ : (List Int)) (lines : (List Int)) (values : (List Int)) (y0 : (List Step1)) (y1 : (List Int)) : Prop :=
  List.length ([] : List Int) + List.length in_ ≤ 4294967296 ∧ Λ1 (0 : Int) ([] : List Step1) (([] : List Int) ++ in_)
def cTraceR_1 (Λ1 : Int → (List Step1) → (List Int) → Prop) (Λ2 : Int → (List Int) → (List Step1) → Int → Prop) (Λ3 : Int → Int → (List Int) → (List Step1) → Int → Int → Prop) (p : (List Lin)) (in_ : (List Int)) (lines : (List Int)) (values : (List Int)) (y0 : (List Step1)) (y1 : (List Int))  (i_1 : Int) (out_1 : (List Step1)) (now_1 : (List Int)) : Prop :=
  if (decide (i_1 < (List.length p : Int))) = true then (List.length ([] : List Int) + List.length now_1 ≤ 4294967296 ∧ (List.length out_1 + List.length ([(i_1, (([] : List Int) ++ now_1), ())]) ≤ 4294967296 ∧ (idx i_1 (List.length p : Int) ∧ (inI (i_1 + (1 : Int)) ∧ (if ((List.getD p (Int.toNat i_1) tL.dflt).1 == (7 : Int)) = true then (idx ((List.getD p (Int.toNat i_1) tL.dflt).2.2.1) (List.length now_1 : Int) ∧ (idx ((List.getD p (Int.toNat i_1) tL.dflt).2.2.2.1) (List.length now_1 : Int) ∧ (True ∧ (if (bif true then (decide ((List.getD now_1 (Int.toNat ((List.getD p (Int.toNat i_1) tL.dflt).2.2.1)) 0) < (List.getD now_1 (Int.toNat ((List.getD p (Int.toNat i_1) tL.dflt).2.2.2.1)) 0))) else false) = true then (inI ((i_1 + (1 : Int)) + (List.getD p (Int.toNat i_1) tL.dflt).2.1) ∧ Λ2 i_1 now_1 out_1 ((i_1 + (1 : Int)) + (List.getD p (Int.toNat i_1) tL.dflt).2.1)) else Λ2 i_1 now_1 out_1 (i_1 + (1 : Int)))))) else (false = false ∧ Λ2 i_1 now_1 out_1 (i_1 + (1 : Int)))))))) else (now_1 = y1 ∧ out_1 = y0)
def cTraceR_2 (Λ1 : Int → (List Step1) → (List Int) → Prop) (Λ2 : Int → (List Int) → (List Step1) → Int → Prop) (Λ3 : Int → Int → (List Int) → (List Step1) → Int → Int → Prop) (p : (List Lin)) (in_ : (List Int)) (lines : (List Int)) (values : (List Int)) (y0 : (List Step1)) (y1 : (List Int)) (i_1 : Int) (now_1 : (List Int)) (out_1 : (List Step1)) (i_2 : Int) : Prop :=
  True ∧ (if (!(!((List.getD p (Int.toNat i_1) tL.dflt).1 == 0) && !((List.getD p (Int.toNat i_1) tL.dflt).1 == 7))) = true then Λ1 i_2 (out_1 ++ [(i_1, (([] : List Int) ++ now_1), ())]) now_1 else ((validLine (List.getD p (Int.toNat i_1) tL.dflt) = true ∧ writes (List.getD p (Int.toNat i_1) tL.dflt) = true ∧ validS now_1 = true) ∧ Λ3 i_1 i_2 now_1 out_1 (cut (wval (List.getD p (Int.toNat i_1) tL.dflt) now_1)) (0 : Int)))
def cTraceR_3 (Λ1 : Int → (List Step1) → (List Int) → Prop) (Λ2 : Int → (List Int) → (List Step1) → Int → Prop) (Λ3 : Int → Int → (List Int) → (List Step1) → Int → Int → Prop) (p : (List Lin)) (in_ : (List Int)) (lines : (List Int)) (values : (List Int)) (y0 : (List Step1)) (y1 : (List Int)) (i_1 : Int) (i_2 : Int) (now_1 : (List Int)) (out_1 : (List Step1)) (n_3 : Int) (k_3 : Int) : Prop :=
  if (decide (k_3 < (List.length lines : Int))) = true then (idx k_3 (List.length lines : Int) ∧ (inI (i_2 - (1 : Int)) ∧ (if ((List.getD lines (Int.toNat k_3) 0) == (i_2 - (1 : Int))) = true then (idx k_3 (List.length values : Int) ∧ (inI (k_3 + (1 : Int)) ∧ Λ3 i_1 i_2 now_1 out_1 (List.getD values (Int.toNat k_3) 0) (k_3 + (1 : Int)))) else (inI (k_3 + (1 : Int)) ∧ Λ3 i_1 i_2 now_1 out_1 n_3 (k_3 + (1 : Int)))))) else (idx ((List.getD p (Int.toNat i_1) tL.dflt).2.1) (List.length now_1 : Int) ∧ Λ1 i_2 (out_1 ++ [(i_1, (([] : List Int) ++ now_1), ())]) (List.set now_1 (Int.toNat ((List.getD p (Int.toNat i_1) tL.dflt).2.1)) n_3))
theorem cTraceR_law (h : ∀ (p : (List Lin)) (in_ : (List Int)) (lines : (List Int)) (values : (List Int)), cTraceR.A.wf (p, in_, lines, values, ()) → (validP p = 0 ∧ validS in_ = true ∧ lines = []) → ∀ (Λ1 : Int → (List Step1) → (List Int) → Prop) (Λ2 : Int → (List Int) → (List Step1) → Int → Prop) (Λ3 : Int → Int → (List Int) → (List Step1) → Int → Int → Prop), (∀ (i_1 : Int) (out_1 : (List Step1)) (now_1 : (List Int)), cTraceR_1 Λ1 Λ2 Λ3 p in_ lines values (visits p noFrc in_) (runS p in_) i_1 out_1 now_1 → Λ1 i_1 out_1 now_1) → (∀ (i_1 : Int) (now_1 : (List Int)) (out_1 : (List Step1)) (i_2 : Int), cTraceR_2 Λ1 Λ2 Λ3 p in_ lines values (visits p noFrc in_) (runS p in_) i_1 now_1 out_1 i_2 → Λ2 i_1 now_1 out_1 i_2) → (∀ (i_1 : Int) (i_2 : Int) (now_1 : (List Int)) (out_1 : (List Step1)) (n_3 : Int) (k_3 : Int), cTraceR_3 Λ1 Λ2 Λ3 p in_ lines values (visits p noFrc in_) (runS p in_) i_1 i_2 now_1 out_1 n_3 k_3 → Λ3 i_1 i_2 now_1 out_1 n_3 k_3) → cTraceR_0 Λ1 Λ2 Λ3 p in_ lines values (visits p noFrc in_) (runS p in_)) : ConOK Go.Proofs.Try.prog 118 cTraceR := by
  refine lawL (Γ := [(132, cValueR), (131, cWritesR)]) (Θ := Th) (n := 87) [([1, 1, 1, 0, 1, 0], ⟨[(0, false), (2, false), (3, false), (10, true), (11, true), (12, true)], [(10, true), (16, true)]⟩), ([1, 1, 1, 0, 1, 0, 0, 1, 0, 1, 1, 1, 2], ⟨[(0, false), (2, false), (3, false), (10, true), (11, true), (12, true), (13, true)], [(10, true), (13, true), (16, true)]⟩), ([1, 1, 1, 0, 1, 0, 0, 1, 0, 1, 1, 1, 1, 1, 1, 0, 1, 0], ⟨[(0, false), (2, false), (3, false), (10, true), (11, true), (12, true), (13, true), (14, false), (15, true)], [(10, true), (13, true), (16, true)]⟩)] ⟨cValueR_ok, cWritesR_ok, trivial⟩ (by kernel_rfl) th_ok mix_ok Go.Proofs.Try.func118 (by kernel_rfl) ?_
  intro x hw hp Λ hC
  have h0 := h x.1 x.2.1 x.2.2.1 x.2.2.2.1 hw hp (fun i_1 out_1 now_1 => Λ [1, 1, 1, 0, 1, 0] ([(0, .d false (.sl tL) x.1), (2, .d false (.sl .int) x.2.2.1), (3, .d false (.sl .int) x.2.2.2.1), (10, .own 10 0), (11, .own 16 0), (12, .d true .int i_1)], [(10, .sl true tStp out_1), (16, .sl true .int now_1)])) (fun i_1 now_1 out_1 i_2 => Λ [1, 1, 1, 0, 1, 0, 0, 1, 0, 1, 1, 1, 2] ([(0, .d false (.sl tL) x.1), (2, .d false (.sl .int) x.2.2.1), (3, .d false (.sl .int) x.2.2.2.1), (10, .own 10 0), (11, .own 16 0), (12, .d true .int i_2), (13, .ptr 13 0 [])], [(10, .sl true tStp (out_1 ++ [(i_1, (([] : List Int) ++ now_1), ())])), (13, .box true tL (List.getD x.1 (Int.toNat i_1) tL.dflt)), (16, .sl true .int now_1)])) (fun i_1 i_2 now_1 out_1 n_3 k_3 => Λ [1, 1, 1, 0, 1, 0, 0, 1, 0, 1, 1, 1, 1, 1, 1, 0, 1, 0] ([(0, .d false (.sl tL) x.1), (2, .d false (.sl .int) x.2.2.1), (3, .d false (.sl .int) x.2.2.2.1), (10, .own 10 0), (11, .own 16 0), (12, .d true .int i_2), (13, .ptr 13 0 []), (14, .d false .int n_3), (15, .d true .int k_3)], [(10, .sl true tStp (out_1 ++ [(i_1, (([] : List Int) ++ now_1), ())])), (13, .box true tL (List.getD x.1 (Int.toNat i_1) tL.dflt)), (16, .sl true .int now_1)])) (fun i_1 out_1 now_1 hb => hC [1, 1, 1, 0, 1, 0] ([(0, .d false (.sl tL) x.1), (2, .d false (.sl .int) x.2.2.1), (3, .d false (.sl .int) x.2.2.2.1), (10, .own 10 0), (11, .own 16 0), (12, .d true .int i_1)], [(10, .sl true tStp out_1), (16, .sl true .int now_1)]) (Eq.mpr (by kernel_rfl) hb)) (fun i_1 now_1 out_1 i_2 hb => hC [1, 1, 1, 0, 1, 0, 0, 1, 0, 1, 1, 1, 2] ([(0, .d false (.sl tL) x.1), (2, .d false (.sl .int) x.2.2.1), (3, .d false (.sl .int) x.2.2.2.1), (10, .own 10 0), (11, .own 16 0), (12, .d true .int i_2), (13, .ptr 13 0 [])], [(10, .sl true tStp (out_1 ++ [(i_1, (([] : List Int) ++ now_1), ())])), (13, .box true tL (List.getD x.1 (Int.toNat i_1) tL.dflt)), (16, .sl true .int now_1)]) (Eq.mpr (by kernel_rfl) hb)) (fun i_1 i_2 now_1 out_1 n_3 k_3 hb => hC [1, 1, 1, 0, 1, 0, 0, 1, 0, 1, 1, 1, 1, 1, 1, 0, 1, 0] ([(0, .d false (.sl tL) x.1), (2, .d false (.sl .int) x.2.2.1), (3, .d false (.sl .int) x.2.2.2.1), (10, .own 10 0), (11, .own 16 0), (12, .d true .int i_2), (13, .ptr 13 0 []), (14, .d false .int n_3), (15, .d true .int k_3)], [(10, .sl true tStp (out_1 ++ [(i_1, (([] : List Int) ++ now_1), ())])), (13, .box true tL (List.getD x.1 (Int.toNat i_1) tL.dflt)), (16, .sl true .int now_1)]) (Eq.mpr (by kernel_rfl) hb))
  exact Eq.mpr (by kernel_rfl) h0
theorem cTraceR_ok : ConOK Go.Proofs.Try.prog 118 cTraceR := by
  refine cTraceR_law ?_
  intro p in_ lines values hw hp Λ1 Λ2 Λ3 h1 h2 h3
  unfold cTraceR_0
  obtain ⟨p1, p2, p3⟩ := hp
  obtain ⟨h8, hall⟩ := validP_ok p1
  have l4 := validS_len p2
  have key : ∀ (f i : Nat) (s : List Int) (out : List Vst), validS s = true → p.length < i + f → out.length ≤ i → visits p noFrc in_ = out ++ (runF p noFrc f i s).1 → runS p in_ = (runF p noFrc f i s).2 → Λ1 (i : Int) out s := by
    intro f
    induction f with
    | zero =>
      intro i s out hs hf ho e1 e2
      apply h1; unfold cTraceR_1; rw [if_neg (by simp; omega)]
      exact ⟨e2.symm, by rw [e1]; simp [runF]⟩
    | succ f ih =>
      intro i s out hs hf ho e1 e2
      rw [runF] at e1 e2
      by_cases hi : i < p.length
      · rw [if_pos hi] at e1 e2
        have hl := validLine_at hall hi
        have hgt := stepTo_gt (List.getD p i tL.dflt) i s
        have nx := ih (stepTo (List.getD p i tL.dflt) i s) (stepS noFrc (List.getD p i tL.dflt) i s) (out ++ [((i : Int), s, ())]) (stepS_ok _ _ i hs) (by omega) (by rw [List.length_append]; simp only [List.length_cons, List.length_nil]; omega) (by rw [e1]; simp) e2
        have l4s := validS_len hs
        have J : ∀ j : Nat, j = stepTo (List.getD p i tL.dflt) i s → Λ2 (i : Int) s out (j : Int) := by
          intro j hj
          apply h2; unfold cTraceR_2; rw [Int.toNat_natCast, writes_eq hl]
          refine ⟨trivial, ?_⟩
          rw [List.nil_append]
          cases hw : writes (List.getD p i tL.dflt)
          · rw [if_pos (by rfl)]
            unfold stepS at nx
            rw [if_neg (by rw [hw]; simp), ← hj] at nx
            exact nx
          · rw [if_neg (by simp)]
            refine ⟨⟨hl, rfl, hs⟩, ?_⟩
            apply h3; unfold cTraceR_3
            rw [p3, if_neg (by simp), Int.toNat_natCast, List.nil_append]
            have hr := line_regs hl
            have it := hr.2.2.1 (by unfold writes at hw; simpa using hw)
            unfold stepS wnum noFrc at nx
            rw [if_pos hw, ← hj] at nx
            exact ⟨⟨it.1, by omega⟩, nx⟩
        apply h1; unfold cTraceR_1; rw [if_pos (by simpa using hi), Int.toNat_natCast]
        have hr := line_regs hl
        have hn : inI ((i : Int) + 1) := inI_succ hi (by omega)
        refine ⟨by simp only [List.length_nil]; omega, by simp only [List.length_cons, List.length_nil]; omega, idx_nat hi, hn, ?_⟩
        unfold stepTo at J
        by_cases h7 : (List.getD p i tL.dflt).1 = 7
        · rw [if_pos (by simpa using h7)]
          have ix := hr.1 (by omega)
          have iy := hr.2.1 (by omega)
          have it := hr.2.2.2.1 h7
          refine ⟨⟨ix.1, by omega⟩, ⟨iy.1, by omega⟩, trivial, ?_⟩
          by_cases hc : Rg s (List.getD p i tL.dflt).2.2.1 < Rg s (List.getD p i tL.dflt).2.2.2.1
          · rw [if_pos (by show decide _ = true; exact decide_eq_true hc)]
            refine ⟨by unfold inI; omega, ?_⟩
            have := J (i + 1 + (List.getD p i tL.dflt).2.1.toNat) (by rw [if_pos ⟨h7, hc⟩])
            rw [show ((i : Int) + 1 + (List.getD p i tL.dflt).2.1) = ((i + 1 + (List.getD p i tL.dflt).2.1.toNat : Nat) : Int) by omega]
            exact this
          · rw [if_neg (by show ¬ decide _ = true; rw [decide_eq_true_eq]; exact hc)]
            exact J (i + 1) (by rw [if_neg (by rintro ⟨_, h⟩; exact hc h)])
        · rw [if_neg (by simpa using h7)]
          exact ⟨rfl, J (i + 1) (by rw [if_neg (by rintro ⟨h, _⟩; exact h7 h)])⟩
      · rw [if_neg hi] at e1 e2
        apply h1; unfold cTraceR_1; rw [if_neg (by simpa using hi)]
        exact ⟨e2.symm, by rw [e1]; simp⟩
  refine ⟨by simp only [List.length_nil]; omega, ?_⟩
  rw [List.nil_append]
  exact key (p.length + 1) 0 in_ [] p2 (by omega) (Nat.zero_le _) rfl rfl
abbrev cRunR : Con := { A := (.cons (.sl tL) (.cons (.sl .int) .nil)), R := (.cons (.sl .int) (.cons .int .nil)), pre := fun x => True, F := fun x => ((if err1 x.1 x.2.1 = 0 then runS x.1 x.2.1 else []), err1 x.1 x.2.1, ()) }
def cRunR_0  (p : (List Lin)) (in_ : (List Int)) (y0 : (List Int)) (y1 : Int) : Prop :=
  True ∧ (if (((if validP p = 0 then argErr (validS in_) else validP p)) != (0 : Int)) = true then (([] : List Int) = y0 ∧ ((if validP p = 0 then argErr (validS in_) else validP p)) = y1 ∧ True) else ((validP p = 0 ∧ validS in_ = true ∧ ([] : List Int) = []) ∧ ((runS p in_) = y0 ∧ (0 : Int) = y1 ∧ True)))
theorem cRunR_law (h : ∀ (p : (List Lin)) (in_ : (List Int)), cRunR.A.wf (p, in_, ()) → cRunR_0  p in_ (if err1 p in_ = 0 then runS p in_ else []) (err1 p in_)) : ConOK Go.Proofs.Try.prog 112 cRunR := by
  refine lawL (Γ := [(117, cAskedR), (118, cTraceR)]) (Θ := Th) (n := 22) [] ⟨cAskedR_ok, cTraceR_ok, trivial⟩ (by kernel_rfl) th_ok mix_ok Go.Proofs.Try.func112 (by kernel_rfl) ?_
  intro x hw hp Λ hC
  have h0 := h x.1 x.2.1 hw  
  exact Eq.mpr (by kernel_rfl) h0
theorem cRunR_ok : ConOK Go.Proofs.Try.prog 112 cRunR := by
  refine cRunR_law ?_
  intro p in_ hw
  unfold cRunR_0
  refine ⟨trivial, ?_⟩
  show if (err1 p in_ != 0) = true then _ else _
  by_cases h : err1 p in_ = 0
  · rw [if_neg (by simp [h]), if_pos h, h]
    have := err1_ok h
    exact ⟨⟨this.1, this.2, rfl⟩, rfl, rfl, trivial⟩
  · rw [if_pos (by simpa using h), if_neg h]
    exact ⟨rfl, rfl, trivial⟩
abbrev cDoneR : Con := { A := (.cons (.sl tL) (.cons (.sl .int) .nil)), R := (.cons (.sl .int) (.cons .int .nil)), pre := fun x => True, F := fun x => ((if err1 x.1 x.2.1 = 0 then doneS x.1 x.2.1 else []), err1 x.1 x.2.1, ()) }
def cDoneR_0 (Λ1 : Int → (List Int) → Prop) (p : (List Lin)) (in_ : (List Int)) (y0 : (List Int)) (y1 : Int) : Prop :=
  True ∧ (if (((if validP p = 0 then argErr (validS in_) else validP p)) != (0 : Int)) = true then (([] : List Int) = y0 ∧ ((if validP p = 0 then argErr (validS in_) else validP p)) = y1 ∧ True) else ((validP p = 0 ∧ validS in_ = true ∧ ([] : List Int) = []) ∧ Λ1 (0 : Int) ([] : List Int)))
def cDoneR_1 (Λ1 : Int → (List Int) → Prop) (p : (List Lin)) (in_ : (List Int)) (y0 : (List Int)) (y1 : Int)  (i_1 : Int) (out_1 : (List Int)) : Prop :=
  if (decide (i_1 < (List.length (visits p noFrc in_) : Int))) = true then (idx i_1 (List.length (visits p noFrc in_) : Int) ∧ (List.length out_1 + List.length [(List.getD (visits p noFrc in_) (Int.toNat i_1) tStp.dflt).1] ≤ 4294967296 ∧ (inI (i_1 + (1 : Int)) ∧ Λ1 (i_1 + (1 : Int)) (out_1 ++ [(List.getD (visits p noFrc in_) (Int.toNat i_1) tStp.dflt).1])))) else (out_1 = y0 ∧ (0 : Int) = y1 ∧ True)
theorem cDoneR_law (h : ∀ (p : (List Lin)) (in_ : (List Int)), cDoneR.A.wf (p, in_, ()) → ∀ (Λ1 : Int → (List Int) → Prop), (∀ (i_1 : Int) (out_1 : (List Int)), cDoneR_1 Λ1 p in_ (if err1 p in_ = 0 then doneS p in_ else []) (err1 p in_) i_1 out_1 → Λ1 i_1 out_1) → cDoneR_0 Λ1 p in_ (if err1 p in_ = 0 then doneS p in_ else []) (err1 p in_)) : ConOK Go.Proofs.Try.prog 85 cDoneR := by
  refine lawL (Γ := [(117, cAskedR), (118, cTraceR)]) (Θ := Th) (n := 38) [([1, 1, 1, 1, 0, 1, 0], ⟨[(7, true), (8, true), (10, true)], [(7, true), (20, true)]⟩)] ⟨cAskedR_ok, cTraceR_ok, trivial⟩ (by kernel_rfl) th_ok mix_ok Go.Proofs.Try.func85 (by kernel_rfl) ?_
  intro x hw hp Λ hC
  have h0 := h x.1 x.2.1 hw (fun i_1 out_1 => Λ [1, 1, 1, 1, 0, 1, 0] ([(7, .own 7 0), (8, .own 20 0), (10, .d true .int i_1)], [(7, .sl true .int out_1), (20, .sl true tStp (visits x.1 noFrc x.2.1))])) (fun i_1 out_1 hb => hC [1, 1, 1, 1, 0, 1, 0] ([(7, .own 7 0), (8, .own 20 0), (10, .d true .int i_1)], [(7, .sl true .int out_1), (20, .sl true tStp (visits x.1 noFrc x.2.1))]) (Eq.mpr (by kernel_rfl) hb))
  exact Eq.mpr (by kernel_rfl) h0
theorem cDoneR_ok : ConOK Go.Proofs.Try.prog 85 cDoneR := by
  refine cDoneR_law ?_
  intro p in_ hw Λ1 h1
  unfold cDoneR_0
  refine ⟨trivial, ?_⟩
  show if (err1 p in_ != 0) = true then _ else _
  by_cases h : err1 p in_ = 0
  · rw [if_neg (by simp [h])]
    have g := err1_ok h
    refine ⟨⟨g.1, g.2, rfl⟩, ?_⟩
    have h8 := (validP_ok g.1).1
    have hl := visits_len p noFrc in_
    refine upto (n := (visits p noFrc in_).length) (Q := fun i => Λ1 (i : Int) ((doneS p in_).take i)) ?_ ?_ 0 (Nat.zero_le _)
    · apply h1; unfold cDoneR_1
      rw [if_neg (by simp), if_pos h, List.take_of_length_le (by unfold doneS; simp)]
      exact ⟨rfl, h.symm, trivial⟩
    · intro i hi ih
      apply h1; unfold cDoneR_1
      rw [if_pos (by simpa using hi), Int.toNat_natCast]
      refine ⟨idx_nat hi, ?_, inI_succ hi (by omega), ?_⟩
      · simp only [doneS, List.length_take, List.length_map, List.length_cons, List.length_nil]; omega
      · rw [take_snoc 0 (by unfold doneS; simpa using hi)] at ih
        have e : (doneS p in_).getD i 0 = (List.getD (visits p noFrc in_) i tStp.dflt).1 := by unfold doneS; simp [List.getD_eq_getElem?_getD, hi]
        rw [e] at ih
        exact ih
  · rw [if_pos (by simpa using h), if_neg h]
    exact ⟨rfl, rfl, trivial⟩
abbrev cSameIntsR : Con := { A := (.cons (.sl .int) (.cons (.sl .int) .nil)), R := (.cons .bool .nil), pre := fun x => x.1.length ≤ 1000000, F := fun x => (decide (x.1 = x.2.1), ()) }
def cSameIntsR_0 (Λ1 : Int → Prop) (a : (List Int)) (b : (List Int)) (y0 : Bool) : Prop :=
  if ((List.length a : Int) != (List.length b : Int)) = true then (false = y0 ∧ True) else Λ1 (0 : Int)
def cSameIntsR_1 (Λ1 : Int → Prop) (a : (List Int)) (b : (List Int)) (y0 : Bool)  (i_1 : Int) : Prop :=
  if (decide (i_1 < (List.length a : Int))) = true then (idx i_1 (List.length a : Int) ∧ (idx i_1 (List.length b : Int) ∧ (if ((List.getD a (Int.toNat i_1) 0) != (List.getD b (Int.toNat i_1) 0)) = true then (false = y0 ∧ True) else (inI (i_1 + (1 : Int)) ∧ Λ1 (i_1 + (1 : Int)))))) else (true = y0 ∧ True)
theorem cSameIntsR_law (h : ∀ (a : (List Int)) (b : (List Int)), cSameIntsR.A.wf (a, b, ()) → (a.length ≤ 1000000) → ∀ (Λ1 : Int → Prop), (∀ (i_1 : Int), cSameIntsR_1 Λ1 a b (decide (a = b)) i_1 → Λ1 i_1) → cSameIntsR_0 Λ1 a b (decide (a = b))) : ConOK Go.Proofs.Try.prog 32 cSameIntsR := by
  refine lawL (Γ := []) (Θ := Th) (n := 26) [([1, 1, 0, 1, 0], ⟨[(0, false), (1, false), (5, true)], []⟩)] trivial (by kernel_rfl) th_ok mix_ok Go.Proofs.Try.func32 (by kernel_rfl) ?_
  intro x hw hp Λ hC
  have h0 := h x.1 x.2.1 hw hp (fun i_1 => Λ [1, 1, 0, 1, 0] ([(0, .d false (.sl .int) x.1), (1, .d false (.sl .int) x.2.1), (5, .d true .int i_1)], [])) (fun i_1 hb => hC [1, 1, 0, 1, 0] ([(0, .d false (.sl .int) x.1), (1, .d false (.sl .int) x.2.1), (5, .d true .int i_1)], []) (Eq.mpr (by kernel_rfl) hb))
  exact Eq.mpr (by kernel_rfl) h0
theorem cSameIntsR_ok : ConOK Go.Proofs.Try.prog 32 cSameIntsR := by
  refine cSameIntsR_law ?_
  intro a b hw hp Λ1 h1
  unfold cSameIntsR_0
  by_cases hl : a.length = b.length
  · rw [if_neg (by simp [hl])]
    refine upto (n := a.length) (Q := fun i => a.take i = b.take i → Λ1 i) ?_ ?_ 0 (Nat.zero_le _) rfl
    · intro ha
      rw [List.take_length, List.take_of_length_le (by omega)] at ha
      apply h1; unfold cSameIntsR_1; rw [if_neg (by simp)]
      exact ⟨by simp [ha], trivial⟩
    · intro i hi ih ha
      apply h1; unfold cSameIntsR_1; rw [if_pos (by simpa using hi), Int.toNat_natCast]
      refine ⟨idx_nat hi, idx_nat (by omega), ?_⟩
      by_cases hv : List.getD a i 0 = List.getD b i 0
      · rw [if_neg (by rw [hv]; simp)]
        exact ⟨inI_succ hi (by omega), ih (take_eq_next 0 hi hl ha hv)⟩
      · rw [if_pos (by simpa using hv)]
        exact ⟨by simp [ne_at 0 hv], trivial⟩
  · rw [if_pos (by simp; omega)]
    exact ⟨by simp; exact fun e => hl (by rw [e]), trivial⟩
end Go.Tk
/- Plain facts: tests and contracts (layer 2). No program in sight. -/
set_option linter.unusedSimpArgs false
set_option linter.unusedVariables false
namespace Go.Tk
open Go Go.RowKit

def lowHigh (c : Ctr) : Bool := (List.zipWith (fun l h => decide (l ≤ h)) c.1 c.2.1).all id
/-- The number of states of the first i registers. -/
def prodTo (l h : List Int) : Nat → Int
  | 0 => 1
  | i + 1 => prodTo l h i * (h.getD i 0 - l.getD i 0 + 1)
def sizeC (c : Ctr) : Int := prodTo c.1 c.2.1 4
def isCtr (c : Ctr) : Bool := validS c.1 && validS c.2.1 && isReg c.2.2.1 && isVal c.2.2.2.1 && isVal c.2.2.2.2.1 && decide (c.2.2.2.1 ≤ c.2.2.2.2.1) && lowHigh c
def validC (c : Ctr) : Int := if isCtr c = true then (if sizeC c > 400 then 3 else 0) else 1
/-- What is known of the box of a contract. -/
def boxC (c : Ctr) : Prop := validS c.1 = true ∧ validS c.2.1 = true ∧ lowHigh c = true

theorem zipAll_next' {α β : Type} (g : α → β → Bool) {a : List α} {b : List β} {i : Nat} (da : α) (db : β) (ha : i < a.length) (hb : i < b.length) (h : ((List.zipWith g a b).take i).all id = true) (h2 : g (a.getD i da) (b.getD i db) = true) : ((List.zipWith g a b).take (i + 1)).all id = true := by
  have hl : i < (List.zipWith g a b).length := by simp; omega
  refine all_take_next true hl h ?_
  simpa [List.getD_eq_getElem?_getD, List.getElem?_zipWith, ha, hb] using h2

theorem zipAll_false' {α β : Type} (g : α → β → Bool) {a : List α} {b : List β} {i : Nat} (da : α) (db : β) (ha : i < a.length) (hb : i < b.length) (h2 : g (a.getD i da) (b.getD i db) = false) : (List.zipWith g a b).all id = false := by
  have hl : i < (List.zipWith g a b).length := by simp; omega
  refine all_false_at true hl ?_
  simpa [List.getD_eq_getElem?_getD, List.getElem?_zipWith, ha, hb] using h2

theorem boxC_wid {c : Ctr} (h : boxC c) {i : Nat} (hi : i < 4) : c.1.getD i 0 ≤ c.2.1.getD i 0 ∧ -999 ≤ c.1.getD i 0 ∧ c.1.getD i 0 ≤ 999 ∧ -999 ≤ c.2.1.getD i 0 ∧ c.2.1.getD i 0 ≤ 999 := by
  obtain ⟨h1, h2, h3⟩ := h
  have l1 := validS_len h1
  have l2 := validS_len h2
  have g1 := (validS_iff.1 h1).2 _ (mem_getD (d := 0) (show i < c.1.length by omega))
  have g2 := (validS_iff.1 h2).2 _ (mem_getD (d := 0) (show i < c.2.1.length by omega))
  refine ⟨?_, g1.1, g1.2, g2.1, g2.2⟩
  by_cases g : c.1.getD i 0 ≤ c.2.1.getD i 0
  · exact g
  · have := zipAll_false' (fun (l h : Int) => decide (l ≤ h)) (a := c.1) (b := c.2.1) (i := i) 0 0 (by omega) (by omega) (by simpa using g)
    unfold lowHigh at h3
    rw [this] at h3; cases h3

theorem mul_bd {a A b : Int} (h1 : 1 ≤ a) (h2 : a ≤ A) (h3 : 1 ≤ b) (h4 : b ≤ 1999) : 1 ≤ a * b ∧ a * b ≤ A * 1999 := by
  have e1 : a * 1 ≤ a * b := Int.mul_le_mul_of_nonneg_left h3 (by omega)
  have e2 : a * b ≤ a * 1999 := Int.mul_le_mul_of_nonneg_left h4 (by omega)
  have e3 : a * 1999 ≤ A * 1999 := Int.mul_le_mul_of_nonneg_right h2 (by omega)
  omega

theorem prodTo_bd {c : Ctr} (h : boxC c) : ∀ i, i ≤ 4 → 1 ≤ prodTo c.1 c.2.1 i ∧ prodTo c.1 c.2.1 i ≤ 1999 ^ i
  | 0, _ => by simp [prodTo]
  | i + 1, hi => by
    have ih := prodTo_bd h i (by omega)
    have g := boxC_wid h (i := i) (by omega)
    have := mul_bd ih.1 ih.2 (b := c.2.1.getD i 0 - c.1.getD i 0 + 1) (by omega) (by omega)
    unfold prodTo
    rw [Int.pow_succ]
    exact this

theorem prodTo_inI {c : Ctr} (h : boxC c) {i : Nat} (hi : i ≤ 4) : 1 ≤ prodTo c.1 c.2.1 i ∧ prodTo c.1 c.2.1 i ≤ 15968023992001 := by
  have g := prodTo_bd h i hi
  refine ⟨g.1, Int.le_trans g.2 ?_⟩
  have c : i = 0 ∨ i = 1 ∨ i = 2 ∨ i = 3 ∨ i = 4 := by omega
  rcases c with rfl | rfl | rfl | rfl | rfl <;> decide

theorem min_step {P w : Int} (hP : 1 ≤ P) (hw : 1 ≤ w) : min (min P 401 * w) 401 = min (P * w) 401 := by
  by_cases h : P ≤ 401
  · rw [show min P 401 = P by omega]
  · have e1 : P * 1 ≤ P * w := Int.mul_le_mul_of_nonneg_left hw (by omega)
    rw [show min P 401 = 401 by omega]
    omega

theorem isCtr_box {c : Ctr} (h : isCtr c = true) : boxC c ∧ (0 ≤ c.2.2.1 ∧ c.2.2.1 ≤ 3) ∧ (-999 ≤ c.2.2.2.1 ∧ c.2.2.2.1 ≤ c.2.2.2.2.1 ∧ c.2.2.2.2.1 ≤ 999) := by
  unfold isCtr at h
  simp only [Bool.and_eq_true, decide_eq_true_eq] at h
  obtain ⟨⟨⟨⟨⟨⟨h1, h2⟩, h3⟩, h4⟩, h5⟩, h6⟩, h7⟩ := h
  have := within_iff.1 h3
  have := within_iff.1 h4
  have := within_iff.1 h5
  exact ⟨⟨h1, h2, h7⟩, by omega, by omega⟩

theorem validC_ok {c : Ctr} (h : validC c = 0) : isCtr c = true ∧ sizeC c ≤ 400 := by
  unfold validC at h
  split at h
  · rename_i g
    split at h
    · cases h
    · exact ⟨g, by omega⟩
  · cases h
end Go.Tk
set_option linter.unusedSimpArgs false
set_option linter.unusedVariables false
namespace Go.Tk
open Go Go.RowKit

abbrev cWithin2 : Con := { A := (.cons .int (.cons .int (.cons .int .nil))), R := (.cons .bool .nil), pre := fun x => True, F := fun x => (within x.1 x.2.1 x.2.2.1, ()) }
def cWithin2_0  (n : Int) (lo : Int) (hi : Int) (y0 : Bool) : Prop :=
  if (decide (lo ≤ n)) = true then (True ∧ ((bif true then (decide (n ≤ hi)) else false) = y0 ∧ True)) else (false = false ∧ (false = y0 ∧ True))
theorem cWithin2_law (h : ∀ (n : Int) (lo : Int) (hi : Int), cWithin2.A.wf (n, lo, hi, ()) → cWithin2_0  n lo hi (within n lo hi)) : ConOK Go.Proofs.Try.prog 122 cWithin2 := by
  refine lawL (Γ := []) (Θ := Th) (n := 15) [] trivial (by kernel_rfl) th_ok mix_ok Go.Proofs.Try.func122 (by kernel_rfl) ?_
  intro x hw hp Λ hC
  have h0 := h x.1 x.2.1 x.2.2.1 hw  
  exact Eq.mpr (by kernel_rfl) h0
theorem cWithin2_ok : ConOK Go.Proofs.Try.prog 122 cWithin2 := by
  refine cWithin2_law ?_
  intro n lo hi hw
  unfold cWithin2_0
  unfold within
  split <;> simp_all
  omega
abbrev cIsVal2 : Con := { A := (.cons .int .nil), R := (.cons .bool .nil), pre := fun x => True, F := fun x => (isVal x.1, ()) }
def cIsVal2_0  (n : Int) (y0 : Bool) : Prop :=
  True ∧ ((within n (-999 : Int) (999 : Int)) = y0 ∧ True)
theorem cIsVal2_law (h : ∀ (n : Int), cIsVal2.A.wf (n, ()) → cIsVal2_0  n (isVal n)) : ConOK Go.Proofs.Try.prog 110 cIsVal2 := by
  refine lawL (Γ := [(122, cWithin2)]) (Θ := Th) (n := 5) [] ⟨cWithin2_ok, trivial⟩ (by kernel_rfl) th_ok mix_ok Go.Proofs.Try.func110 (by kernel_rfl) ?_
  intro x hw hp Λ hC
  have h0 := h x.1 hw  
  exact Eq.mpr (by kernel_rfl) h0
theorem cIsVal2_ok : ConOK Go.Proofs.Try.prog 110 cIsVal2 := by
  refine cIsVal2_law ?_
  intro n hw
  unfold cIsVal2_0
  exact ⟨trivial, rfl, trivial⟩
abbrev cIsReg2 : Con := { A := (.cons .int .nil), R := (.cons .bool .nil), pre := fun x => True, F := fun x => (isReg x.1, ()) }
def cIsReg2_0  (n : Int) (y0 : Bool) : Prop :=
  True ∧ ((within n (0 : Int) (3 : Int)) = y0 ∧ True)
theorem cIsReg2_law (h : ∀ (n : Int), cIsReg2.A.wf (n, ()) → cIsReg2_0  n (isReg n)) : ConOK Go.Proofs.Try.prog 90 cIsReg2 := by
  refine lawL (Γ := [(122, cWithin2)]) (Θ := Th) (n := 5) [] ⟨cWithin2_ok, trivial⟩ (by kernel_rfl) th_ok mix_ok Go.Proofs.Try.func90 (by kernel_rfl) ?_
  intro x hw hp Λ hC
  have h0 := h x.1 hw  
  exact Eq.mpr (by kernel_rfl) h0
theorem cIsReg2_ok : ConOK Go.Proofs.Try.prog 90 cIsReg2 := by
  refine cIsReg2_law ?_
  intro n hw
  unfold cIsReg2_0
  exact ⟨trivial, rfl, trivial⟩
abbrev cIsState : Con := { A := (.cons (.sl .int) .nil), R := (.cons .bool .nil), pre := fun x => True, F := fun x => (validS x.1, ()) }
def cIsState_0  (in_ : (List Int)) (y0 : Bool) : Prop :=
  True ∧ (((argErr (validS in_)) == (0 : Int)) = y0 ∧ True)
theorem cIsState_law (h : ∀ (in_ : (List Int)), cIsState.A.wf (in_, ()) → cIsState_0  in_ (validS in_)) : ConOK Go.Proofs.Try.prog 89 cIsState := by
  refine lawL (Γ := [(121, cValS)]) (Θ := Th) (n := 6) [] ⟨cValS_ok, trivial⟩ (by kernel_rfl) th_ok mix_ok Go.Proofs.Try.func89 (by kernel_rfl) ?_
  intro x hw hp Λ hC
  have h0 := h x.1 hw  
  exact Eq.mpr (by kernel_rfl) h0
theorem cIsState_ok : ConOK Go.Proofs.Try.prog 89 cIsState := by
  refine cIsState_law ?_
  intro in_ hw
  unfold cIsState_0
  refine ⟨trivial, ?_⟩
  cases validS in_ <;> exact ⟨rfl, trivial⟩
abbrev cSize2 : Con := { A := (.cons tCt .nil), R := (.cons .int .nil), pre := fun x => boxC x.1, F := fun x => (sizeC x.1, ()) }
def cSize2_0 (Λ1 : Int → Int → Prop) (c : Ctr) (y0 : Int) : Prop :=
  Λ1 (1 : Int) (0 : Int)
def cSize2_1 (Λ1 : Int → Int → Prop) (c : Ctr) (y0 : Int)  (n_1 : Int) (t9_1 : Int) : Prop :=
  if (decide (t9_1 < (List.length c.1 : Int))) = true then (idx t9_1 (List.length c.1 : Int) ∧ (idx t9_1 (List.length c.2.1 : Int) ∧ (inI ((List.getD c.2.1 (Int.toNat t9_1) 0) - (List.getD c.1 (Int.toNat t9_1) 0)) ∧ (inI (((List.getD c.2.1 (Int.toNat t9_1) 0) - (List.getD c.1 (Int.toNat t9_1) 0)) + (1 : Int)) ∧ (inI (n_1 * (((List.getD c.2.1 (Int.toNat t9_1) 0) - (List.getD c.1 (Int.toNat t9_1) 0)) + (1 : Int))) ∧ (inI (t9_1 + (1 : Int)) ∧ Λ1 (n_1 * (((List.getD c.2.1 (Int.toNat t9_1) 0) - (List.getD c.1 (Int.toNat t9_1) 0)) + (1 : Int))) (t9_1 + (1 : Int)))))))) else (n_1 = y0 ∧ True)
theorem cSize2_law (h : ∀ (c : Ctr), cSize2.A.wf (c, ()) → (boxC c) → ∀ (Λ1 : Int → Int → Prop), (∀ (n_1 : Int) (t9_1 : Int), cSize2_1 Λ1 c (sizeC c) n_1 t9_1 → Λ1 n_1 t9_1) → cSize2_0 Λ1 c (sizeC c)) : ConOK Go.Proofs.Try.prog 65 cSize2 := by
  refine lawL (Γ := []) (Θ := Th) (n := 26) [([1, 1, 0, 1, 0], ⟨[(1, true), (3, true), (7, false), (8, true), (9, true)], [(1, false)]⟩)] trivial (by kernel_rfl) th_ok mix_ok Go.Proofs.Try.func65 (by kernel_rfl) ?_
  intro x hw hp Λ hC
  have h0 := h x.1 hw hp (fun n_1 t9_1 => Λ [1, 1, 0, 1, 0] ([(1, .ptr 1 0 []), (3, .d true .int n_1), (7, .d false (.sl .int) x.1.1), (8, .d true .int (List.length x.1.1 : Int)), (9, .d true .int t9_1)], [(1, .box false tCt x.1)])) (fun n_1 t9_1 hb => hC [1, 1, 0, 1, 0] ([(1, .ptr 1 0 []), (3, .d true .int n_1), (7, .d false (.sl .int) x.1.1), (8, .d true .int (List.length x.1.1 : Int)), (9, .d true .int t9_1)], [(1, .box false tCt x.1)]) (Eq.mpr (by kernel_rfl) hb))
  exact Eq.mpr (by kernel_rfl) h0
theorem cSize2_ok : ConOK Go.Proofs.Try.prog 65 cSize2 := by
  refine cSize2_law ?_
  intro c hw hp Λ1 h1
  unfold cSize2_0
  have l1 := validS_len hp.1
  have l2 := validS_len hp.2.1
  refine upto (n := 4) (Q := fun i => Λ1 (prodTo c.1 c.2.1 i) i) ?_ ?_ 0 (by omega)
  · apply h1; unfold cSize2_1
    rw [if_neg (by rw [l1]; simp)]
    exact ⟨rfl, trivial⟩
  · intro i hi ih
    have g := boxC_wid hp hi
    have b := prodTo_inI hp (i := i) (by omega)
    have b2 := prodTo_inI hp (i := i + 1) (by omega)
    unfold prodTo at ih b2
    apply h1; unfold cSize2_1
    rw [if_pos (by rw [l1]; simp; omega), Int.toNat_natCast]
    exact ⟨⟨by omega, by omega⟩, ⟨by omega, by omega⟩, by unfold inI; omega, by unfold inI; omega, by unfold inI; omega, by unfold inI; omega, ih⟩
abbrev cIsContract : Con := { A := (.cons tCt .nil), R := (.cons .bool .nil), pre := fun x => True, F := fun x => (isCtr x.1, ()) }
def cIsContract_0 (Λ1 : Int → Prop) (c : Ctr) (y0 : Bool) : Prop :=
  True ∧ (if (!(validS c.1)) = true then (true = true ∧ (true = true ∧ (true = true ∧ (true = true ∧ (true = true ∧ (false = y0 ∧ True)))))) else (True ∧ (True ∧ (if (bif false then true else (!(validS c.2.1))) = true then (true = true ∧ (true = true ∧ (true = true ∧ (true = true ∧ (false = y0 ∧ True))))) else (True ∧ (True ∧ (if (bif false then true else (!(isReg c.2.2.1))) = true then (true = true ∧ (true = true ∧ (true = true ∧ (false = y0 ∧ True)))) else (True ∧ (True ∧ (if (bif false then true else (!(isVal c.2.2.2.1))) = true then (true = true ∧ (true = true ∧ (false = y0 ∧ True))) else (True ∧ (True ∧ (if (bif false then true else (!(isVal c.2.2.2.2.1))) = true then (true = true ∧ (false = y0 ∧ True)) else (True ∧ (if (bif false then true else (decide (c.2.2.2.1 > c.2.2.2.2.1))) = true then (false = y0 ∧ True) else Λ1 (0 : Int))))))))))))))))
def cIsContract_1 (Λ1 : Int → Prop) (c : Ctr) (y0 : Bool)  (t43_1 : Int) : Prop :=
  if (decide (t43_1 < (List.length c.1 : Int))) = true then (idx t43_1 (List.length c.1 : Int) ∧ (idx t43_1 (List.length c.2.1 : Int) ∧ (if (decide ((List.getD c.1 (Int.toNat t43_1) 0) > (List.getD c.2.1 (Int.toNat t43_1) 0))) = true then (false = y0 ∧ True) else (inI (t43_1 + (1 : Int)) ∧ Λ1 (t43_1 + (1 : Int)))))) else (true = y0 ∧ True)
theorem cIsContract_law (h : ∀ (c : Ctr), cIsContract.A.wf (c, ()) → ∀ (Λ1 : Int → Prop), (∀ (t43_1 : Int), cIsContract_1 Λ1 c (isCtr c) t43_1 → Λ1 t43_1) → cIsContract_0 Λ1 c (isCtr c)) : ConOK Go.Proofs.Try.prog 67 cIsContract := by
  refine lawL (Γ := [(90, cIsReg2), (89, cIsState), (110, cIsVal2)]) (Θ := Th) (n := 56) [([1, 1, 0, 1, 0], ⟨[(1, true), (41, false), (42, true), (43, true)], [(1, false)]⟩)] ⟨cIsReg2_ok, cIsState_ok, cIsVal2_ok, trivial⟩ (by kernel_rfl) th_ok mix_ok Go.Proofs.Try.func67 (by kernel_rfl) ?_
  intro x hw hp Λ hC
  have h0 := h x.1 hw (fun t43_1 => Λ [1, 1, 0, 1, 0] ([(1, .ptr 1 0 []), (41, .d false (.sl .int) x.1.1), (42, .d true .int (List.length x.1.1 : Int)), (43, .d true .int t43_1)], [(1, .box false tCt x.1)])) (fun t43_1 hb => hC [1, 1, 0, 1, 0] ([(1, .ptr 1 0 []), (41, .d false (.sl .int) x.1.1), (42, .d true .int (List.length x.1.1 : Int)), (43, .d true .int t43_1)], [(1, .box false tCt x.1)]) (Eq.mpr (by kernel_rfl) hb))
  exact Eq.mpr (by kernel_rfl) h0
theorem cIsContract_ok : ConOK Go.Proofs.Try.prog 67 cIsContract := by
  refine cIsContract_law ?_
  intro c hw Λ1 h1
  unfold cIsContract_0
  refine ⟨trivial, ?_⟩
  unfold isCtr
  cases e1 : validS c.1
  · simp
  cases e2 : validS c.2.1
  · simp
  cases e3 : isReg c.2.2.1
  · simp
  cases e4 : isVal c.2.2.2.1
  · simp
  cases e5 : isVal c.2.2.2.2.1
  · simp
  by_cases e6 : c.2.2.2.1 > c.2.2.2.2.1
  · simp [e6]
    exact fun h => absurd h (by omega)
  have l1 := validS_len e1
  have l2 := validS_len e2
  have : Λ1 0 := by
    refine upto (n := 4) (Q := fun i => ((List.zipWith (fun (l h : Int) => decide (l ≤ h)) c.1 c.2.1).take i).all id = true → Λ1 i) ?_ ?_ 0 (by omega) rfl
    · intro ha
      rw [List.take_of_length_le (by simp only [List.length_zipWith]; omega)] at ha
      apply h1; unfold cIsContract_1
      rw [if_neg (by rw [l1]; simp)]
      unfold isCtr lowHigh
      rw [e1, e2, e3, e4, e5, ha]
      exact ⟨by simp; omega, trivial⟩
    · intro i hi ih ha
      apply h1; unfold cIsContract_1
      rw [if_pos (by rw [l1]; simp; omega), Int.toNat_natCast]
      refine ⟨⟨by omega, by omega⟩, ⟨by omega, by omega⟩, ?_⟩
      by_cases g : c.1.getD i 0 ≤ c.2.1.getD i 0
      · rw [if_neg (by simpa using g)]
        exact ⟨by unfold inI; omega, ih (zipAll_next' _ 0 0 (by omega) (by omega) ha (by simpa using g))⟩
      · rw [if_pos (by simpa using g)]
        unfold isCtr lowHigh
        rw [zipAll_false' (fun (l h : Int) => decide (l ≤ h)) 0 0 (i := i) (by omega) (by omega) (by simpa using g)]
        exact ⟨by simp, trivial⟩
  simp [this]
  omega
abbrev cValC : Con := { A := (.cons tCt .nil), R := (.cons .int .nil), pre := fun x => True, F := fun x => (validC x.1, ()) }
def cValC_0  (c : Ctr) (y0 : Int) : Prop :=
  True ∧ (if (!(isCtr c)) = true then ((1 : Int) = y0 ∧ True) else (boxC c ∧ (if (decide ((sizeC c) > (400 : Int))) = true then ((3 : Int) = y0 ∧ True) else ((0 : Int) = y0 ∧ True))))
theorem cValC_law (h : ∀ (c : Ctr), cValC.A.wf (c, ()) → cValC_0  c (validC c)) : ConOK Go.Proofs.Try.prog 25 cValC := by
  refine lawL (Γ := [(67, cIsContract), (65, cSize2)]) (Θ := Th) (n := 9) [] ⟨cIsContract_ok, cSize2_ok, trivial⟩ (by kernel_rfl) th_ok mix_ok Go.Proofs.Try.func25 (by kernel_rfl) ?_
  intro x hw hp Λ hC
  have h0 := h x.1 hw  
  exact Eq.mpr (by kernel_rfl) h0
theorem cValC_ok : ConOK Go.Proofs.Try.prog 25 cValC := by
  refine cValC_law ?_
  intro c hw
  unfold cValC_0
  refine ⟨trivial, ?_⟩
  unfold validC
  cases e : isCtr c
  · exact ⟨rfl, trivial⟩
  · rw [if_neg (by simp)]
    refine ⟨(isCtr_box e).1, ?_⟩
    simp only [decide_eq_true_eq]
    split
    · rw [if_pos trivial]; exact ⟨rfl, trivial⟩
    · rw [if_pos trivial]; exact ⟨rfl, trivial⟩
abbrev cBox2 : Con := { A := (.cons tCt .nil), R := (.cons .int (.cons .int .nil)), pre := fun x => True, F := fun x => ((if validC x.1 = 0 then sizeC x.1 else 0), validC x.1, ()) }
def cBox2_0  (c : Ctr) (y0 : Int) (y1 : Int) : Prop :=
  True ∧ (if ((validC c) != (0 : Int)) = true then ((0 : Int) = y0 ∧ (validC c) = y1 ∧ True) else (boxC c ∧ ((sizeC c) = y0 ∧ (0 : Int) = y1 ∧ True)))
theorem cBox2_law (h : ∀ (c : Ctr), cBox2.A.wf (c, ()) → cBox2_0  c (if validC c = 0 then sizeC c else 0) (validC c)) : ConOK Go.Proofs.Try.prog 23 cBox2 := by
  refine lawL (Γ := [(65, cSize2), (25, cValC)]) (Θ := Th) (n := 12) [] ⟨cSize2_ok, cValC_ok, trivial⟩ (by kernel_rfl) th_ok mix_ok Go.Proofs.Try.func23 (by kernel_rfl) ?_
  intro x hw hp Λ hC
  have h0 := h x.1 hw  
  exact Eq.mpr (by kernel_rfl) h0
theorem cBox2_ok : ConOK Go.Proofs.Try.prog 23 cBox2 := by
  refine cBox2_law ?_
  intro c hw
  unfold cBox2_0
  refine ⟨trivial, ?_⟩
  by_cases h : validC c = 0
  · rw [if_neg (by simp [h]), if_pos h, h]
    exact ⟨(isCtr_box (validC_ok h).1).1, rfl, rfl, trivial⟩
  · rw [if_pos (by simpa using h), if_neg h]
    exact ⟨rfl, rfl, trivial⟩
abbrev cWithinR2 : Con := { A := (.cons .int (.cons .int (.cons .int .nil))), R := (.cons .bool .nil), pre := fun x => True, F := fun x => (within x.1 x.2.1 x.2.2.1, ()) }
def cWithinR2_0  (n : Int) (lo : Int) (hi : Int) (y0 : Bool) : Prop :=
  if (decide (n ≥ lo)) = true then (True ∧ ((bif true then (decide (n ≤ hi)) else false) = y0 ∧ True)) else (false = false ∧ (false = y0 ∧ True))
theorem cWithinR2_law (h : ∀ (n : Int) (lo : Int) (hi : Int), cWithinR2.A.wf (n, lo, hi, ()) → cWithinR2_0  n lo hi (within n lo hi)) : ConOK Go.Proofs.Try.prog 69 cWithinR2 := by
  refine lawL (Γ := []) (Θ := Th) (n := 15) [] trivial (by kernel_rfl) th_ok mix_ok Go.Proofs.Try.func69 (by kernel_rfl) ?_
  intro x hw hp Λ hC
  have h0 := h x.1 x.2.1 x.2.2.1 hw  
  exact Eq.mpr (by kernel_rfl) h0
theorem cWithinR2_ok : ConOK Go.Proofs.Try.prog 69 cWithinR2 := by
  refine cWithinR2_law ?_
  intro n lo hi hw
  unfold cWithinR2_0
  unfold within
  split <;> simp_all
  omega
abbrev cBoxR2 : Con := { A := (.cons tCt .nil), R := (.cons .int .nil), pre := fun x => boxC x.1, F := fun x => (min (sizeC x.1) 401, ()) }
def cBoxR2_0 (Λ1 : Int → Int → Prop) (c : Ctr) (y0 : Int) : Prop :=
  Λ1 (1 : Int) (0 : Int)
def cBoxR2_1 (Λ1 : Int → Int → Prop) (c : Ctr) (y0 : Int)  (n_1 : Int) (i_1 : Int) : Prop :=
  if (decide (i_1 < (4 : Int))) = true then (idx i_1 (List.length c.2.1 : Int) ∧ (idx i_1 (List.length c.1 : Int) ∧ (inI ((List.getD c.2.1 (Int.toNat i_1) 0) - (List.getD c.1 (Int.toNat i_1) 0)) ∧ (inI (((List.getD c.2.1 (Int.toNat i_1) 0) - (List.getD c.1 (Int.toNat i_1) 0)) + (1 : Int)) ∧ (inI (n_1 * (((List.getD c.2.1 (Int.toNat i_1) 0) - (List.getD c.1 (Int.toNat i_1) 0)) + (1 : Int))) ∧ (inI (i_1 + (1 : Int)) ∧ Λ1 (min (n_1 * (((List.getD c.2.1 (Int.toNat i_1) 0) - (List.getD c.1 (Int.toNat i_1) 0)) + (1 : Int))) (401 : Int)) (i_1 + (1 : Int)))))))) else (n_1 = y0 ∧ True)
theorem cBoxR2_law (h : ∀ (c : Ctr), cBoxR2.A.wf (c, ()) → (boxC c) → ∀ (Λ1 : Int → Int → Prop), (∀ (n_1 : Int) (i_1 : Int), cBoxR2_1 Λ1 c (min (sizeC c) 401) n_1 i_1 → Λ1 n_1 i_1) → cBoxR2_0 Λ1 c (min (sizeC c) 401)) : ConOK Go.Proofs.Try.prog 66 cBoxR2 := by
  refine lawL (Γ := []) (Θ := Th) (n := 25) [([1, 1, 0, 1, 0], ⟨[(1, true), (3, true), (4, true)], [(1, false)]⟩)] trivial (by kernel_rfl) th_ok mix_ok Go.Proofs.Try.func66 (by kernel_rfl) ?_
  intro x hw hp Λ hC
  have h0 := h x.1 hw hp (fun n_1 i_1 => Λ [1, 1, 0, 1, 0] ([(1, .ptr 1 0 []), (3, .d true .int n_1), (4, .d true .int i_1)], [(1, .box false tCt x.1)])) (fun n_1 i_1 hb => hC [1, 1, 0, 1, 0] ([(1, .ptr 1 0 []), (3, .d true .int n_1), (4, .d true .int i_1)], [(1, .box false tCt x.1)]) (Eq.mpr (by kernel_rfl) hb))
  exact Eq.mpr (by kernel_rfl) h0
theorem cBoxR2_ok : ConOK Go.Proofs.Try.prog 66 cBoxR2 := by
  refine cBoxR2_law ?_
  intro c hw hp Λ1 h1
  unfold cBoxR2_0
  have l1 := validS_len hp.1
  have l2 := validS_len hp.2.1
  refine upto (n := 4) (Q := fun i => Λ1 (min (prodTo c.1 c.2.1 i) 401) i) ?_ ?_ 0 (by omega)
  · apply h1; unfold cBoxR2_1
    rw [if_neg (by simp)]
    exact ⟨rfl, trivial⟩
  · intro i hi ih
    have g := boxC_wid hp hi
    have b := prodTo_inI hp (i := i) (by omega)
    unfold prodTo at ih
    rw [← min_step b.1 (by omega)] at ih
    have m := mul_bd (a := min (prodTo c.1 c.2.1 i) 401) (A := 401) (b := c.2.1.getD i 0 - c.1.getD i 0 + 1) (by omega) (by omega) (by omega) (by omega)
    apply h1; unfold cBoxR2_1
    rw [if_pos (by simp; omega), Int.toNat_natCast]
    exact ⟨⟨by omega, by omega⟩, ⟨by omega, by omega⟩, by unfold inI; omega, by unfold inI; omega, by unfold inI; omega, by unfold inI; omega, ih⟩
abbrev cValCR : Con := { A := (.cons tCt .nil), R := (.cons .int .nil), pre := fun x => True, F := fun x => (validC x.1, ()) }
def cValCR_0 (Λ1 : Int → Prop) (c : Ctr) (y0 : Int) : Prop :=
  True ∧ (if ((argErr (validS c.1)) != (0 : Int)) = true then (true = true ∧ ((1 : Int) = y0 ∧ True)) else (True ∧ (True ∧ (if (bif false then true else ((argErr (validS c.2.1)) != (0 : Int))) = true then ((1 : Int) = y0 ∧ True) else Λ1 (0 : Int)))))
def cValCR_1 (Λ1 : Int → Prop) (c : Ctr) (y0 : Int)  (i_1 : Int) : Prop :=
  if (decide (i_1 < (4 : Int))) = true then (idx i_1 (List.length c.1 : Int) ∧ (idx i_1 (List.length c.2.1 : Int) ∧ (if (decide ((List.getD c.1 (Int.toNat i_1) 0) > (List.getD c.2.1 (Int.toNat i_1) 0))) = true then ((1 : Int) = y0 ∧ True) else (inI (i_1 + (1 : Int)) ∧ Λ1 (i_1 + (1 : Int)))))) else (True ∧ (if (!(within c.2.2.1 (0 : Int) (3 : Int))) = true then (true = true ∧ (true = true ∧ (true = true ∧ ((1 : Int) = y0 ∧ True)))) else (True ∧ (True ∧ (if (bif false then true else (!(within c.2.2.2.1 (-999 : Int) (999 : Int)))) = true then (true = true ∧ (true = true ∧ ((1 : Int) = y0 ∧ True))) else (True ∧ (True ∧ (if (bif false then true else (!(within c.2.2.2.2.1 (-999 : Int) (999 : Int)))) = true then (true = true ∧ ((1 : Int) = y0 ∧ True)) else (True ∧ (if (bif false then true else (decide (c.2.2.2.1 > c.2.2.2.2.1))) = true then ((1 : Int) = y0 ∧ True) else (boxC c ∧ (if (decide ((min (sizeC c) 401) > (400 : Int))) = true then ((3 : Int) = y0 ∧ True) else ((0 : Int) = y0 ∧ True)))))))))))))
theorem cValCR_law (h : ∀ (c : Ctr), cValCR.A.wf (c, ()) → ∀ (Λ1 : Int → Prop), (∀ (i_1 : Int), cValCR_1 Λ1 c (validC c) i_1 → Λ1 i_1) → cValCR_0 Λ1 c (validC c)) : ConOK Go.Proofs.Try.prog 26 cValCR := by
  refine lawL (Γ := [(66, cBoxR2), (68, cValSR), (69, cWithinR2)]) (Θ := Th) (n := 55) [([1, 1, 0, 1, 0], ⟨[(1, true), (3, true)], [(1, false)]⟩)] ⟨cBoxR2_ok, cValSR_ok, cWithinR2_ok, trivial⟩ (by kernel_rfl) th_ok mix_ok Go.Proofs.Try.func26 (by kernel_rfl) ?_
  intro x hw hp Λ hC
  have h0 := h x.1 hw (fun i_1 => Λ [1, 1, 0, 1, 0] ([(1, .ptr 1 0 []), (3, .d true .int i_1)], [(1, .box false tCt x.1)])) (fun i_1 hb => hC [1, 1, 0, 1, 0] ([(1, .ptr 1 0 []), (3, .d true .int i_1)], [(1, .box false tCt x.1)]) (Eq.mpr (by kernel_rfl) hb))
  exact Eq.mpr (by kernel_rfl) h0
theorem cValCR_ok : ConOK Go.Proofs.Try.prog 26 cValCR := by
  refine cValCR_law ?_
  intro c hw Λ1 h1
  unfold cValCR_0
  refine ⟨trivial, ?_⟩
  cases e1 : validS c.1
  · have : validC c = 1 := by unfold validC isCtr; rw [e1]; rfl
    rw [this]; exact ⟨rfl, rfl, trivial⟩
  cases e2 : validS c.2.1
  · have : validC c = 1 := by unfold validC isCtr; rw [e2]; simp
    rw [this]; exact ⟨trivial, trivial, rfl, trivial⟩
  have l1 := validS_len e1
  have l2 := validS_len e2
  have : Λ1 0 := by
    refine upto (n := 4) (Q := fun i => ((List.zipWith (fun (l h : Int) => decide (l ≤ h)) c.1 c.2.1).take i).all id = true → Λ1 i) ?_ ?_ 0 (by omega) rfl
    · intro ha
      rw [List.take_of_length_le (by simp only [List.length_zipWith]; omega)] at ha
      have hlh : lowHigh c = true := ha
      apply h1; unfold cValCR_1
      rw [if_neg (by simp)]
      refine ⟨trivial, ?_⟩
      have hv : validC c = if (isReg c.2.2.1 && isVal c.2.2.2.1 && isVal c.2.2.2.2.1 && decide (c.2.2.2.1 ≤ c.2.2.2.2.1)) = true then (if sizeC c > 400 then 3 else 0) else 1 := by
        unfold validC isCtr
        rw [e1, e2, hlh]
        simp
      rw [hv]
      unfold isReg isVal
      cases e3 : within c.2.2.1 0 3
      · simp
      cases e4 : within c.2.2.2.1 (-999) 999
      · simp
      cases e5 : within c.2.2.2.2.1 (-999) 999
      · simp
      by_cases e6 : c.2.2.2.1 > c.2.2.2.2.1
      · have : ¬ c.2.2.2.1 ≤ c.2.2.2.2.1 := by omega
        simp [e6, this]
      · have e7 : c.2.2.2.1 ≤ c.2.2.2.2.1 := by omega
        have hb : boxC c := ⟨e1, e2, hlh⟩
        by_cases e8 : sizeC c > 400
        · have : min (sizeC c) 401 > 400 := by omega
          simp [e6, e7, hb, e8, this]
        · have : ¬ min (sizeC c) 401 > 400 := by omega
          simp [e6, e7, hb, e8, this]
    · intro i hi ih ha
      apply h1; unfold cValCR_1
      rw [if_pos (by simp; omega), Int.toNat_natCast]
      refine ⟨⟨by omega, by omega⟩, ⟨by omega, by omega⟩, ?_⟩
      by_cases g : c.1.getD i 0 ≤ c.2.1.getD i 0
      · rw [if_neg (by simpa using g)]
        exact ⟨by unfold inI; omega, ih (zipAll_next' _ 0 0 (by omega) (by omega) ha (by simpa using g))⟩
      · rw [if_pos (by simpa using g)]
        have : validC c = 1 := by
          unfold validC isCtr lowHigh
          rw [zipAll_false' (fun (l h : Int) => decide (l ≤ h)) 0 0 (i := i) (by omega) (by omega) (by simpa using g)]
          simp
        exact ⟨this.symm, trivial⟩
  exact ⟨trivial, trivial, this⟩
abbrev cLarge2 : Con := { A := (.cons (.sl .int) .nil), R := (.cons .bool .nil), pre := fun x => True, F := fun x => (decide (100 < x.1.length), ()) }
def cLarge2_0  (l : (List Int)) (y0 : Bool) : Prop :=
  (decide ((List.length l : Int) > (100 : Int))) = y0 ∧ True
theorem cLarge2_law (h : ∀ (l : (List Int)), cLarge2.A.wf (l, ()) → cLarge2_0  l (decide (100 < l.length))) : ConOK Go.Proofs.Try.prog 27 cLarge2 := by
  refine lawL (Γ := []) (Θ := Th) (n := 6) [] trivial (by kernel_rfl) th_ok mix_ok Go.Proofs.Try.func27 (by kernel_rfl) ?_
  intro x hw hp Λ hC
  have h0 := h x.1 hw  
  exact Eq.mpr (by kernel_rfl) h0
theorem cLarge2_ok : ConOK Go.Proofs.Try.prog 27 cLarge2 := by
  refine cLarge2_law ?_
  intro l hw
  unfold cLarge2_0
  exact ⟨by simp; omega, trivial⟩
abbrev cWide : Con := { A := (.cons tCt .nil), R := (.cons .bool .nil), pre := fun x => True, F := fun x => (decide (100 < x.1.1.length ∨ 100 < x.1.2.1.length), ()) }
def cWide_0  (c : Ctr) (y0 : Bool) : Prop :=
  True ∧ (if (decide (100 < c.1.length)) = true then (true = true ∧ (true = y0 ∧ True)) else (True ∧ (True ∧ ((bif false then true else (decide (100 < c.2.1.length))) = y0 ∧ True))))
theorem cWide_law (h : ∀ (c : Ctr), cWide.A.wf (c, ()) → cWide_0  c (decide (100 < c.1.length ∨ 100 < c.2.1.length))) : ConOK Go.Proofs.Try.prog 22 cWide := by
  refine lawL (Γ := [(27, cLarge2)]) (Θ := Th) (n := 11) [] ⟨cLarge2_ok, trivial⟩ (by kernel_rfl) th_ok mix_ok Go.Proofs.Try.func22 (by kernel_rfl) ?_
  intro x hw hp Λ hC
  have h0 := h x.1 hw  
  exact Eq.mpr (by kernel_rfl) h0
theorem cWide_ok : ConOK Go.Proofs.Try.prog 22 cWide := by
  refine cWide_law ?_
  intro c hw
  unfold cWide_0
  refine ⟨trivial, ?_⟩
  by_cases h : 100 < c.1.length
  · simp [h]
  · simp [h]
end Go.Tk
/- Plain facts: tests (layer 2). No program in sight. -/
set_option linter.unusedSimpArgs false
set_option linter.unusedVariables false
namespace Go.Tk
open Go Go.RowKit

def isTst (t : Tst) : Bool := validS t.1 && isReg t.2.1 && isVal t.2.2.1
def validT (l : List Tst) : Int := if l.length > 8 then 3 else argErr (l.all isTst)
def firstErr : List (List Lin) → Int
  | [] => 0
  | p :: ps => if validP p = 0 then firstErr ps else validP p
def errT (ps : List (List Lin)) (l : List Tst) : Int := if firstErr ps = 0 then validT l else firstErr ps
def endT (p : List Lin) (t : Tst) : Int := Rg (runS p t.1) t.2.1
def passT (p : List Lin) (t : Tst) : Bool := endT p t == t.2.2.1
/-- The places of what is so. -/
def whereTo (f : Tst → Bool) (l : List Tst) : Nat → List Int
  | 0 => []
  | n + 1 => whereTo f l n ++ if f (l.getD n tTs.dflt) = true then [(n : Int)] else []
def whereL (f : Tst → Bool) (l : List Tst) : List Int := whereTo f l l.length

theorem whereTo_len (f : Tst → Bool) (l : List Tst) : ∀ n, (whereTo f l n).length ≤ n
  | 0 => Nat.le_refl _
  | n + 1 => by
    unfold whereTo
    rw [List.length_append]
    have := whereTo_len f l n
    split <;> simp <;> omega
theorem whereTo_both (f : Tst → Bool) (l : List Tst) : ∀ n, (whereTo f l n).length + (whereTo (fun t => !f t) l n).length = n
  | 0 => rfl
  | n + 1 => by
    unfold whereTo
    rw [List.length_append, List.length_append]
    have := whereTo_both f l n
    cases f (l.getD n tTs.dflt) <;> simp <;> omega
theorem where_both (f : Tst → Bool) (l : List Tst) : (whereL f l).length + (whereL (fun t => !f t) l).length = l.length := whereTo_both f l l.length
theorem whereL_len (f : Tst → Bool) (l : List Tst) : (whereL f l).length ≤ l.length := whereTo_len f l l.length
theorem whereTo_congr {f g : Tst → Bool} (l : List Tst) : ∀ n, n ≤ l.length → (∀ t ∈ l, f t = g t) → whereTo f l n = whereTo g l n
  | 0, _, _ => rfl
  | n + 1, h, e => by
    unfold whereTo
    rw [whereTo_congr l n (by omega) e, e _ (mem_getD (by omega))]

theorem isTst_iff {t : Tst} : isTst t = true ↔ validS t.1 = true ∧ (0 ≤ t.2.1 ∧ t.2.1 ≤ 3) ∧ (-999 ≤ t.2.2.1 ∧ t.2.2.1 ≤ 999) := by
  unfold isTst isReg isVal
  rw [Bool.and_eq_true, Bool.and_eq_true, within_iff, within_iff, and_assoc]
theorem validT_ok {l : List Tst} (h : validT l = 0) : l.length ≤ 8 ∧ ∀ t ∈ l, isTst t = true := by
  unfold validT at h
  split at h
  · omega
  · exact ⟨by omega, fun t ht => List.all_eq_true.1 (argErr_zero.1 h) t ht⟩
theorem errT_ok {p : List Lin} {l : List Tst} (h : errT [p] l = 0) : validP p = 0 ∧ validT l = 0 := by
  unfold errT firstErr firstErr at h
  by_cases e : validP p = 0
  · rw [if_pos e, if_pos rfl] at h; exact ⟨e, h⟩
  · rw [if_neg e, if_neg e] at h; exact absurd h e
theorem errT2_ok {p q : List Lin} {l : List Tst} (h : errT [p, q] l = 0) : validP p = 0 ∧ validP q = 0 ∧ validT l = 0 := by
  unfold errT firstErr firstErr firstErr at h
  by_cases e : validP p = 0
  · rw [if_pos e] at h
    by_cases e2 : validP q = 0
    · rw [if_pos e2, if_pos rfl] at h; exact ⟨e, e2, h⟩
    · rw [if_neg e2, if_neg e2] at h; exact absurd h e2
  · rw [if_neg e, if_neg e] at h; exact absurd h e

/-! ### Tables -/
def markTo (l : List Int) (r : List Int) : Nat → List Int
  | 0 => r
  | n + 1 => (markTo l r n).set (l.getD n 0).toNat 1
theorem markTo_len (l r : List Int) : ∀ n, (markTo l r n).length = r.length
  | 0 => rfl
  | n + 1 => by unfold markTo; rw [List.length_set, markTo_len l r n]
def rowT (p : List Lin) (t : Tst) : List Int := markTo (doneS p t.1) (List.replicate p.length 0) (doneS p t.1).length
theorem rowT_len (p : List Lin) (t : Tst) : (rowT p t).length = p.length := by unfold rowT; rw [markTo_len, List.length_replicate]
def tableT (p : List Lin) (l : List Tst) : List (List Int) := l.map (rowT p)
theorem doneS_ok {p : List Lin} {s : List Int} (h : validS s = true) {i : Nat} (hi : i < (doneS p s).length) : 0 ≤ (doneS p s).getD i 0 ∧ (doneS p s).getD i 0 < p.length := by
  have g : (doneS p s).getD i 0 ∈ doneS p s := mem_getD hi
  unfold doneS at g
  obtain ⟨v, hv, e⟩ := List.mem_map.1 g
  have := visits_ok h v hv
  unfold doneS
  omega
theorem doneS_len (p : List Lin) (s : List Int) : (doneS p s).length ≤ p.length := by unfold doneS; rw [List.length_map]; exact visits_len _ _ _
theorem map_take_next {α β : Type} (f : α → β) (l : List α) (d : α) {i : Nat} (h : i < l.length) : (l.map f).take (i + 1) = (l.map f).take i ++ [f (l.getD i d)] := by
  rw [← List.map_take, ← List.map_take, take_snoc d h, List.map_append]; rfl
/-- The lines done in some test. -/
def covTo (rows : List (List Int)) : Nat → List Int
  | 0 => []
  | n + 1 => covTo rows n ++ if (rows.any fun r => r.getD n 0 == 1) = true then [(n : Int)] else []
theorem covTo_len (rows : List (List Int)) : ∀ n, (covTo rows n).length ≤ n
  | 0 => Nat.le_refl _
  | n + 1 => by
    unfold covTo
    rw [List.length_append]
    have := covTo_len rows n
    split <;> simp <;> omega
def coverT (p : List Lin) (l : List Tst) : List Int := covTo (tableT p l) p.length
theorem table_row {p : List Lin} {l : List Tst} {r : List Int} (h : r ∈ tableT p l) : r.length = p.length := by
  obtain ⟨t, _, rfl⟩ := List.mem_map.1 h
  exact rowT_len p t
def tellsT (p q : List Lin) (l : List Tst) : List Int := whereL (fun t => endT p t != endT q t) l
theorem tells_comm (p q : List Lin) (l : List Tst) : tellsT q p l = tellsT p q l := by
  unfold tellsT
  congr 1
  funext t
  exact bne_comm
def failL (p : List Lin) (l : List Tst) : List Int := whereL (fun t => !passT p t) l
/-! ### Scores -/
def ratioQ (n d : Int) : Rtl := (n / (Int.gcd n d : Int), d / (Int.gcd n d : Int), ())
def badTo (rows : List (List Int)) (F : List Int) (k : Nat) : Nat → Int
  | 0 => 0
  | i + 1 => badTo rows F k i + if (i : Int) ∈ F then (rows.getD i []).getD k 0 else 0
def goodTo (rows : List (List Int)) (F : List Int) (k : Nat) : Nat → Int
  | 0 => 0
  | i + 1 => goodTo rows F k i + if (i : Int) ∈ F then 0 else (rows.getD i []).getD k 0
def scoreAt (p : List Lin) (l : List Tst) (k : Nat) : Rtl := if failL p l = [] then (0, 1, ()) else
  ratioQ (badTo (tableT p l) (failL p l) k l.length) ((failL p l).length + goodTo (tableT p l) (failL p l) k l.length)
def scoresT (p : List Lin) (l : List Tst) : List Rtl := (List.range p.length).map (scoreAt p l)

theorem markTo_bit {l r : List Int} (h : ∀ x ∈ r, x = 0 ∨ x = 1) : ∀ n, ∀ x ∈ markTo l r n, x = 0 ∨ x = 1
  | 0 => h
  | n + 1 => fun x hx => by
    unfold markTo at hx
    rcases List.mem_or_eq_of_mem_set hx with g | g
    · exact markTo_bit h n x g
    · exact .inr g
theorem rowT_bit (p : List Lin) (t : Tst) : ∀ x ∈ rowT p t, x = 0 ∨ x = 1 := markTo_bit (fun x hx => .inl (List.eq_of_mem_replicate hx)) _
theorem getD_bit {r : List Int} (h : ∀ x ∈ r, x = 0 ∨ x = 1) (k : Nat) : r.getD k 0 = 0 ∨ r.getD k 0 = 1 := by
  rcases Nat.lt_or_ge k r.length with g | g
  · exact h _ (mem_getD g)
  · rw [List.getD_eq_getElem?_getD, List.getElem?_eq_none g]; exact .inl rfl
theorem table_bit (p : List Lin) (l : List Tst) (i k : Nat) : ((tableT p l).getD i []).getD k 0 = 0 ∨ ((tableT p l).getD i []).getD k 0 = 1 := by
  rcases Nat.lt_or_ge i (tableT p l).length with g | g
  · have : (tableT p l).getD i [] ∈ tableT p l := mem_getD g
    obtain ⟨t, _, e⟩ := List.mem_map.1 this
    rw [← e]; exact getD_bit (rowT_bit p t) k
  · have e : (tableT p l).getD i [] = [] := by simp [List.getD_eq_getElem?_getD, List.getElem?_eq_none g]
    rw [e]; exact .inl rfl
theorem bad_good_bd (p : List Lin) (l : List Tst) (F : List Int) (k : Nat) : ∀ i, 0 ≤ badTo (tableT p l) F k i ∧ 0 ≤ goodTo (tableT p l) F k i ∧ badTo (tableT p l) F k i + goodTo (tableT p l) F k i ≤ i
  | 0 => by simp [badTo, goodTo]
  | i + 1 => by
    have ih := bad_good_bd p l F k i
    have b := table_bit p l i k
    unfold badTo goodTo
    split <;> omega
/-- How many of the places up to n are among them. -/
theorem badTo_le (p : List Lin) (l : List Tst) (f : Tst → Bool) (k : Nat) : ∀ i n, i ≤ n → badTo (tableT p l) (whereTo f l n) k i ≤ (whereTo f l i).length
  | 0, _, _ => by simp [badTo, whereTo]
  | i + 1, n, h => by
    have ih := badTo_le p l f k i n (by omega)
    have b := table_bit p l i k
    have hm : ∀ n, i < n → ((i : Int) ∈ whereTo f l n ↔ f (l.getD i tTs.dflt) = true) := by
      intro n hn
      induction n with
      | zero => omega
      | succ n ihn =>
        have hlt : ∀ n, ∀ x ∈ whereTo f l n, x < n := by
          intro n
          induction n with
          | zero => intro x hx; simp [whereTo] at hx
          | succ n ihn =>
            intro x hx
            unfold whereTo at hx
            rcases List.mem_append.1 hx with g | g
            · have := ihn x g; omega
            · split at g <;> simp at g
              omega
        unfold whereTo
        rw [List.mem_append]
        by_cases e : i = n
        · subst e
          constructor
          · rintro (g | g)
            · have := hlt _ _ g; omega
            · split at g
              · assumption
              · simp at g
          · intro g; right; rw [if_pos g]; simp
        · rw [ihn (by omega)]
          constructor
          · rintro (g | g)
            · exact g
            · split at g <;> simp at g
              omega
          · exact fun g => .inl g
    rw [show badTo (tableT p l) (whereTo f l n) k (i + 1) = badTo (tableT p l) (whereTo f l n) k i + if (i : Int) ∈ whereTo f l n then ((tableT p l).getD i []).getD k 0 else 0 from rfl, show whereTo f l (i + 1) = whereTo f l i ++ if f (l.getD i tTs.dflt) = true then [(i : Int)] else [] from rfl, List.length_append]
    by_cases g : f (l.getD i tTs.dflt) = true
    · rw [if_pos ((hm n (by omega)).2 g), if_pos g, List.length_singleton]; omega
    · rw [if_neg (fun q => g ((hm n (by omega)).1 q)), if_neg g, List.length_nil]; omega

theorem ratioQ_le {n d : Int} (h0 : 0 ≤ n) (h1 : n ≤ d) (h2 : 0 < d) : (ratioQ n d).1 ≤ (ratioQ n d).2.1 := Int.ediv_le_ediv (by have := Int.gcd_pos_of_ne_zero_right n (show d ≠ 0 by omega); omega) h1
end Go.Tk
set_option linter.unusedSimpArgs false
set_option linter.unusedVariables false
namespace Go.Tk
open Go Go.RowKit

abbrev cIsTest : Con := { A := (.cons tTs .nil), R := (.cons .bool .nil), pre := fun x => True, F := fun x => (isTst x.1, ()) }
def cIsTest_0  (t : Tst) (y0 : Bool) : Prop :=
  True ∧ (if (validS t.1) = true then (True ∧ (True ∧ (if (bif true then (isReg t.2.1) else false) = true then (True ∧ (True ∧ ((bif true then (isVal t.2.2.1) else false) = y0 ∧ True))) else (false = false ∧ (false = y0 ∧ True))))) else (false = false ∧ (false = false ∧ (false = y0 ∧ True))))
theorem cIsTest_law (h : ∀ (t : Tst), cIsTest.A.wf (t, ()) → cIsTest_0  t (isTst t)) : ConOK Go.Proofs.Try.prog 82 cIsTest := by
  refine lawL (Γ := [(90, cIsReg2), (89, cIsState), (110, cIsVal2)]) (Θ := Th) (n := 16) [] ⟨cIsReg2_ok, cIsState_ok, cIsVal2_ok, trivial⟩ (by kernel_rfl) th_ok mix_ok Go.Proofs.Try.func82 (by kernel_rfl) ?_
  intro x hw hp Λ hC
  have h0 := h x.1 hw  
  exact Eq.mpr (by kernel_rfl) h0
theorem cIsTest_ok : ConOK Go.Proofs.Try.prog 82 cIsTest := by
  refine cIsTest_law ?_
  intro t hw
  unfold cIsTest_0
  refine ⟨trivial, ?_⟩
  unfold isTst
  cases validS t.1
  · simp
  · cases isReg t.2.1 <;> simp
abbrev cNotTest : Con := { A := (.cons tTs .nil), R := (.cons .bool .nil), pre := fun x => True, F := fun x => (!(isTst x.1), ()) }
def cNotTest_0  (t : Tst) (y0 : Bool) : Prop :=
  True ∧ ((!(isTst t)) = y0 ∧ True)
theorem cNotTest_law (h : ∀ (t : Tst), cNotTest.A.wf (t, ()) → cNotTest_0  t (!(isTst t))) : ConOK Go.Proofs.Try.prog 81 cNotTest := by
  refine lawL (Γ := [(82, cIsTest)]) (Θ := Th) (n := 6) [] ⟨cIsTest_ok, trivial⟩ (by kernel_rfl) th_ok mix_ok Go.Proofs.Try.func81 (by kernel_rfl) ?_
  intro x hw hp Λ hC
  have h0 := h x.1 hw  
  exact Eq.mpr (by kernel_rfl) h0
theorem cNotTest_ok : ConOK Go.Proofs.Try.prog 81 cNotTest := by
  refine cNotTest_law ?_
  intro t hw
  unfold cNotTest_0
  exact ⟨trivial, rfl, trivial⟩
abbrev cIndexT : Con := { A := (.cons (.sl tTs) (.cons (.fn (.cons tTs .nil) (.cons .bool .nil)) .nil)), R := (.cons .int .nil), pre := fun x => ∀ r', tTs.wf r' → x.2.1.1 (r', ()), F := fun x => (idxF (fun r' => (x.2.1.2 (r', ())).1) x.1, ()) }
def cIndexT_0 (Λ1 : Int → Prop) (s : (List Tst)) (f : (T.fn (.cons tTs .nil) (.cons .bool .nil)).den) (y0 : Int) : Prop :=
  Λ1 (0 : Int)
def cIndexT_1 (Λ1 : Int → Prop) (s : (List Tst)) (f : (T.fn (.cons tTs .nil) (.cons .bool .nil)).den) (y0 : Int)  (t8_1 : Int) : Prop :=
  if (decide (t8_1 < (List.length s : Int))) = true then (idx t8_1 (List.length s : Int) ∧ (f.1 ((List.getD s (Int.toNat t8_1) tTs.dflt), ()) ∧ (if ((f.2 ((List.getD s (Int.toNat t8_1) tTs.dflt), ())).1) = true then (t8_1 = y0 ∧ True) else (inI (t8_1 + (1 : Int)) ∧ Λ1 (t8_1 + (1 : Int)))))) else ((-1 : Int) = y0 ∧ True)
theorem cIndexT_law (h : ∀ (s : (List Tst)) (f : (T.fn (.cons tTs .nil) (.cons .bool .nil)).den), cIndexT.A.wf (s, f, ()) → (∀ r', tTs.wf r' → f.1 (r', ())) → ∀ (Λ1 : Int → Prop), (∀ (t8_1 : Int), cIndexT_1 Λ1 s f (idxF (fun r' => (f.2 (r', ())).1) s) t8_1 → Λ1 t8_1) → cIndexT_0 Λ1 s f (idxF (fun r' => (f.2 (r', ())).1) s)) : ConOK Go.Proofs.Try.prog 115 cIndexT := by
  refine lawL (Γ := []) (Θ := Th) (n := 19) [([1, 0, 1, 0], ⟨[(0, false), (1, false), (7, true), (8, true)], []⟩)] trivial (by kernel_rfl) th_ok mix_ok Go.Proofs.Try.func115 (by kernel_rfl) ?_
  intro x hw hp Λ hC
  have h0 := h x.1 x.2.1 hw hp (fun t8_1 => Λ [1, 0, 1, 0] ([(0, .d false (.sl tTs) x.1), (1, .d false (.fn (.cons tTs .nil) (.cons .bool .nil)) x.2.1), (7, .d true .int (List.length x.1 : Int)), (8, .d true .int t8_1)], [])) (fun t8_1 hb => hC [1, 0, 1, 0] ([(0, .d false (.sl tTs) x.1), (1, .d false (.fn (.cons tTs .nil) (.cons .bool .nil)) x.2.1), (7, .d true .int (List.length x.1 : Int)), (8, .d true .int t8_1)], []) (Eq.mpr (by kernel_rfl) hb))
  exact Eq.mpr (by kernel_rfl) h0
theorem cIndexT_ok : ConOK Go.Proofs.Try.prog 115 cIndexT := by
  refine cIndexT_law ?_
  intro s f hw hp Λ1 h1
  unfold cIndexT_0
  refine upto (n := s.length) (Q := fun i => (s.take i).any (fun r => (f.2 (r, ())).1) = false → Λ1 i) ?_ ?_ 0 (Nat.zero_le _) rfl
  · intro ha
    rw [List.take_length] at ha
    apply h1; unfold cIndexT_1; rw [if_neg (by simp), idxF_none ha]
    exact ⟨rfl, trivial⟩
  · intro i hi ih ha
    apply h1; unfold cIndexT_1; rw [if_pos (by simpa using hi), Int.toNat_natCast]
    refine ⟨idx_nat hi, hp _ (hw.1.2 _ (mem_getD hi)), ?_⟩
    cases hv : (f.2 (List.getD s i tTs.dflt, ())).1
    · rw [if_neg (by simp)]
      exact ⟨inI_succ hi hw.1.1, ih (any_take_next (p := fun r => (f.2 (r, ())).1) tTs.dflt hi ha hv)⟩
    · rw [if_pos (by rfl), idxF_at (p := fun r => (f.2 (r, ())).1) tTs.dflt hi ha hv]
      exact ⟨rfl, trivial⟩
abbrev cContT : Con := { A := (.cons (.sl tTs) (.cons (.fn (.cons tTs .nil) (.cons .bool .nil)) .nil)), R := (.cons .bool .nil), pre := fun x => ∀ r', tTs.wf r' → x.2.1.1 (r', ()), F := fun x => (x.1.any (fun r' => (x.2.1.2 (r', ())).1), ()) }
def cContT_0  (s : (List Tst)) (f : (T.fn (.cons tTs .nil) (.cons .bool .nil)).den) (y0 : Bool) : Prop :=
  (∀ r', tTs.wf r' → f.1 (r', ())) ∧ ((decide ((idxF (fun r' => (f.2 (r', ())).1) s) ≥ (0 : Int))) = y0 ∧ True)
theorem cContT_law (h : ∀ (s : (List Tst)) (f : (T.fn (.cons tTs .nil) (.cons .bool .nil)).den), cContT.A.wf (s, f, ()) → (∀ r', tTs.wf r' → f.1 (r', ())) → cContT_0  s f (s.any (fun r' => (f.2 (r', ())).1))) : ConOK Go.Proofs.Try.prog 80 cContT := by
  refine lawL (Γ := [(115, cIndexT)]) (Θ := Th) (n := 9) [] ⟨cIndexT_ok, trivial⟩ (by kernel_rfl) th_ok mix_ok Go.Proofs.Try.func80 (by kernel_rfl) ?_
  intro x hw hp Λ hC
  have h0 := h x.1 x.2.1 hw hp  
  exact Eq.mpr (by kernel_rfl) h0
theorem cContT_ok : ConOK Go.Proofs.Try.prog 80 cContT := by
  refine cContT_law ?_
  intro s f hw hp
  unfold cContT_0
  exact ⟨hp, idxF_any _ _, trivial⟩
abbrev cValT : Con := { A := (.cons (.sl tTs) .nil), R := (.cons .int .nil), pre := fun x => True, F := fun x => (validT x.1, ()) }
def cValT_0  (l : (List Tst)) (y0 : Int) : Prop :=
  if (decide ((List.length l : Int) > (8 : Int))) = true then ((3 : Int) = y0 ∧ True) else ((∀ r', tTs.wf r' → (fun (xx : (Tst × Unit)) => True, fun (xx : (Tst × Unit)) => (!(isTst xx.1), ())).1 (r', ())) ∧ (if (l.any (fun r' => ((fun (xx : (Tst × Unit)) => True, fun (xx : (Tst × Unit)) => (!(isTst xx.1), ())).2 (r', ())).1)) = true then ((1 : Int) = y0 ∧ True) else ((0 : Int) = y0 ∧ True)))
theorem cValT_law (h : ∀ (l : (List Tst)), cValT.A.wf (l, ()) → cValT_0  l (validT l)) : ConOK Go.Proofs.Try.prog 37 cValT := by
  refine lawL (Γ := [(80, cContT), (81, cNotTest)]) (Θ := Th) (n := 8) [] ⟨cContT_ok, cNotTest_ok, trivial⟩ (by kernel_rfl) th_ok mix_ok Go.Proofs.Try.func37 (by kernel_rfl) ?_
  intro x hw hp Λ hC
  have h0 := h x.1 hw  
  exact Eq.mpr (by kernel_rfl) h0
theorem cValT_ok : ConOK Go.Proofs.Try.prog 37 cValT := by
  refine cValT_law ?_
  intro l hw
  unfold cValT_0
  unfold validT
  simp only [decide_eq_true_eq]
  by_cases h : l.length > 8
  · rw [if_pos (by omega), if_pos h]; exact ⟨rfl, trivial⟩
  · rw [if_neg (by omega), if_neg h]
    refine ⟨fun _ _ => trivial, ?_⟩
    show if (l.any fun r => !isTst r) = true then _ else _
    rw [any_not_all]
    cases l.all isTst <;> exact ⟨rfl, trivial⟩
abbrev cTested : Con := { A := (.cons (.sl tTs) (.cons (.sl (.sl tL)) .nil)), R := (.cons .int .nil), pre := fun x => True, F := fun x => (errT x.2.1 x.1, ()) }
def cTested_0 (Λ1 : Int → Prop) (l : (List Tst)) (programs : (List (List Lin))) (y0 : Int) : Prop :=
  Λ1 (0 : Int)
def cTested_1 (Λ1 : Int → Prop) (l : (List Tst)) (programs : (List (List Lin))) (y0 : Int)  (t10_1 : Int) : Prop :=
  if (decide (t10_1 < (List.length programs : Int))) = true then (idx t10_1 (List.length programs : Int) ∧ (True ∧ (if ((validP (List.getD programs (Int.toNat t10_1) ([] : List Lin))) != (0 : Int)) = true then ((validP (List.getD programs (Int.toNat t10_1) ([] : List Lin))) = y0 ∧ True) else (inI (t10_1 + (1 : Int)) ∧ Λ1 (t10_1 + (1 : Int)))))) else (True ∧ ((validT l) = y0 ∧ True))
theorem cTested_law (h : ∀ (l : (List Tst)) (programs : (List (List Lin))), cTested.A.wf (l, programs, ()) → ∀ (Λ1 : Int → Prop), (∀ (t10_1 : Int), cTested_1 Λ1 l programs (errT programs l) t10_1 → Λ1 t10_1) → cTested_0 Λ1 l programs (errT programs l)) : ConOK Go.Proofs.Try.prog 61 cTested := by
  refine lawL (Γ := [(88, cValP), (37, cValT)]) (Θ := Th) (n := 22) [([1, 0, 1, 0], ⟨[(0, false), (8, false), (9, true), (10, true)], []⟩)] ⟨cValP_ok, cValT_ok, trivial⟩ (by kernel_rfl) th_ok mix_ok Go.Proofs.Try.func61 (by kernel_rfl) ?_
  intro x hw hp Λ hC
  have h0 := h x.1 x.2.1 hw (fun t10_1 => Λ [1, 0, 1, 0] ([(0, .d false (.sl tTs) x.1), (8, .d false (.sl (.sl tL)) x.2.1), (9, .d true .int (List.length x.2.1 : Int)), (10, .d true .int t10_1)], [])) (fun t10_1 hb => hC [1, 0, 1, 0] ([(0, .d false (.sl tTs) x.1), (8, .d false (.sl (.sl tL)) x.2.1), (9, .d true .int (List.length x.2.1 : Int)), (10, .d true .int t10_1)], []) (Eq.mpr (by kernel_rfl) hb))
  exact Eq.mpr (by kernel_rfl) h0
theorem cTested_ok : ConOK Go.Proofs.Try.prog 61 cTested := by
  refine cTested_law ?_
  intro l programs hw Λ1 h1
  unfold cTested_0
  have key : ∀ n i, i + n = programs.length → firstErr programs = firstErr (programs.drop i) → Λ1 i := by
    intro n
    induction n with
    | zero =>
      intro i hi e
      apply h1; unfold cTested_1
      rw [if_neg (by simp; omega)]
      rw [List.drop_eq_nil_of_le (by omega)] at e
      refine ⟨trivial, ?_, trivial⟩
      unfold errT
      rw [if_pos (by rw [e]; rfl)]
    | succ n ih =>
      intro i hi e
      have hl : i < programs.length := by omega
      apply h1; unfold cTested_1
      rw [if_pos (by simpa using hl), Int.toNat_natCast]
      have hd : programs.drop i = programs.getD i [] :: programs.drop (i + 1) := by
        rw [List.drop_eq_getElem_cons hl]; simp [List.getD_eq_getElem?_getD, hl]
      rw [hd, firstErr] at e
      refine ⟨idx_nat hl, trivial, ?_⟩
      by_cases g : validP (programs.getD i []) = 0
      · rw [if_pos g] at e
        rw [if_neg (by simpa using g)]
        exact ⟨inI_succ hl hw.2.1.1, ih (i + 1) (by omega) e⟩
      · rw [if_neg g] at e
        rw [if_pos (by simpa using g)]
        refine ⟨?_, trivial⟩
        unfold errT
        rw [e, if_neg g]
  exact key programs.length 0 (by omega) rfl
abbrev cEnd : Con := { A := (.cons (.sl tL) (.cons (.sl .int) (.cons .int .nil))), R := (.cons .int .nil), pre := fun x => validP x.1 = 0 ∧ validS x.2.1 = true ∧ 0 ≤ x.2.2.1 ∧ x.2.2.1 ≤ 3, F := fun x => (Rg (runS x.1 x.2.1) x.2.2.1, ()) }
def cEnd_0  (p : (List Lin)) (in_ : (List Int)) (out : Int) (y0 : Int) : Prop :=
  True ∧ (idx out (List.length ((if err1 p in_ = 0 then runS p in_ else [])) : Int) ∧ ((List.getD ((if err1 p in_ = 0 then runS p in_ else [])) (Int.toNat out) 0) = y0 ∧ True))
theorem cEnd_law (h : ∀ (p : (List Lin)) (in_ : (List Int)) (out : Int), cEnd.A.wf (p, in_, out, ()) → (validP p = 0 ∧ validS in_ = true ∧ 0 ≤ out ∧ out ≤ 3) → cEnd_0  p in_ out (Rg (runS p in_) out)) : ConOK Go.Proofs.Try.prog 75 cEnd := by
  refine lawL (Γ := [(113, cRun)]) (Θ := Th) (n := 19) [] ⟨cRun_ok, trivial⟩ (by kernel_rfl) th_ok mix_ok Go.Proofs.Try.func75 (by kernel_rfl) ?_
  intro x hw hp Λ hC
  have h0 := h x.1 x.2.1 x.2.2.1 hw hp  
  exact Eq.mpr (by kernel_rfl) h0
theorem cEnd_ok : ConOK Go.Proofs.Try.prog 75 cEnd := by
  refine cEnd_law ?_
  intro p in_ out hw hp
  unfold cEnd_0
  obtain ⟨p1, p2, p3, p4⟩ := hp
  have e : err1 p in_ = 0 := by unfold err1; rw [if_pos p1, p2]; rfl
  have l4 := validS_len (runS_ok (p := p) p2)
  rw [if_pos e]
  exact ⟨trivial, ⟨p3, by omega⟩, rfl, trivial⟩
abbrev cPassT : Con := { A := (.cons (.sl tL) (.cons tTs .nil)), R := (.cons .bool .nil), pre := fun x => validP x.1 = 0 ∧ isTst x.2.1 = true, F := fun x => (passT x.1 x.2.1, ()) }
def cPassT_0  (p : (List Lin)) (t : Tst) (y0 : Bool) : Prop :=
  (validP p = 0 ∧ validS t.1 = true ∧ 0 ≤ t.2.1 ∧ t.2.1 ≤ 3) ∧ (((Rg (runS p t.1) t.2.1) == t.2.2.1) = y0 ∧ True)
theorem cPassT_law (h : ∀ (p : (List Lin)) (t : Tst), cPassT.A.wf (p, t, ()) → (validP p = 0 ∧ isTst t = true) → cPassT_0  p t (passT p t)) : ConOK Go.Proofs.Try.prog 70 cPassT := by
  refine lawL (Γ := [(75, cEnd)]) (Θ := Th) (n := 14) [] ⟨cEnd_ok, trivial⟩ (by kernel_rfl) th_ok mix_ok Go.Proofs.Try.func70 (by kernel_rfl) ?_
  intro x hw hp Λ hC
  have h0 := h x.1 x.2.1 hw hp  
  exact Eq.mpr (by kernel_rfl) h0
theorem cPassT_ok : ConOK Go.Proofs.Try.prog 70 cPassT := by
  refine cPassT_law ?_
  intro p t hw hp
  unfold cPassT_0
  obtain ⟨p1, p2⟩ := hp
  obtain ⟨q1, q2, q3⟩ := isTst_iff.1 p2
  exact ⟨⟨p1, q1, q2.1, q2.2⟩, rfl, trivial⟩
abbrev cWhere : Con := { A := (.cons (.sl tTs) (.cons (.fn (.cons tTs .nil) (.cons .bool .nil)) .nil)), R := (.cons (.osl .int) .nil), pre := fun x => x.1.length ≤ 1000000 ∧ ∀ t' ∈ x.1, tTs.wf t' → x.2.1.1 (t', ()), F := fun x => (whereL (fun t' => (x.2.1.2 (t', ())).1) x.1, ()) }
def cWhere_0 (Λ1 : Int → (List Int) → Prop) (l : (List Tst)) (is_ : (T.fn (.cons tTs .nil) (.cons .bool .nil)).den) (y0 : (List Int)) : Prop :=
  Λ1 (0 : Int) ([] : List Int)
def cWhere_1 (Λ1 : Int → (List Int) → Prop) (l : (List Tst)) (is_ : (T.fn (.cons tTs .nil) (.cons .bool .nil)).den) (y0 : (List Int))  (t10_1 : Int) (out_1 : (List Int)) : Prop :=
  if (decide (t10_1 < (List.length l : Int))) = true then (idx t10_1 (List.length l : Int) ∧ (is_.1 ((List.getD l (Int.toNat t10_1) tTs.dflt), ()) ∧ (if ((is_.2 ((List.getD l (Int.toNat t10_1) tTs.dflt), ())).1) = true then (List.length out_1 + List.length [t10_1] ≤ 4294967296 ∧ (inI (t10_1 + (1 : Int)) ∧ Λ1 (t10_1 + (1 : Int)) (out_1 ++ [t10_1]))) else (inI (t10_1 + (1 : Int)) ∧ Λ1 (t10_1 + (1 : Int)) out_1)))) else out_1 = y0
theorem cWhere_law (h : ∀ (l : (List Tst)) (is_ : (T.fn (.cons tTs .nil) (.cons .bool .nil)).den), cWhere.A.wf (l, is_, ()) → (l.length ≤ 1000000 ∧ ∀ t' ∈ l, tTs.wf t' → is_.1 (t', ())) → ∀ (Λ1 : Int → (List Int) → Prop), (∀ (t10_1 : Int) (out_1 : (List Int)), cWhere_1 Λ1 l is_ (whereL (fun t' => (is_.2 (t', ())).1) l) t10_1 out_1 → Λ1 t10_1 out_1) → cWhere_0 Λ1 l is_ (whereL (fun t' => (is_.2 (t', ())).1) l)) : ConOK Go.Proofs.Try.prog 73 cWhere := by
  refine lawL (Γ := []) (Θ := Th) (n := 24) [([1, 1, 0, 1, 0], ⟨[(1, false), (5, true), (8, false), (9, true), (10, true)], [(5, true)]⟩)] trivial (by kernel_rfl) th_ok mix_ok Go.Proofs.Try.func73 (by kernel_rfl) ?_
  intro x hw hp Λ hC
  have h0 := h x.1 x.2.1 hw hp (fun t10_1 out_1 => Λ [1, 1, 0, 1, 0] ([(1, .d false (.fn (.cons tTs .nil) (.cons .bool .nil)) x.2.1), (5, .own 5 0), (8, .d false (.sl tTs) x.1), (9, .d true .int (List.length x.1 : Int)), (10, .d true .int t10_1)], [(5, .sl true .int out_1)])) (fun t10_1 out_1 hb => hC [1, 1, 0, 1, 0] ([(1, .d false (.fn (.cons tTs .nil) (.cons .bool .nil)) x.2.1), (5, .own 5 0), (8, .d false (.sl tTs) x.1), (9, .d true .int (List.length x.1 : Int)), (10, .d true .int t10_1)], [(5, .sl true .int out_1)]) (Eq.mpr (by kernel_rfl) hb))
  exact Eq.mpr (by kernel_rfl) h0
theorem cWhere_ok : ConOK Go.Proofs.Try.prog 73 cWhere := by
  refine cWhere_law ?_
  intro l is_ hw hp Λ1 h1
  unfold cWhere_0
  obtain ⟨p1, p2⟩ := hp
  refine upto (n := l.length) (Q := fun i => Λ1 i (whereTo (fun t' => (is_.2 (t', ())).1) l i)) ?_ ?_ 0 (Nat.zero_le _)
  · apply h1; unfold cWhere_1; rw [if_neg (by simp)]; exact rfl
  · intro i hi ih
    apply h1; unfold cWhere_1; rw [if_pos (by simpa using hi), Int.toNat_natCast]
    have hm : List.getD l i tTs.dflt ∈ l := mem_getD hi
    refine ⟨idx_nat hi, p2 _ hm (hw.1.2 _ hm), ?_⟩
    unfold whereTo at ih
    have hle := whereTo_len (fun t' => (is_.2 (t', ())).1) l i
    cases hv : (is_.2 (List.getD l i tTs.dflt, ())).1
    · rw [hv, if_neg (by simp), List.append_nil] at ih
      rw [if_neg (by simp)]
      exact ⟨inI_succ hi (by omega), ih⟩
    · rw [hv, if_pos rfl] at ih
      rw [if_pos (by rfl)]
      exact ⟨by simp only [List.length_cons, List.length_nil]; omega, inI_succ hi (by omega), ih⟩
theorem errT_cases (p : List Lin) (l : List Tst) : errT [p] l = if validP p = 0 then validT l else validP p := by
  unfold errT firstErr firstErr
  by_cases e : validP p = 0
  · rw [if_pos e, if_pos rfl, if_pos e]
  · rw [if_neg e, if_neg e]
theorem errT2_cases (p q : List Lin) (l : List Tst) : errT [p, q] l = if validP p = 0 then errT [q] l else validP p := by
  rw [errT_cases]
  unfold errT firstErr firstErr firstErr
  by_cases e : validP p = 0
  · rw [if_pos e, if_pos e]
    by_cases e2 : validP q = 0
    · rw [if_pos e2, if_pos rfl, if_pos e2]
    · rw [if_neg e2, if_neg e2]
  · rw [if_neg e, if_neg e, if_neg e]

abbrev cPasses : Con := { A := (.cons (.sl tL) (.cons tTs .nil)), R := (.cons .bool (.cons .int .nil)), pre := fun x => True, F := fun x => ((errT [x.1] [x.2.1] == 0 && passT x.1 x.2.1), errT [x.1] [x.2.1], ()) }
def cPasses_0  (p : (List Lin)) (t : Tst) (y0 : Bool) (y1 : Int) : Prop :=
  True ∧ (if ((errT [p] [t]) != (0 : Int)) = true then (false = y0 ∧ (errT [p] [t]) = y1 ∧ True) else ((validP p = 0 ∧ isTst t = true) ∧ ((passT p t) = y0 ∧ (0 : Int) = y1 ∧ True)))
theorem cPasses_law (h : ∀ (p : (List Lin)) (t : Tst), cPasses.A.wf (p, t, ()) → cPasses_0  p t (errT [p] [t] == 0 && passT p t) (errT [p] [t])) : ConOK Go.Proofs.Try.prog 28 cPasses := by
  refine lawL (Γ := [(70, cPassT), (61, cTested)]) (Θ := Th) (n := 18) [] ⟨cPassT_ok, cTested_ok, trivial⟩ (by kernel_rfl) th_ok mix_ok Go.Proofs.Try.func28 (by kernel_rfl) ?_
  intro x hw hp Λ hC
  have h0 := h x.1 x.2.1 hw  
  exact Eq.mpr (by kernel_rfl) h0
theorem cPasses_ok : ConOK Go.Proofs.Try.prog 28 cPasses := by
  refine cPasses_law ?_
  intro p t hw
  unfold cPasses_0
  refine ⟨trivial, ?_⟩
  by_cases h : errT [p] [t] = 0
  · rw [if_neg (by simp [h])]
    obtain ⟨h1, h2⟩ := errT_ok h
    exact ⟨⟨h1, (validT_ok h2).2 t (by simp)⟩, by simp [h], h.symm, trivial⟩
  · rw [if_pos (by simpa using h)]
    exact ⟨by simp [h], rfl, trivial⟩
abbrev cPassing1 : Con := { A := (.cons tTs (.cons (.ref (.sl tL)) .nil)), R := (.cons .bool .nil), pre := fun x => validP x.2.1 = 0 ∧ isTst x.1 = true, F := fun x => (passT x.2.1 x.1, ()) }
def cPassing1_0  (t : Tst) (c0 : (List Lin)) (y0 : Bool) : Prop :=
  (validP c0 = 0 ∧ isTst t = true) ∧ ((passT c0 t) = y0 ∧ True)
theorem cPassing1_law (h : ∀ (t : Tst) (c0 : (List Lin)), cPassing1.A.wf (t, c0, ()) → (validP c0 = 0 ∧ isTst t = true) → cPassing1_0  t c0 (passT c0 t)) : ConOK Go.Proofs.Try.prog 77 cPassing1 := by
  refine lawL (Γ := [(70, cPassT)]) (Θ := Th) (n := 7) [] ⟨cPassT_ok, trivial⟩ (by kernel_rfl) th_ok mix_ok Go.Proofs.Try.func77 (by kernel_rfl) ?_
  intro x hw hp Λ hC
  have h0 := h x.1 x.2.1 hw hp  
  exact Eq.mpr (by kernel_rfl) h0
theorem cPassing1_ok : ConOK Go.Proofs.Try.prog 77 cPassing1 := by
  refine cPassing1_law ?_
  intro t c0 hw hp
  unfold cPassing1_0
  exact ⟨hp, rfl, trivial⟩
abbrev cPassing : Con := { A := (.cons (.sl tL) (.cons (.sl tTs) .nil)), R := (.cons (.sl .int) (.cons .int .nil)), pre := fun x => True, F := fun x => ((if errT [x.1] x.2.1 = 0 then whereL (passT x.1) x.2.1 else []), errT [x.1] x.2.1, ()) }
def cPassing_0  (p : (List Lin)) (l : (List Tst)) (y0 : (List Int)) (y1 : Int) : Prop :=
  True ∧ (if ((errT [p] l) != (0 : Int)) = true then (([] : List Int) = y0 ∧ (errT [p] l) = y1 ∧ True) else ((l.length ≤ 1000000 ∧ ∀ t' ∈ l, tTs.wf t' → (fun (xx : (Tst × Unit)) => validP p = 0 ∧ isTst xx.1 = true, fun (xx : (Tst × Unit)) => (passT p xx.1, ())).1 (t', ())) ∧ ((whereL (fun t' => ((fun (xx : (Tst × Unit)) => validP p = 0 ∧ isTst xx.1 = true, fun (xx : (Tst × Unit)) => (passT p xx.1, ())).2 (t', ())).1) l) = y0 ∧ (0 : Int) = y1 ∧ True)))
theorem cPassing_law (h : ∀ (p : (List Lin)) (l : (List Tst)), cPassing.A.wf (p, l, ()) → cPassing_0  p l (if errT [p] l = 0 then whereL (passT p) l else []) (errT [p] l)) : ConOK Go.Proofs.Try.prog 33 cPassing := by
  refine lawX (X := { subs := [], frz := [2], U := [], mul := [], nst := [], nls := [], itf := none, inp := [], arrs := [] }) (hX := xok0 _ trivial) (Γ := [(77, cPassing1), (61, cTested), (73, cWhere)]) (Θ := Th) (n := 17) [] ⟨cPassing1_ok, cTested_ok, cWhere_ok, trivial⟩ (by kernel_rfl) th_ok mix_ok Go.Proofs.Try.func33 (by kernel_rfl) ?_
  intro x hw hp Λ hC
  have h0 := h x.1 x.2.1 hw  
  exact Eq.mpr (by kernel_rfl) h0
theorem cPassing_ok : ConOK Go.Proofs.Try.prog 33 cPassing := by
  refine cPassing_law ?_
  intro p l hw
  unfold cPassing_0
  refine ⟨trivial, ?_⟩
  by_cases h : errT [p] l = 0
  · rw [if_neg (by simp [h]), if_pos h]
    obtain ⟨h1, h2⟩ := errT_ok h
    obtain ⟨h3, h4⟩ := validT_ok h2
    exact ⟨⟨by omega, fun t' ht _ => ⟨h1, h4 t' ht⟩⟩, rfl, h.symm, trivial⟩
  · rw [if_pos (by simpa using h), if_neg h]
    exact ⟨rfl, rfl, trivial⟩
abbrev cFailing1 : Con := { A := (.cons tTs (.cons (.ref (.sl tL)) .nil)), R := (.cons .bool .nil), pre := fun x => validP x.2.1 = 0 ∧ isTst x.1 = true, F := fun x => (!(passT x.2.1 x.1), ()) }
def cFailing1_0  (t : Tst) (c0 : (List Lin)) (y0 : Bool) : Prop :=
  (validP c0 = 0 ∧ isTst t = true) ∧ ((!(passT c0 t)) = y0 ∧ True)
theorem cFailing1_law (h : ∀ (t : Tst) (c0 : (List Lin)), cFailing1.A.wf (t, c0, ()) → (validP c0 = 0 ∧ isTst t = true) → cFailing1_0  t c0 (!(passT c0 t))) : ConOK Go.Proofs.Try.prog 79 cFailing1 := by
  refine lawL (Γ := [(70, cPassT)]) (Θ := Th) (n := 8) [] ⟨cPassT_ok, trivial⟩ (by kernel_rfl) th_ok mix_ok Go.Proofs.Try.func79 (by kernel_rfl) ?_
  intro x hw hp Λ hC
  have h0 := h x.1 x.2.1 hw hp  
  exact Eq.mpr (by kernel_rfl) h0
theorem cFailing1_ok : ConOK Go.Proofs.Try.prog 79 cFailing1 := by
  refine cFailing1_law ?_
  intro t c0 hw hp
  unfold cFailing1_0
  exact ⟨hp, rfl, trivial⟩
abbrev cFailing : Con := { A := (.cons (.sl tL) (.cons (.sl tTs) .nil)), R := (.cons (.sl .int) (.cons .int .nil)), pre := fun x => True, F := fun x => ((if errT [x.1] x.2.1 = 0 then failL x.1 x.2.1 else []), errT [x.1] x.2.1, ()) }
def cFailing_0  (p : (List Lin)) (l : (List Tst)) (y0 : (List Int)) (y1 : Int) : Prop :=
  True ∧ (if ((errT [p] l) != (0 : Int)) = true then (([] : List Int) = y0 ∧ (errT [p] l) = y1 ∧ True) else ((l.length ≤ 1000000 ∧ ∀ t' ∈ l, tTs.wf t' → (fun (xx : (Tst × Unit)) => validP p = 0 ∧ isTst xx.1 = true, fun (xx : (Tst × Unit)) => (!(passT p xx.1), ())).1 (t', ())) ∧ ((whereL (fun t' => ((fun (xx : (Tst × Unit)) => validP p = 0 ∧ isTst xx.1 = true, fun (xx : (Tst × Unit)) => (!(passT p xx.1), ())).2 (t', ())).1) l) = y0 ∧ (0 : Int) = y1 ∧ True)))
theorem cFailing_law (h : ∀ (p : (List Lin)) (l : (List Tst)), cFailing.A.wf (p, l, ()) → cFailing_0  p l (if errT [p] l = 0 then failL p l else []) (errT [p] l)) : ConOK Go.Proofs.Try.prog 35 cFailing := by
  refine lawX (X := { subs := [], frz := [2], U := [], mul := [], nst := [], nls := [], itf := none, inp := [], arrs := [] }) (hX := xok0 _ trivial) (Γ := [(79, cFailing1), (61, cTested), (73, cWhere)]) (Θ := Th) (n := 17) [] ⟨cFailing1_ok, cTested_ok, cWhere_ok, trivial⟩ (by kernel_rfl) th_ok mix_ok Go.Proofs.Try.func35 (by kernel_rfl) ?_
  intro x hw hp Λ hC
  have h0 := h x.1 x.2.1 hw  
  exact Eq.mpr (by kernel_rfl) h0
theorem cFailing_ok : ConOK Go.Proofs.Try.prog 35 cFailing := by
  refine cFailing_law ?_
  intro p l hw
  unfold cFailing_0
  refine ⟨trivial, ?_⟩
  by_cases h : errT [p] l = 0
  · rw [if_neg (by simp [h]), if_pos h]
    obtain ⟨h1, h2⟩ := errT_ok h
    obtain ⟨h3, h4⟩ := validT_ok h2
    exact ⟨⟨by omega, fun t' ht _ => ⟨h1, h4 t' ht⟩⟩, rfl, h.symm, trivial⟩
  · rw [if_pos (by simpa using h), if_neg h]
    exact ⟨rfl, rfl, trivial⟩
abbrev cTells1 : Con := { A := (.cons tTs (.cons (.ref (.sl tL)) (.cons (.ref (.sl tL)) .nil))), R := (.cons .bool .nil), pre := fun x => validP x.2.1 = 0 ∧ validP x.2.2.1 = 0 ∧ isTst x.1 = true, F := fun x => (endT x.2.1 x.1 != endT x.2.2.1 x.1, ()) }
def cTells1_0  (t : Tst) (c0 : (List Lin)) (c1 : (List Lin)) (y0 : Bool) : Prop :=
  (validP c0 = 0 ∧ validS t.1 = true ∧ 0 ≤ t.2.1 ∧ t.2.1 ≤ 3) ∧ ((validP c1 = 0 ∧ validS t.1 = true ∧ 0 ≤ t.2.1 ∧ t.2.1 ≤ 3) ∧ (((Rg (runS c0 t.1) t.2.1) != (Rg (runS c1 t.1) t.2.1)) = y0 ∧ True))
theorem cTells1_law (h : ∀ (t : Tst) (c0 : (List Lin)) (c1 : (List Lin)), cTells1.A.wf (t, c0, c1, ()) → (validP c0 = 0 ∧ validP c1 = 0 ∧ isTst t = true) → cTells1_0  t c0 c1 (endT c0 t != endT c1 t)) : ConOK Go.Proofs.Try.prog 74 cTells1 := by
  refine lawL (Γ := [(75, cEnd)]) (Θ := Th) (n := 18) [] ⟨cEnd_ok, trivial⟩ (by kernel_rfl) th_ok mix_ok Go.Proofs.Try.func74 (by kernel_rfl) ?_
  intro x hw hp Λ hC
  have h0 := h x.1 x.2.1 x.2.2.1 hw hp  
  exact Eq.mpr (by kernel_rfl) h0
theorem cTells1_ok : ConOK Go.Proofs.Try.prog 74 cTells1 := by
  refine cTells1_law ?_
  intro t c0 c1 hw hp
  unfold cTells1_0
  obtain ⟨p1, p2, p3⟩ := hp
  obtain ⟨q1, q2, q3⟩ := isTst_iff.1 p3
  exact ⟨⟨p1, q1, q2.1, q2.2⟩, ⟨p2, q1, q2.1, q2.2⟩, rfl, trivial⟩
abbrev cTells : Con := { A := (.cons (.sl tL) (.cons (.sl tL) (.cons (.sl tTs) .nil))), R := (.cons (.sl .int) (.cons .int .nil)), pre := fun x => True, F := fun x => ((if errT [x.1, x.2.1] x.2.2.1 = 0 then tellsT x.1 x.2.1 x.2.2.1 else []), errT [x.1, x.2.1] x.2.2.1, ()) }
def cTells_0  (p : (List Lin)) (q : (List Lin)) (l : (List Tst)) (y0 : (List Int)) (y1 : Int) : Prop :=
  True ∧ (if ((errT [p, q] l) != (0 : Int)) = true then (([] : List Int) = y0 ∧ (errT [p, q] l) = y1 ∧ True) else ((l.length ≤ 1000000 ∧ ∀ t' ∈ l, tTs.wf t' → (fun (xx : (Tst × Unit)) => validP p = 0 ∧ validP q = 0 ∧ isTst xx.1 = true, fun (xx : (Tst × Unit)) => (endT p xx.1 != endT q xx.1, ())).1 (t', ())) ∧ ((whereL (fun t' => ((fun (xx : (Tst × Unit)) => validP p = 0 ∧ validP q = 0 ∧ isTst xx.1 = true, fun (xx : (Tst × Unit)) => (endT p xx.1 != endT q xx.1, ())).2 (t', ())).1) l) = y0 ∧ (0 : Int) = y1 ∧ True)))
theorem cTells_law (h : ∀ (p : (List Lin)) (q : (List Lin)) (l : (List Tst)), cTells.A.wf (p, q, l, ()) → cTells_0  p q l (if errT [p, q] l = 0 then tellsT p q l else []) (errT [p, q] l)) : ConOK Go.Proofs.Try.prog 30 cTells := by
  refine lawX (X := { subs := [], frz := [3, 4], U := [], mul := [], nst := [], nls := [], itf := none, inp := [], arrs := [] }) (hX := xok0 _ trivial) (Γ := [(74, cTells1), (61, cTested), (73, cWhere)]) (Θ := Th) (n := 20) [] ⟨cTells1_ok, cTested_ok, cWhere_ok, trivial⟩ (by kernel_rfl) th_ok mix_ok Go.Proofs.Try.func30 (by kernel_rfl) ?_
  intro x hw hp Λ hC
  have h0 := h x.1 x.2.1 x.2.2.1 hw  
  exact Eq.mpr (by kernel_rfl) h0
theorem cTells_ok : ConOK Go.Proofs.Try.prog 30 cTells := by
  refine cTells_law ?_
  intro p q l hw
  unfold cTells_0
  refine ⟨trivial, ?_⟩
  by_cases h : errT [p, q] l = 0
  · rw [if_neg (by simp [h]), if_pos h]
    obtain ⟨h1, h1', h2⟩ := errT2_ok h
    obtain ⟨h3, h4⟩ := validT_ok h2
    exact ⟨⟨by omega, fun t' ht _ => ⟨h1, h1', h4 t' ht⟩⟩, rfl, h.symm, trivial⟩
  · rw [if_pos (by simpa using h), if_neg h]
    exact ⟨rfl, rfl, trivial⟩
abbrev cTable0 : Con := { A := (.cons (.sl tL) (.cons (.sl tTs) .nil)), R := (.cons (.osl (.sl .int)) .nil), pre := fun x => validP x.1 = 0 ∧ validT x.2.1 = 0, F := fun x => (tableT x.1 x.2.1, ()) }
def cTable0_0 (Λ1 : Int → (List (List Int)) → Prop) (Λ2 : (List (List Int)) → Int → Int → (List Int) → Prop) (p : (List Lin)) (l : (List Tst)) (y0 : (List (List Int))) : Prop :=
  Λ1 (0 : Int) ([] : List (List Int))
def cTable0_1 (Λ1 : Int → (List (List Int)) → Prop) (Λ2 : (List (List Int)) → Int → Int → (List Int) → Prop) (p : (List Lin)) (l : (List Tst)) (y0 : (List (List Int)))  (t15_1 : Int) (out_1 : (List (List Int))) : Prop :=
  if (decide (t15_1 < (List.length l : Int))) = true then (idx t15_1 (List.length l : Int) ∧ (mkLen (List.length p : Int) (List.length p : Int) ∧ (True ∧ Λ2 out_1 t15_1 (0 : Int) (List.replicate (Int.toNat (List.length p : Int)) (0 : Int))))) else out_1 = y0
def cTable0_2 (Λ1 : Int → (List (List Int)) → Prop) (Λ2 : (List (List Int)) → Int → Int → (List Int) → Prop) (p : (List Lin)) (l : (List Tst)) (y0 : (List (List Int))) (out_1 : (List (List Int))) (t15_1 : Int) (t31_2 : Int) (row_2 : (List Int)) : Prop :=
  if (decide (t31_2 < (List.length ((if err1 p ((List.getD l (Int.toNat t15_1) tTs.dflt).1) = 0 then doneS p ((List.getD l (Int.toNat t15_1) tTs.dflt).1) else [])) : Int))) = true then (idx t31_2 (List.length ((if err1 p ((List.getD l (Int.toNat t15_1) tTs.dflt).1) = 0 then doneS p ((List.getD l (Int.toNat t15_1) tTs.dflt).1) else [])) : Int) ∧ (idx (List.getD ((if err1 p ((List.getD l (Int.toNat t15_1) tTs.dflt).1) = 0 then doneS p ((List.getD l (Int.toNat t15_1) tTs.dflt).1) else [])) (Int.toNat t31_2) 0) (List.length row_2 : Int) ∧ (inI (t31_2 + (1 : Int)) ∧ Λ2 out_1 t15_1 (t31_2 + (1 : Int)) (List.set row_2 (Int.toNat (List.getD ((if err1 p ((List.getD l (Int.toNat t15_1) tTs.dflt).1) = 0 then doneS p ((List.getD l (Int.toNat t15_1) tTs.dflt).1) else [])) (Int.toNat t31_2) 0)) 1)))) else (List.length out_1 + List.length [row_2] ≤ 4294967296 ∧ (inI (t15_1 + (1 : Int)) ∧ Λ1 (t15_1 + (1 : Int)) (out_1 ++ [row_2])))
theorem cTable0_law (h : ∀ (p : (List Lin)) (l : (List Tst)), cTable0.A.wf (p, l, ()) → (validP p = 0 ∧ validT l = 0) → ∀ (Λ1 : Int → (List (List Int)) → Prop) (Λ2 : (List (List Int)) → Int → Int → (List Int) → Prop), (∀ (t15_1 : Int) (out_1 : (List (List Int))), cTable0_1 Λ1 Λ2 p l (tableT p l) t15_1 out_1 → Λ1 t15_1 out_1) → (∀ (out_1 : (List (List Int))) (t15_1 : Int) (t31_2 : Int) (row_2 : (List Int)), cTable0_2 Λ1 Λ2 p l (tableT p l) out_1 t15_1 t31_2 row_2 → Λ2 out_1 t15_1 t31_2 row_2) → cTable0_0 Λ1 Λ2 p l (tableT p l)) : ConOK Go.Proofs.Try.prog 84 cTable0 := by
  refine lawL (Γ := [(116, cDone)]) (Θ := Th) (n := 45) [([1, 1, 0, 1, 0], ⟨[(0, false), (5, true), (13, false), (14, true), (15, true)], [(5, true)]⟩), ([1, 1, 0, 1, 0, 0, 1, 1, 0, 0, 1, 1, 1, 0, 1, 0], ⟨[(0, false), (5, true), (8, true), (13, false), (14, true), (15, true), (29, true), (30, true), (31, true)], [(5, true), (21, true)]⟩)] ⟨cDone_ok, trivial⟩ (by kernel_rfl) th_ok mix_ok Go.Proofs.Try.func84 (by kernel_rfl) ?_
  intro x hw hp Λ hC
  have h0 := h x.1 x.2.1 hw hp (fun t15_1 out_1 => Λ [1, 1, 0, 1, 0] ([(0, .d false (.sl tL) x.1), (5, .own 5 0), (13, .d false (.sl tTs) x.2.1), (14, .d true .int (List.length x.2.1 : Int)), (15, .d true .int t15_1)], [(5, .sl true (.sl .int) out_1)])) (fun out_1 t15_1 t31_2 row_2 => Λ [1, 1, 0, 1, 0, 0, 1, 1, 0, 0, 1, 1, 1, 0, 1, 0] ([(0, .d false (.sl tL) x.1), (5, .own 5 0), (8, .own 21 0), (13, .d false (.sl tTs) x.2.1), (14, .d true .int (List.length x.2.1 : Int)), (15, .d true .int t15_1), (29, .d true (.sl .int) ((if err1 x.1 ((List.getD x.2.1 (Int.toNat t15_1) tTs.dflt).1) = 0 then doneS x.1 ((List.getD x.2.1 (Int.toNat t15_1) tTs.dflt).1) else []))), (30, .d true .int (List.length ((if err1 x.1 ((List.getD x.2.1 (Int.toNat t15_1) tTs.dflt).1) = 0 then doneS x.1 ((List.getD x.2.1 (Int.toNat t15_1) tTs.dflt).1) else [])) : Int)), (31, .d true .int t31_2)], [(5, .sl true (.sl .int) out_1), (21, .sl true .int row_2)])) (fun t15_1 out_1 hb => hC [1, 1, 0, 1, 0] ([(0, .d false (.sl tL) x.1), (5, .own 5 0), (13, .d false (.sl tTs) x.2.1), (14, .d true .int (List.length x.2.1 : Int)), (15, .d true .int t15_1)], [(5, .sl true (.sl .int) out_1)]) (Eq.mpr (by kernel_rfl) hb)) (fun out_1 t15_1 t31_2 row_2 hb => hC [1, 1, 0, 1, 0, 0, 1, 1, 0, 0, 1, 1, 1, 0, 1, 0] ([(0, .d false (.sl tL) x.1), (5, .own 5 0), (8, .own 21 0), (13, .d false (.sl tTs) x.2.1), (14, .d true .int (List.length x.2.1 : Int)), (15, .d true .int t15_1), (29, .d true (.sl .int) ((if err1 x.1 ((List.getD x.2.1 (Int.toNat t15_1) tTs.dflt).1) = 0 then doneS x.1 ((List.getD x.2.1 (Int.toNat t15_1) tTs.dflt).1) else []))), (30, .d true .int (List.length ((if err1 x.1 ((List.getD x.2.1 (Int.toNat t15_1) tTs.dflt).1) = 0 then doneS x.1 ((List.getD x.2.1 (Int.toNat t15_1) tTs.dflt).1) else [])) : Int)), (31, .d true .int t31_2)], [(5, .sl true (.sl .int) out_1), (21, .sl true .int row_2)]) (Eq.mpr (by kernel_rfl) hb))
  exact Eq.mpr (by kernel_rfl) h0
theorem cTable0_ok : ConOK Go.Proofs.Try.prog 84 cTable0 := by
  refine cTable0_law ?_
  intro p l hw hp Λ1 Λ2 h1 h2
  unfold cTable0_0
  obtain ⟨p1, p2⟩ := hp
  obtain ⟨h8, hall⟩ := validT_ok p2
  have hp8 := (validP_ok p1).1
  refine upto (n := l.length) (Q := fun i => Λ1 (i : Int) ((tableT p l).take i)) ?_ ?_ 0 (Nat.zero_le _)
  · apply h1; unfold cTable0_1; rw [if_neg (by simp)]
    rw [List.take_of_length_le (by unfold tableT; simp)]

  · intro i hi ih
    apply h1; unfold cTable0_1; rw [if_pos (by simpa using hi)]
    have ht := isTst_iff.1 (hall _ (mem_getD (d := tTs.dflt) hi))
    have he : err1 p (l.getD i tTs.dflt).1 = 0 := by unfold err1; rw [if_pos p1, ht.1]; rfl
    have hdl := doneS_len p (l.getD i tTs.dflt).1
    have hm : ∀ j, j ≤ (doneS p (l.getD i tTs.dflt).1).length → Λ2 ((tableT p l).take i) (i : Int) (j : Int) (markTo (doneS p (l.getD i tTs.dflt).1) (List.replicate p.length 0) j) := by
      intro j hj
      refine upto (n := (doneS p (l.getD i tTs.dflt).1).length) (Q := fun j => Λ2 ((tableT p l).take i) (i : Int) (j : Int) (markTo (doneS p (l.getD i tTs.dflt).1) (List.replicate p.length 0) j)) ?_ ?_ j hj
      · apply h2; unfold cTable0_2
        rw [Int.toNat_natCast, if_pos he, if_neg (by simp)]
        unfold tableT at ih ⊢
        rw [map_take_next (rowT p) l tTs.dflt hi] at ih
        refine ⟨?_, inI_succ hi (by omega), ih⟩
        simp only [List.length_take, List.length_map, List.length_cons, List.length_nil]; omega
      · intro j hj ihj
        apply h2; unfold cTable0_2
        rw [Int.toNat_natCast, Int.toNat_natCast, if_pos he, if_pos (by simpa using hj)]
        have hd := doneS_ok (p := p) ht.1 hj
        exact ⟨idx_nat hj, ⟨hd.1, by rw [markTo_len, List.length_replicate]; exact hd.2⟩, inI_succ hj (by omega), ihj⟩
    refine ⟨idx_nat hi, by unfold mkLen; omega, trivial, ?_⟩
    rw [Int.toNat_natCast]
    exact hm 0 (Nat.zero_le _)
abbrev cTable : Con := { A := (.cons (.sl tL) (.cons (.sl tTs) .nil)), R := (.cons (.sl (.sl .int)) (.cons .int .nil)), pre := fun x => True, F := fun x => ((if errT [x.1] x.2.1 = 0 then tableT x.1 x.2.1 else []), errT [x.1] x.2.1, ()) }
def cTable_0  (p : (List Lin)) (l : (List Tst)) (y0 : (List (List Int))) (y1 : Int) : Prop :=
  True ∧ (if ((errT [p] l) != (0 : Int)) = true then (([] : List (List Int)) = y0 ∧ (errT [p] l) = y1 ∧ True) else ((validP p = 0 ∧ validT l = 0) ∧ ((tableT p l) = y0 ∧ (0 : Int) = y1 ∧ True)))
theorem cTable_law (h : ∀ (p : (List Lin)) (l : (List Tst)), cTable.A.wf (p, l, ()) → cTable_0  p l (if errT [p] l = 0 then tableT p l else []) (errT [p] l)) : ConOK Go.Proofs.Try.prog 39 cTable := by
  refine lawL (Γ := [(84, cTable0), (61, cTested)]) (Θ := Th) (n := 17) [] ⟨cTable0_ok, cTested_ok, trivial⟩ (by kernel_rfl) th_ok mix_ok Go.Proofs.Try.func39 (by kernel_rfl) ?_
  intro x hw hp Λ hC
  have h0 := h x.1 x.2.1 hw  
  exact Eq.mpr (by kernel_rfl) h0
theorem cTable_ok : ConOK Go.Proofs.Try.prog 39 cTable := by
  refine cTable_law ?_
  intro p l hw
  unfold cTable_0
  refine ⟨trivial, ?_⟩
  by_cases h : errT [p] l = 0
  · rw [if_neg (by simp [h]), if_pos h]
    obtain ⟨h1, h2⟩ := errT_ok h
    exact ⟨⟨h1, h2⟩, rfl, h.symm, trivial⟩
  · rw [if_pos (by simpa using h), if_neg h]
    exact ⟨rfl, rfl, trivial⟩
abbrev cIndexLL : Con := { A := (.cons (.sl (.sl .int)) (.cons (.fn (.cons (.sl .int) .nil) (.cons .bool .nil)) .nil)), R := (.cons .int .nil), pre := fun x => ∀ r' ∈ x.1, x.2.1.1 (r', ()), F := fun x => (idxF (fun r' => (x.2.1.2 (r', ())).1) x.1, ()) }
def cIndexLL_0 (Λ1 : Int → Prop) (s : (List (List Int))) (f : (T.fn (.cons (.sl .int) .nil) (.cons .bool .nil)).den) (y0 : Int) : Prop :=
  Λ1 (0 : Int)
def cIndexLL_1 (Λ1 : Int → Prop) (s : (List (List Int))) (f : (T.fn (.cons (.sl .int) .nil) (.cons .bool .nil)).den) (y0 : Int)  (t8_1 : Int) : Prop :=
  if (decide (t8_1 < (List.length s : Int))) = true then (idx t8_1 (List.length s : Int) ∧ (f.1 ((List.getD s (Int.toNat t8_1) ([] : List Int)), ()) ∧ (if ((f.2 ((List.getD s (Int.toNat t8_1) ([] : List Int)), ())).1) = true then (t8_1 = y0 ∧ True) else (inI (t8_1 + (1 : Int)) ∧ Λ1 (t8_1 + (1 : Int)))))) else ((-1 : Int) = y0 ∧ True)
theorem cIndexLL_law (h : ∀ (s : (List (List Int))) (f : (T.fn (.cons (.sl .int) .nil) (.cons .bool .nil)).den), cIndexLL.A.wf (s, f, ()) → (∀ r' ∈ s, f.1 (r', ())) → ∀ (Λ1 : Int → Prop), (∀ (t8_1 : Int), cIndexLL_1 Λ1 s f (idxF (fun r' => (f.2 (r', ())).1) s) t8_1 → Λ1 t8_1) → cIndexLL_0 Λ1 s f (idxF (fun r' => (f.2 (r', ())).1) s)) : ConOK Go.Proofs.Try.prog 119 cIndexLL := by
  refine lawL (Γ := []) (Θ := Th) (n := 19) [([1, 0, 1, 0], ⟨[(0, false), (1, false), (7, true), (8, true)], []⟩)] trivial (by kernel_rfl) th_ok mix_ok Go.Proofs.Try.func119 (by kernel_rfl) ?_
  intro x hw hp Λ hC
  have h0 := h x.1 x.2.1 hw hp (fun t8_1 => Λ [1, 0, 1, 0] ([(0, .d false (.sl (.sl .int)) x.1), (1, .d false (.fn (.cons (.sl .int) .nil) (.cons .bool .nil)) x.2.1), (7, .d true .int (List.length x.1 : Int)), (8, .d true .int t8_1)], [])) (fun t8_1 hb => hC [1, 0, 1, 0] ([(0, .d false (.sl (.sl .int)) x.1), (1, .d false (.fn (.cons (.sl .int) .nil) (.cons .bool .nil)) x.2.1), (7, .d true .int (List.length x.1 : Int)), (8, .d true .int t8_1)], []) (Eq.mpr (by kernel_rfl) hb))
  exact Eq.mpr (by kernel_rfl) h0
theorem cIndexLL_ok : ConOK Go.Proofs.Try.prog 119 cIndexLL := by
  refine cIndexLL_law ?_
  intro s f hw hp Λ1 h1
  unfold cIndexLL_0
  refine upto (n := s.length) (Q := fun i => (s.take i).any (fun r => (f.2 (r, ())).1) = false → Λ1 i) ?_ ?_ 0 (Nat.zero_le _) rfl
  · intro ha
    rw [List.take_length] at ha
    apply h1; unfold cIndexLL_1; rw [if_neg (by simp), idxF_none ha]
    exact ⟨rfl, trivial⟩
  · intro i hi ih ha
    apply h1; unfold cIndexLL_1; rw [if_pos (by simpa using hi), Int.toNat_natCast]
    refine ⟨idx_nat hi, hp _ (mem_getD hi), ?_⟩
    cases hv : (f.2 (List.getD s i [], ())).1
    · rw [if_neg (by simp)]
      exact ⟨inI_succ hi hw.1.1, ih (any_take_next (p := fun r => (f.2 (r, ())).1) [] hi ha hv)⟩
    · rw [if_pos (by rfl), idxF_at (p := fun r => (f.2 (r, ())).1) [] hi ha hv]
      exact ⟨rfl, trivial⟩
abbrev cContLL : Con := { A := (.cons (.sl (.sl .int)) (.cons (.fn (.cons (.sl .int) .nil) (.cons .bool .nil)) .nil)), R := (.cons .bool .nil), pre := fun x => ∀ r' ∈ x.1, x.2.1.1 (r', ()), F := fun x => (x.1.any (fun r' => (x.2.1.2 (r', ())).1), ()) }
def cContLL_0  (s : (List (List Int))) (f : (T.fn (.cons (.sl .int) .nil) (.cons .bool .nil)).den) (y0 : Bool) : Prop :=
  (∀ r' ∈ s, f.1 (r', ())) ∧ ((decide ((idxF (fun r' => (f.2 (r', ())).1) s) ≥ (0 : Int))) = y0 ∧ True)
theorem cContLL_law (h : ∀ (s : (List (List Int))) (f : (T.fn (.cons (.sl .int) .nil) (.cons .bool .nil)).den), cContLL.A.wf (s, f, ()) → (∀ r' ∈ s, f.1 (r', ())) → cContLL_0  s f (s.any (fun r' => (f.2 (r', ())).1))) : ConOK Go.Proofs.Try.prog 86 cContLL := by
  refine lawL (Γ := [(119, cIndexLL)]) (Θ := Th) (n := 9) [] ⟨cIndexLL_ok, trivial⟩ (by kernel_rfl) th_ok mix_ok Go.Proofs.Try.func86 (by kernel_rfl) ?_
  intro x hw hp Λ hC
  have h0 := h x.1 x.2.1 hw hp  
  exact Eq.mpr (by kernel_rfl) h0
theorem cContLL_ok : ConOK Go.Proofs.Try.prog 86 cContLL := by
  refine cContLL_law ?_
  intro s f hw hp
  unfold cContLL_0
  exact ⟨hp, idxF_any _ _, trivial⟩
abbrev cCovered1 : Con := { A := (.cons (.sl .int) (.cons (.ref .int) .nil)), R := (.cons .bool .nil), pre := fun x => 0 ≤ x.2.1 ∧ x.2.1 < (x.1.length : Int), F := fun x => ((List.getD x.1 (Int.toNat x.2.1) 0 == 1), ()) }
def cCovered1_0  (row : (List Int)) (c0 : Int) (y0 : Bool) : Prop :=
  idx c0 (List.length row : Int) ∧ (((List.getD row (Int.toNat c0) 0) == (1 : Int)) = y0 ∧ True)
theorem cCovered1_law (h : ∀ (row : (List Int)) (c0 : Int), cCovered1.A.wf (row, c0, ()) → (0 ≤ c0 ∧ c0 < (row.length : Int)) → cCovered1_0  row c0 (List.getD row (Int.toNat c0) 0 == 1)) : ConOK Go.Proofs.Try.prog 87 cCovered1 := by
  refine lawL (Γ := []) (Θ := Th) (n := 9) [] trivial (by kernel_rfl) th_ok mix_ok Go.Proofs.Try.func87 (by kernel_rfl) ?_
  intro x hw hp Λ hC
  have h0 := h x.1 x.2.1 hw hp  
  exact Eq.mpr (by kernel_rfl) h0
theorem cCovered1_ok : ConOK Go.Proofs.Try.prog 87 cCovered1 := by
  refine cCovered1_law ?_
  intro row c0 hw hp
  unfold cCovered1_0
  exact ⟨⟨hp.1, hp.2⟩, rfl, trivial⟩
abbrev cIsTestR : Con := { A := (.cons tTs .nil), R := (.cons .bool .nil), pre := fun x => True, F := fun x => (isTst x.1, ()) }
def cIsTestR_0  (t : Tst) (y0 : Bool) : Prop :=
  True ∧ (if ((argErr (validS t.1)) == (0 : Int)) = true then (True ∧ (True ∧ (if (bif true then (within t.2.1 (0 : Int) (3 : Int)) else false) = true then (True ∧ (True ∧ ((bif true then (within t.2.2.1 (-999 : Int) (999 : Int)) else false) = y0 ∧ True))) else (false = false ∧ (false = y0 ∧ True))))) else (false = false ∧ (false = false ∧ (false = y0 ∧ True))))
theorem cIsTestR_law (h : ∀ (t : Tst), cIsTestR.A.wf (t, ()) → cIsTestR_0  t (isTst t)) : ConOK Go.Proofs.Try.prog 83 cIsTestR := by
  refine lawL (Γ := [(68, cValSR), (69, cWithinR2)]) (Θ := Th) (n := 17) [] ⟨cValSR_ok, cWithinR2_ok, trivial⟩ (by kernel_rfl) th_ok mix_ok Go.Proofs.Try.func83 (by kernel_rfl) ?_
  intro x hw hp Λ hC
  have h0 := h x.1 hw  
  exact Eq.mpr (by kernel_rfl) h0
theorem cIsTestR_ok : ConOK Go.Proofs.Try.prog 83 cIsTestR := by
  refine cIsTestR_law ?_
  intro t hw
  unfold cIsTestR_0
  unfold isTst isReg isVal
  cases h : validS t.1
  · simp [argErr]
  · cases h1 : within t.2.1 0 3 <;> simp [argErr, h1]
abbrev cValTR : Con := { A := (.cons (.sl tTs) .nil), R := (.cons .int .nil), pre := fun x => True, F := fun x => (validT x.1, ()) }
def cValTR_0 (Λ1 : Int → Prop) (l : (List Tst)) (y0 : Int) : Prop :=
  if (decide ((List.length l : Int) > (8 : Int))) = true then ((3 : Int) = y0 ∧ True) else Λ1 (0 : Int)
def cValTR_1 (Λ1 : Int → Prop) (l : (List Tst)) (y0 : Int)  (i_1 : Int) : Prop :=
  if (decide (i_1 < (List.length l : Int))) = true then (idx i_1 (List.length l : Int) ∧ (True ∧ (if (!(isTst (List.getD l (Int.toNat i_1) tTs.dflt))) = true then ((1 : Int) = y0 ∧ True) else (inI (i_1 + (1 : Int)) ∧ Λ1 (i_1 + (1 : Int)))))) else ((0 : Int) = y0 ∧ True)
theorem cValTR_law (h : ∀ (l : (List Tst)), cValTR.A.wf (l, ()) → ∀ (Λ1 : Int → Prop), (∀ (i_1 : Int), cValTR_1 Λ1 l (validT l) i_1 → Λ1 i_1) → cValTR_0 Λ1 l (validT l)) : ConOK Go.Proofs.Try.prog 38 cValTR := by
  refine lawL (Γ := [(83, cIsTestR)]) (Θ := Th) (n := 19) [([1, 1, 0, 1, 0], ⟨[(0, false), (3, true)], []⟩)] ⟨cIsTestR_ok, trivial⟩ (by kernel_rfl) th_ok mix_ok Go.Proofs.Try.func38 (by kernel_rfl) ?_
  intro x hw hp Λ hC
  have h0 := h x.1 hw (fun i_1 => Λ [1, 1, 0, 1, 0] ([(0, .d false (.sl tTs) x.1), (3, .d true .int i_1)], [])) (fun i_1 hb => hC [1, 1, 0, 1, 0] ([(0, .d false (.sl tTs) x.1), (3, .d true .int i_1)], []) (Eq.mpr (by kernel_rfl) hb))
  exact Eq.mpr (by kernel_rfl) h0
theorem cValTR_ok : ConOK Go.Proofs.Try.prog 38 cValTR := by
  refine cValTR_law ?_
  intro l hw Λ1 h1
  unfold cValTR_0
  unfold validT
  simp only [decide_eq_true_eq]
  by_cases h : l.length > 8
  · rw [if_pos (by omega), if_pos h]; exact ⟨rfl, trivial⟩
  · rw [if_neg (by omega)]
    refine upto (n := l.length) (Q := fun i => (l.take i).all isTst = true → Λ1 i) ?_ ?_ 0 (Nat.zero_le _) rfl
    · intro ha
      rw [List.take_length] at ha
      apply h1; unfold cValTR_1; rw [if_neg (by simp)]
      unfold validT
      rw [if_neg h, ha]
      exact ⟨rfl, trivial⟩
    · intro i hi ih ha
      apply h1; unfold cValTR_1; rw [if_pos (by simpa using hi), Int.toNat_natCast]
      refine ⟨idx_nat hi, trivial, ?_⟩
      cases hv : isTst (List.getD l i tTs.dflt)
      · rw [if_pos (by rfl)]
        unfold validT
        rw [if_neg h, all_false_at (p := isTst) tTs.dflt hi hv]
        exact ⟨rfl, trivial⟩
      · rw [if_neg (by simp)]
        exact ⟨inI_succ hi (by omega), ih (all_take_next tTs.dflt hi ha hv)⟩
abbrev cTestedR : Con := { A := (.cons (.sl tL) (.cons (.sl tTs) .nil)), R := (.cons .int .nil), pre := fun x => True, F := fun x => (errT [x.1] x.2.1, ()) }
def cTestedR_0  (p : (List Lin)) (l : (List Tst)) (y0 : Int) : Prop :=
  True ∧ (if ((validP p) != (0 : Int)) = true then ((validP p) = y0 ∧ True) else (True ∧ ((validT l) = y0 ∧ True)))
theorem cTestedR_law (h : ∀ (p : (List Lin)) (l : (List Tst)), cTestedR.A.wf (p, l, ()) → cTestedR_0  p l (errT [p] l)) : ConOK Go.Proofs.Try.prog 71 cTestedR := by
  refine lawL (Γ := [(76, cValPR), (38, cValTR)]) (Θ := Th) (n := 13) [] ⟨cValPR_ok, cValTR_ok, trivial⟩ (by kernel_rfl) th_ok mix_ok Go.Proofs.Try.func71 (by kernel_rfl) ?_
  intro x hw hp Λ hC
  have h0 := h x.1 x.2.1 hw  
  exact Eq.mpr (by kernel_rfl) h0
theorem cTestedR_ok : ConOK Go.Proofs.Try.prog 71 cTestedR := by
  refine cTestedR_law ?_
  intro p l hw
  unfold cTestedR_0
  rw [errT_cases]
  refine ⟨trivial, ?_⟩
  by_cases e : validP p = 0
  · rw [if_neg (by simp [e]), if_pos e]; exact ⟨trivial, rfl, trivial⟩
  · rw [if_pos (by simpa using e), if_neg e]; exact ⟨rfl, trivial⟩
abbrev cMade : Con := { A := (.cons (.sl tL) (.cons (.sl .int) (.cons .int .nil))), R := (.cons .int .nil), pre := fun x => validP x.1 = 0 ∧ validS x.2.1 = true ∧ 0 ≤ x.2.2.1 ∧ x.2.2.1 ≤ 3, F := fun x => (Rg (runS x.1 x.2.1) x.2.2.1, ()) }
def cMade_0  (p : (List Lin)) (in_ : (List Int)) (out : Int) (y0 : Int) : Prop :=
  True ∧ (idx out (List.length ((if err1 p in_ = 0 then runS p in_ else [])) : Int) ∧ ((List.getD ((if err1 p in_ = 0 then runS p in_ else [])) (Int.toNat out) 0) = y0 ∧ True))
theorem cMade_law (h : ∀ (p : (List Lin)) (in_ : (List Int)) (out : Int), cMade.A.wf (p, in_, out, ()) → (validP p = 0 ∧ validS in_ = true ∧ 0 ≤ out ∧ out ≤ 3) → cMade_0  p in_ out (Rg (runS p in_) out)) : ConOK Go.Proofs.Try.prog 72 cMade := by
  refine lawL (Γ := [(112, cRunR)]) (Θ := Th) (n := 19) [] ⟨cRunR_ok, trivial⟩ (by kernel_rfl) th_ok mix_ok Go.Proofs.Try.func72 (by kernel_rfl) ?_
  intro x hw hp Λ hC
  have h0 := h x.1 x.2.1 x.2.2.1 hw hp  
  exact Eq.mpr (by kernel_rfl) h0
theorem cMade_ok : ConOK Go.Proofs.Try.prog 72 cMade := by
  refine cMade_law ?_
  intro p in_ out hw hp
  unfold cMade_0
  obtain ⟨p1, p2, p3, p4⟩ := hp
  have e : err1 p in_ = 0 := by unfold err1; rw [if_pos p1, p2]; rfl
  have l4 := validS_len (runS_ok (p := p) p2)
  rw [if_pos e]
  exact ⟨trivial, ⟨p3, by omega⟩, rfl, trivial⟩
abbrev cPassesR : Con := { A := (.cons (.sl tL) (.cons tTs .nil)), R := (.cons .bool (.cons .int .nil)), pre := fun x => True, F := fun x => ((errT [x.1] [x.2.1] == 0 && passT x.1 x.2.1), errT [x.1] [x.2.1], ()) }
def cPassesR_0  (p : (List Lin)) (t : Tst) (y0 : Bool) (y1 : Int) : Prop :=
  True ∧ (if ((errT [p] [t]) != (0 : Int)) = true then (false = y0 ∧ (errT [p] [t]) = y1 ∧ True) else ((validP p = 0 ∧ validS t.1 = true ∧ 0 ≤ t.2.1 ∧ t.2.1 ≤ 3) ∧ (((Rg (runS p t.1) t.2.1) == t.2.2.1) = y0 ∧ (0 : Int) = y1 ∧ True)))
theorem cPassesR_law (h : ∀ (p : (List Lin)) (t : Tst), cPassesR.A.wf (p, t, ()) → cPassesR_0  p t (errT [p] [t] == 0 && passT p t) (errT [p] [t])) : ConOK Go.Proofs.Try.prog 29 cPassesR := by
  refine lawL (Γ := [(72, cMade), (71, cTestedR)]) (Θ := Th) (n := 23) [] ⟨cMade_ok, cTestedR_ok, trivial⟩ (by kernel_rfl) th_ok mix_ok Go.Proofs.Try.func29 (by kernel_rfl) ?_
  intro x hw hp Λ hC
  have h0 := h x.1 x.2.1 hw  
  exact Eq.mpr (by kernel_rfl) h0
theorem cPassesR_ok : ConOK Go.Proofs.Try.prog 29 cPassesR := by
  refine cPassesR_law ?_
  intro p t hw
  unfold cPassesR_0
  refine ⟨trivial, ?_⟩
  by_cases h : errT [p] [t] = 0
  · rw [if_neg (by simp [h])]
    obtain ⟨h1, h2⟩ := errT_ok h
    obtain ⟨q1, q2, q3⟩ := isTst_iff.1 ((validT_ok h2).2 t (by simp))
    exact ⟨⟨h1, q1, q2.1, q2.2⟩, by simp [h, passT, endT], h.symm, trivial⟩
  · rw [if_pos (by simpa using h)]
    exact ⟨by simp [h], rfl, trivial⟩
abbrev cSorted : Con := { A := (.cons (.sl tL) (.cons (.sl tTs) (.cons .bool .nil))), R := (.cons (.sl .int) (.cons .int .nil)), pre := fun x => True, F := fun x => ((if errT [x.1] x.2.1 = 0 then whereL (fun t' => passT x.1 t' == x.2.2.1) x.2.1 else []), errT [x.1] x.2.1, ()) }
def cSorted_0 (Λ1 : Int → (List Int) → Prop) (p : (List Lin)) (l : (List Tst)) (pass : Bool) (y0 : (List Int)) (y1 : Int) : Prop :=
  True ∧ (if ((errT [p] l) != (0 : Int)) = true then (([] : List Int) = y0 ∧ (errT [p] l) = y1 ∧ True) else Λ1 (0 : Int) ([] : List Int))
def cSorted_1 (Λ1 : Int → (List Int) → Prop) (p : (List Lin)) (l : (List Tst)) (pass : Bool) (y0 : (List Int)) (y1 : Int)  (i_1 : Int) (out_1 : (List Int)) : Prop :=
  if (decide (i_1 < (List.length l : Int))) = true then (idx i_1 (List.length l : Int) ∧ (idx i_1 (List.length l : Int) ∧ ((validP p = 0 ∧ validS ((List.getD l (Int.toNat i_1) tTs.dflt).1) = true ∧ 0 ≤ ((List.getD l (Int.toNat i_1) tTs.dflt).2.1) ∧ ((List.getD l (Int.toNat i_1) tTs.dflt).2.1) ≤ 3) ∧ (idx i_1 (List.length l : Int) ∧ (if (((Rg (runS p ((List.getD l (Int.toNat i_1) tTs.dflt).1)) ((List.getD l (Int.toNat i_1) tTs.dflt).2.1)) == (List.getD l (Int.toNat i_1) tTs.dflt).2.2.1) == pass) = true then (List.length out_1 + List.length [i_1] ≤ 4294967296 ∧ (inI (i_1 + (1 : Int)) ∧ Λ1 (i_1 + (1 : Int)) (out_1 ++ [i_1]))) else (inI (i_1 + (1 : Int)) ∧ Λ1 (i_1 + (1 : Int)) out_1)))))) else (out_1 = y0 ∧ (0 : Int) = y1 ∧ True)
theorem cSorted_law (h : ∀ (p : (List Lin)) (l : (List Tst)) (pass : Bool), cSorted.A.wf (p, l, pass, ()) → ∀ (Λ1 : Int → (List Int) → Prop), (∀ (i_1 : Int) (out_1 : (List Int)), cSorted_1 Λ1 p l pass (if errT [p] l = 0 then whereL (fun t' => passT p t' == pass) l else []) (errT [p] l) i_1 out_1 → Λ1 i_1 out_1) → cSorted_0 Λ1 p l pass (if errT [p] l = 0 then whereL (fun t' => passT p t' == pass) l else []) (errT [p] l)) : ConOK Go.Proofs.Try.prog 78 cSorted := by
  refine lawL (Γ := [(72, cMade), (71, cTestedR)]) (Θ := Th) (n := 48) [([1, 1, 1, 0, 1, 0], ⟨[(0, false), (1, false), (2, false), (9, true), (10, true)], [(9, true)]⟩)] ⟨cMade_ok, cTestedR_ok, trivial⟩ (by kernel_rfl) th_ok mix_ok Go.Proofs.Try.func78 (by kernel_rfl) ?_
  intro x hw hp Λ hC
  have h0 := h x.1 x.2.1 x.2.2.1 hw (fun i_1 out_1 => Λ [1, 1, 1, 0, 1, 0] ([(0, .d false (.sl tL) x.1), (1, .d false (.sl tTs) x.2.1), (2, .d false .bool x.2.2.1), (9, .own 9 0), (10, .d true .int i_1)], [(9, .sl true .int out_1)])) (fun i_1 out_1 hb => hC [1, 1, 1, 0, 1, 0] ([(0, .d false (.sl tL) x.1), (1, .d false (.sl tTs) x.2.1), (2, .d false .bool x.2.2.1), (9, .own 9 0), (10, .d true .int i_1)], [(9, .sl true .int out_1)]) (Eq.mpr (by kernel_rfl) hb))
  exact Eq.mpr (by kernel_rfl) h0
theorem cSorted_ok : ConOK Go.Proofs.Try.prog 78 cSorted := by
  refine cSorted_law ?_
  intro p l pass hw Λ1 h1
  unfold cSorted_0
  refine ⟨trivial, ?_⟩
  by_cases h : errT [p] l = 0
  · rw [if_neg (by simp [h])]
    obtain ⟨g1, g2⟩ := errT_ok h
    obtain ⟨g3, g4⟩ := validT_ok g2
    refine upto (n := l.length) (Q := fun i => Λ1 i (whereTo (fun t' => passT p t' == pass) l i)) ?_ ?_ 0 (Nat.zero_le _)
    · apply h1; unfold cSorted_1; rw [if_neg (by simp), if_pos h]
      exact ⟨rfl, h.symm, trivial⟩
    · intro i hi ih
      apply h1; unfold cSorted_1; rw [if_pos (by simpa using hi), Int.toNat_natCast]
      obtain ⟨q1, q2, q3⟩ := isTst_iff.1 (g4 _ (mem_getD (d := tTs.dflt) hi))
      have hle := whereTo_len (fun t' => passT p t' == pass) l i
      rw [show whereTo (fun t' => passT p t' == pass) l (i + 1) = whereTo (fun t' => passT p t' == pass) l i ++ if (passT p (l.getD i tTs.dflt) == pass) = true then [(i : Int)] else [] from rfl] at ih
      refine ⟨idx_nat hi, idx_nat hi, ⟨g1, q1, q2.1, q2.2⟩, idx_nat hi, ?_⟩
      show if (passT p (l.getD i tTs.dflt) == pass) = true then _ else _
      by_cases hv : (passT p (l.getD i tTs.dflt) == pass) = true
      · rw [if_pos hv] at ih ⊢
        exact ⟨by simp only [List.length_cons, List.length_nil]; omega, inI_succ hi (by omega), ih⟩
      · rw [if_neg hv, List.append_nil] at ih
        rw [if_neg hv]
        exact ⟨inI_succ hi (by omega), ih⟩
  · rw [if_pos (by simpa using h), if_neg h]
    exact ⟨rfl, rfl, trivial⟩
abbrev cPassingR : Con := { A := (.cons (.sl tL) (.cons (.sl tTs) .nil)), R := (.cons (.sl .int) (.cons .int .nil)), pre := fun x => True, F := fun x => ((if errT [x.1] x.2.1 = 0 then whereL (passT x.1) x.2.1 else []), errT [x.1] x.2.1, ()) }
def cPassingR_0  (p : (List Lin)) (l : (List Tst)) (y0 : (List Int)) (y1 : Int) : Prop :=
  True ∧ (((if errT [p] l = 0 then whereL (fun t' => passT p t' == true) l else [])) = y0 ∧ (errT [p] l) = y1 ∧ True)
theorem cPassingR_law (h : ∀ (p : (List Lin)) (l : (List Tst)), cPassingR.A.wf (p, l, ()) → cPassingR_0  p l (if errT [p] l = 0 then whereL (passT p) l else []) (errT [p] l)) : ConOK Go.Proofs.Try.prog 34 cPassingR := by
  refine lawL (Γ := [(78, cSorted)]) (Θ := Th) (n := 11) [] ⟨cSorted_ok, trivial⟩ (by kernel_rfl) th_ok mix_ok Go.Proofs.Try.func34 (by kernel_rfl) ?_
  intro x hw hp Λ hC
  have h0 := h x.1 x.2.1 hw  
  exact Eq.mpr (by kernel_rfl) h0
theorem cPassingR_ok : ConOK Go.Proofs.Try.prog 34 cPassingR := by
  refine cPassingR_law ?_
  intro p l hw
  unfold cPassingR_0
  have e : (fun t' => passT p t' == true) = passT p := by funext t; cases passT p t <;> rfl
  rw [e]
  exact ⟨trivial, rfl, rfl, trivial⟩
abbrev cFailingR : Con := { A := (.cons (.sl tL) (.cons (.sl tTs) .nil)), R := (.cons (.sl .int) (.cons .int .nil)), pre := fun x => True, F := fun x => ((if errT [x.1] x.2.1 = 0 then failL x.1 x.2.1 else []), errT [x.1] x.2.1, ()) }
def cFailingR_0  (p : (List Lin)) (l : (List Tst)) (y0 : (List Int)) (y1 : Int) : Prop :=
  True ∧ (((if errT [p] l = 0 then whereL (fun t' => passT p t' == false) l else [])) = y0 ∧ (errT [p] l) = y1 ∧ True)
theorem cFailingR_law (h : ∀ (p : (List Lin)) (l : (List Tst)), cFailingR.A.wf (p, l, ()) → cFailingR_0  p l (if errT [p] l = 0 then failL p l else []) (errT [p] l)) : ConOK Go.Proofs.Try.prog 36 cFailingR := by
  refine lawL (Γ := [(78, cSorted)]) (Θ := Th) (n := 11) [] ⟨cSorted_ok, trivial⟩ (by kernel_rfl) th_ok mix_ok Go.Proofs.Try.func36 (by kernel_rfl) ?_
  intro x hw hp Λ hC
  have h0 := h x.1 x.2.1 hw  
  exact Eq.mpr (by kernel_rfl) h0
theorem cFailingR_ok : ConOK Go.Proofs.Try.prog 36 cFailingR := by
  refine cFailingR_law ?_
  intro p l hw
  unfold cFailingR_0
  have e : (fun t' => passT p t' == false) = fun t => !passT p t := by funext t; cases passT p t <;> rfl
  rw [e]
  exact ⟨trivial, rfl, rfl, trivial⟩
abbrev cTellsR : Con := { A := (.cons (.sl tL) (.cons (.sl tL) (.cons (.sl tTs) .nil))), R := (.cons (.sl .int) (.cons .int .nil)), pre := fun x => True, F := fun x => ((if errT [x.1, x.2.1] x.2.2.1 = 0 then tellsT x.1 x.2.1 x.2.2.1 else []), errT [x.1, x.2.1] x.2.2.1, ()) }
def cTellsR_0 (Λ1 : Int → (List Int) → Prop) (p : (List Lin)) (q : (List Lin)) (l : (List Tst)) (y0 : (List Int)) (y1 : Int) : Prop :=
  True ∧ (if ((validP p) != (0 : Int)) = true then (([] : List Int) = y0 ∧ (validP p) = y1 ∧ True) else (True ∧ (if ((errT [q] l) != (0 : Int)) = true then (([] : List Int) = y0 ∧ (errT [q] l) = y1 ∧ True) else Λ1 (0 : Int) ([] : List Int))))
def cTellsR_1 (Λ1 : Int → (List Int) → Prop) (p : (List Lin)) (q : (List Lin)) (l : (List Tst)) (y0 : (List Int)) (y1 : Int)  (i_1 : Int) (out_1 : (List Int)) : Prop :=
  if (decide (i_1 < (List.length l : Int))) = true then (idx i_1 (List.length l : Int) ∧ (idx i_1 (List.length l : Int) ∧ ((validP p = 0 ∧ validS ((List.getD l (Int.toNat i_1) tTs.dflt).1) = true ∧ 0 ≤ ((List.getD l (Int.toNat i_1) tTs.dflt).2.1) ∧ ((List.getD l (Int.toNat i_1) tTs.dflt).2.1) ≤ 3) ∧ (idx i_1 (List.length l : Int) ∧ (idx i_1 (List.length l : Int) ∧ ((validP q = 0 ∧ validS ((List.getD l (Int.toNat i_1) tTs.dflt).1) = true ∧ 0 ≤ ((List.getD l (Int.toNat i_1) tTs.dflt).2.1) ∧ ((List.getD l (Int.toNat i_1) tTs.dflt).2.1) ≤ 3) ∧ (if ((Rg (runS p ((List.getD l (Int.toNat i_1) tTs.dflt).1)) ((List.getD l (Int.toNat i_1) tTs.dflt).2.1)) != (Rg (runS q ((List.getD l (Int.toNat i_1) tTs.dflt).1)) ((List.getD l (Int.toNat i_1) tTs.dflt).2.1))) = true then (List.length out_1 + List.length [i_1] ≤ 4294967296 ∧ (inI (i_1 + (1 : Int)) ∧ Λ1 (i_1 + (1 : Int)) (out_1 ++ [i_1]))) else (inI (i_1 + (1 : Int)) ∧ Λ1 (i_1 + (1 : Int)) out_1)))))))) else (out_1 = y0 ∧ (0 : Int) = y1 ∧ True)
theorem cTellsR_law (h : ∀ (p : (List Lin)) (q : (List Lin)) (l : (List Tst)), cTellsR.A.wf (p, q, l, ()) → ∀ (Λ1 : Int → (List Int) → Prop), (∀ (i_1 : Int) (out_1 : (List Int)), cTellsR_1 Λ1 p q l (if errT [p, q] l = 0 then tellsT p q l else []) (errT [p, q] l) i_1 out_1 → Λ1 i_1 out_1) → cTellsR_0 Λ1 p q l (if errT [p, q] l = 0 then tellsT p q l else []) (errT [p, q] l)) : ConOK Go.Proofs.Try.prog 31 cTellsR := by
  refine lawL (Γ := [(72, cMade), (71, cTestedR), (76, cValPR)]) (Θ := Th) (n := 59) [([1, 1, 1, 1, 0, 1, 0], ⟨[(0, false), (1, false), (2, false), (10, true), (11, true)], [(10, true)]⟩)] ⟨cMade_ok, cTestedR_ok, cValPR_ok, trivial⟩ (by kernel_rfl) th_ok mix_ok Go.Proofs.Try.func31 (by kernel_rfl) ?_
  intro x hw hp Λ hC
  have h0 := h x.1 x.2.1 x.2.2.1 hw (fun i_1 out_1 => Λ [1, 1, 1, 1, 0, 1, 0] ([(0, .d false (.sl tL) x.1), (1, .d false (.sl tL) x.2.1), (2, .d false (.sl tTs) x.2.2.1), (10, .own 10 0), (11, .d true .int i_1)], [(10, .sl true .int out_1)])) (fun i_1 out_1 hb => hC [1, 1, 1, 1, 0, 1, 0] ([(0, .d false (.sl tL) x.1), (1, .d false (.sl tL) x.2.1), (2, .d false (.sl tTs) x.2.2.1), (10, .own 10 0), (11, .d true .int i_1)], [(10, .sl true .int out_1)]) (Eq.mpr (by kernel_rfl) hb))
  exact Eq.mpr (by kernel_rfl) h0
theorem cTellsR_ok : ConOK Go.Proofs.Try.prog 31 cTellsR := by
  refine cTellsR_law ?_
  intro p q l hw Λ1 h1
  unfold cTellsR_0
  refine ⟨trivial, ?_⟩
  rw [errT2_cases]
  by_cases e : validP p = 0
  · rw [if_neg (by simp [e]), if_pos e]
    refine ⟨trivial, ?_⟩
    by_cases h : errT [q] l = 0
    · rw [if_neg (by simp [h])]
      obtain ⟨g1, g2⟩ := errT_ok h
      obtain ⟨g3, g4⟩ := validT_ok g2
      refine upto (n := l.length) (Q := fun i => Λ1 i (whereTo (fun t => endT p t != endT q t) l i)) ?_ ?_ 0 (Nat.zero_le _)
      · apply h1; unfold cTellsR_1; rw [if_neg (by simp), errT2_cases, if_pos e, if_pos h]
        exact ⟨rfl, h.symm, trivial⟩
      · intro i hi ih
        apply h1; unfold cTellsR_1; rw [if_pos (by simpa using hi), Int.toNat_natCast]
        obtain ⟨q1, q2, q3⟩ := isTst_iff.1 (g4 _ (mem_getD (d := tTs.dflt) hi))
        have hle := whereTo_len (fun t => endT p t != endT q t) l i
        rw [show whereTo (fun t => endT p t != endT q t) l (i + 1) = whereTo (fun t => endT p t != endT q t) l i ++ if (endT p (l.getD i tTs.dflt) != endT q (l.getD i tTs.dflt)) = true then [(i : Int)] else [] from rfl] at ih
        refine ⟨idx_nat hi, idx_nat hi, ⟨e, q1, q2.1, q2.2⟩, idx_nat hi, idx_nat hi, ⟨g1, q1, q2.1, q2.2⟩, ?_⟩
        show if (endT p (l.getD i tTs.dflt) != endT q (l.getD i tTs.dflt)) = true then _ else _
        by_cases hv : (endT p (l.getD i tTs.dflt) != endT q (l.getD i tTs.dflt)) = true
        · rw [if_pos hv] at ih ⊢
          exact ⟨by simp only [List.length_cons, List.length_nil]; omega, inI_succ hi (by omega), ih⟩
        · rw [if_neg hv, List.append_nil] at ih
          rw [if_neg hv]
          exact ⟨inI_succ hi (by omega), ih⟩
    · rw [if_pos (by simpa using h), if_neg h]
      exact ⟨rfl, rfl, trivial⟩
  · rw [if_pos (by simpa using e), if_neg e, if_neg e]
    exact ⟨rfl, rfl, trivial⟩
abbrev cTableR : Con := { A := (.cons (.sl tL) (.cons (.sl tTs) .nil)), R := (.cons (.sl (.sl .int)) (.cons .int .nil)), pre := fun x => True, F := fun x => ((if errT [x.1] x.2.1 = 0 then tableT x.1 x.2.1 else []), errT [x.1] x.2.1, ()) }
def cTableR_0 (Λ1 : Int → (List (List Int)) → Prop) (Λ2 : Int → (List (List Int)) → Int → (List Int) → Prop) (p : (List Lin)) (l : (List Tst)) (y0 : (List (List Int))) (y1 : Int) : Prop :=
  True ∧ (if ((errT [p] l) != (0 : Int)) = true then (([] : List (List Int)) = y0 ∧ (errT [p] l) = y1 ∧ True) else Λ1 (0 : Int) ([] : List (List Int)))
def cTableR_1 (Λ1 : Int → (List (List Int)) → Prop) (Λ2 : Int → (List (List Int)) → Int → (List Int) → Prop) (p : (List Lin)) (l : (List Tst)) (y0 : (List (List Int))) (y1 : Int)  (i_1 : Int) (out_1 : (List (List Int))) : Prop :=
  if (decide (i_1 < (List.length l : Int))) = true then (mkLen (List.length p : Int) (List.length p : Int) ∧ (idx i_1 (List.length l : Int) ∧ (True ∧ Λ2 i_1 out_1 (0 : Int) (List.replicate (Int.toNat (List.length p : Int)) (0 : Int))))) else (out_1 = y0 ∧ (0 : Int) = y1 ∧ True)
def cTableR_2 (Λ1 : Int → (List (List Int)) → Prop) (Λ2 : Int → (List (List Int)) → Int → (List Int) → Prop) (p : (List Lin)) (l : (List Tst)) (y0 : (List (List Int))) (y1 : Int) (i_1 : Int) (out_1 : (List (List Int))) (k_2 : Int) (row_2 : (List Int)) : Prop :=
  if (decide (k_2 < (List.length ((if err1 p ((List.getD l (Int.toNat i_1) tTs.dflt).1) = 0 then doneS p ((List.getD l (Int.toNat i_1) tTs.dflt).1) else [])) : Int))) = true then (idx k_2 (List.length ((if err1 p ((List.getD l (Int.toNat i_1) tTs.dflt).1) = 0 then doneS p ((List.getD l (Int.toNat i_1) tTs.dflt).1) else [])) : Int) ∧ (idx (List.getD ((if err1 p ((List.getD l (Int.toNat i_1) tTs.dflt).1) = 0 then doneS p ((List.getD l (Int.toNat i_1) tTs.dflt).1) else [])) (Int.toNat k_2) 0) (List.length row_2 : Int) ∧ (inI (k_2 + (1 : Int)) ∧ Λ2 i_1 out_1 (k_2 + (1 : Int)) (List.set row_2 (Int.toNat (List.getD ((if err1 p ((List.getD l (Int.toNat i_1) tTs.dflt).1) = 0 then doneS p ((List.getD l (Int.toNat i_1) tTs.dflt).1) else [])) (Int.toNat k_2) 0)) 1)))) else (List.length out_1 + List.length [row_2] ≤ 4294967296 ∧ (inI (i_1 + (1 : Int)) ∧ Λ1 (i_1 + (1 : Int)) (out_1 ++ [row_2])))
theorem cTableR_law (h : ∀ (p : (List Lin)) (l : (List Tst)), cTableR.A.wf (p, l, ()) → ∀ (Λ1 : Int → (List (List Int)) → Prop) (Λ2 : Int → (List (List Int)) → Int → (List Int) → Prop), (∀ (i_1 : Int) (out_1 : (List (List Int))), cTableR_1 Λ1 Λ2 p l (if errT [p] l = 0 then tableT p l else []) (errT [p] l) i_1 out_1 → Λ1 i_1 out_1) → (∀ (i_1 : Int) (out_1 : (List (List Int))) (k_2 : Int) (row_2 : (List Int)), cTableR_2 Λ1 Λ2 p l (if errT [p] l = 0 then tableT p l else []) (errT [p] l) i_1 out_1 k_2 row_2 → Λ2 i_1 out_1 k_2 row_2) → cTableR_0 Λ1 Λ2 p l (if errT [p] l = 0 then tableT p l else []) (errT [p] l)) : ConOK Go.Proofs.Try.prog 40 cTableR := by
  refine lawL (Γ := [(85, cDoneR), (71, cTestedR)]) (Θ := Th) (n := 55) [([1, 1, 1, 0, 1, 0], ⟨[(0, false), (1, false), (7, true), (8, true)], [(7, true)]⟩), ([1, 1, 1, 0, 1, 0, 0, 1, 0, 0, 1, 1, 0, 1, 0], ⟨[(0, false), (1, false), (7, true), (8, true), (9, true), (10, true), (12, true)], [(7, true), (27, true)]⟩)] ⟨cDoneR_ok, cTestedR_ok, trivial⟩ (by kernel_rfl) th_ok mix_ok Go.Proofs.Try.func40 (by kernel_rfl) ?_
  intro x hw hp Λ hC
  have h0 := h x.1 x.2.1 hw (fun i_1 out_1 => Λ [1, 1, 1, 0, 1, 0] ([(0, .d false (.sl tL) x.1), (1, .d false (.sl tTs) x.2.1), (7, .own 7 0), (8, .d true .int i_1)], [(7, .sl true (.sl .int) out_1)])) (fun i_1 out_1 k_2 row_2 => Λ [1, 1, 1, 0, 1, 0, 0, 1, 0, 0, 1, 1, 0, 1, 0] ([(0, .d false (.sl tL) x.1), (1, .d false (.sl tTs) x.2.1), (7, .own 7 0), (8, .d true .int i_1), (9, .own 27 0), (10, .d true (.sl .int) ((if err1 x.1 ((List.getD x.2.1 (Int.toNat i_1) tTs.dflt).1) = 0 then doneS x.1 ((List.getD x.2.1 (Int.toNat i_1) tTs.dflt).1) else []))), (12, .d true .int k_2)], [(7, .sl true (.sl .int) out_1), (27, .sl true .int row_2)])) (fun i_1 out_1 hb => hC [1, 1, 1, 0, 1, 0] ([(0, .d false (.sl tL) x.1), (1, .d false (.sl tTs) x.2.1), (7, .own 7 0), (8, .d true .int i_1)], [(7, .sl true (.sl .int) out_1)]) (Eq.mpr (by kernel_rfl) hb)) (fun i_1 out_1 k_2 row_2 hb => hC [1, 1, 1, 0, 1, 0, 0, 1, 0, 0, 1, 1, 0, 1, 0] ([(0, .d false (.sl tL) x.1), (1, .d false (.sl tTs) x.2.1), (7, .own 7 0), (8, .d true .int i_1), (9, .own 27 0), (10, .d true (.sl .int) ((if err1 x.1 ((List.getD x.2.1 (Int.toNat i_1) tTs.dflt).1) = 0 then doneS x.1 ((List.getD x.2.1 (Int.toNat i_1) tTs.dflt).1) else []))), (12, .d true .int k_2)], [(7, .sl true (.sl .int) out_1), (27, .sl true .int row_2)]) (Eq.mpr (by kernel_rfl) hb))
  exact Eq.mpr (by kernel_rfl) h0
theorem cTableR_ok : ConOK Go.Proofs.Try.prog 40 cTableR := by
  refine cTableR_law ?_
  intro p l hw Λ1 Λ2 h1 h2
  unfold cTableR_0
  refine ⟨trivial, ?_⟩
  by_cases h : errT [p] l = 0
  · rw [if_neg (by simp [h])]
    obtain ⟨p1, p2⟩ := errT_ok h
    obtain ⟨h8, hall⟩ := validT_ok p2
    have hp8 := (validP_ok p1).1
    refine upto (n := l.length) (Q := fun i => Λ1 (i : Int) ((tableT p l).take i)) ?_ ?_ 0 (Nat.zero_le _)
    · apply h1; unfold cTableR_1; rw [if_neg (by simp), if_pos h]
      rw [List.take_of_length_le (by unfold tableT; simp)]
      exact ⟨rfl, h.symm, trivial⟩
    · intro i hi ih
      apply h1; unfold cTableR_1; rw [if_pos (by simpa using hi)]
      have ht := isTst_iff.1 (hall _ (mem_getD (d := tTs.dflt) hi))
      have he : err1 p (l.getD i tTs.dflt).1 = 0 := by unfold err1; rw [if_pos p1, ht.1]; rfl
      have hdl := doneS_len p (l.getD i tTs.dflt).1
      have hm : ∀ j, j ≤ (doneS p (l.getD i tTs.dflt).1).length → Λ2 (i : Int) ((tableT p l).take i) (j : Int) (markTo (doneS p (l.getD i tTs.dflt).1) (List.replicate p.length 0) j) := by
        intro j hj
        refine upto (n := (doneS p (l.getD i tTs.dflt).1).length) (Q := fun j => Λ2 (i : Int) ((tableT p l).take i) (j : Int) (markTo (doneS p (l.getD i tTs.dflt).1) (List.replicate p.length 0) j)) ?_ ?_ j hj
        · apply h2; unfold cTableR_2
          rw [Int.toNat_natCast, if_pos he, if_neg (by simp)]
          unfold tableT at ih ⊢
          rw [map_take_next (rowT p) l tTs.dflt hi] at ih
          refine ⟨?_, inI_succ hi (by omega), ih⟩
          simp only [List.length_take, List.length_map, List.length_cons, List.length_nil]; omega
        · intro j hj ihj
          apply h2; unfold cTableR_2
          rw [Int.toNat_natCast, Int.toNat_natCast, if_pos he, if_pos (by simpa using hj)]
          have hd := doneS_ok (p := p) ht.1 hj
          exact ⟨idx_nat hj, ⟨hd.1, by rw [markTo_len, List.length_replicate]; exact hd.2⟩, inI_succ hj (by omega), ihj⟩
      refine ⟨by unfold mkLen; omega, idx_nat hi, trivial, ?_⟩
      rw [Int.toNat_natCast]
      exact hm 0 (Nat.zero_le _)
  · rw [if_pos (by simpa using h), if_neg h]
    exact ⟨rfl, rfl, trivial⟩
end Go.Tk
set_option linter.unusedSimpArgs false
set_option linter.unusedVariables false
namespace Go.Proofs
open Go.Shelf Go.RowKit
shelf_lay Lays.n212 Nm 212 at Try as Try.layMul
theorem Try.mul_num : Try.layMul_ren.f 212 = 125 := by kernel_rfl
end Go.Proofs
namespace Go.Tk
open Go Go.RowKit Go.Shelf

theorem inN_mem : ∀ {l : List Nat} {n : Nat}, inN l n = true → n ∈ l
  | k :: l, n, h => by
    unfold inN at h
    split at h
    · rename_i e
      rw [Nat.eq_of_beq_eq_true e]; exact List.mem_cons_self
    · exact List.mem_cons_of_mem _ (inN_mem h)

def uB (P : Program) (l : List Nat) : Bool := l.all fun i => match P.underlying i with
  | some (.int .u64) => true
  | _ => false

theorem xok (X : Xtr) (h1 : X.U = [12, 121, 140] := by rfl) (h2 : X.mul = [125] := by rfl) (h3 : X.inp = [] := by rfl) (h4 : X.arrs = [] := by rfl) (h5 : X.pcs = [] := by rfl) (h6 : X.pan = none := by rfl) (h7 : X.nilc = [] := by rfl) : XOK Go.Proofs.Try.prog X := by
  obtain ⟨sb, fz, u, mu, a1, a2, a3, a4, a5, a6, a8, a7⟩ := X
  subst h1
  subst h2
  subst h3
  subst h4
  subst h5
  subst h6
  subst h7
  refine ⟨fun i h => ?_, fun f h => ?_, fun _ _ h => (by cases h), fun _ h => (by cases h), fun _ _ h => (by cases h), fun _ h => (by cases h), fun _ _ h => (by cases h)⟩
  · have hb : uB Go.Proofs.Try.prog [12, 121, 140] = true := by kernel_rfl
    have := List.all_eq_true.1 hb i (inN_mem h)
    revert this
    cases Go.Proofs.Try.prog.underlying i with
    | none => intro h; cases h
    | some u => cases u with
      | int k => cases k <;> intro h <;> first | rfl | cases h
      | _ => intro h; cases h
  · have hm := inN_mem h
    have e : f = 125 := by simpa using hm
    subst e
    refine ⟨funB_ok (by kernel_rfl), fun x y w hx hy => ?_⟩
    have := Go.Proofs.Any.bits_Mul Go.Proofs.Try.layMul x y hx hy w
    rw [Go.Proofs.Try.mul_num] at this
    exact this

abbrev cRepeat : Con := { A := (.cons (.sl tRa) (.cons .int .nil)), R := (.cons (.osl tRa) .nil), pre := fun x => x.1.length = 1 ∧ 0 ≤ x.2.1 ∧ x.2.1 ≤ 1000, F := fun x => (List.replicate (Int.toNat x.2.1) (List.getD x.1 0 tRa.dflt), ()) }
def cRepeat_0 (Λ1 : Prop) (Λ2 : Prop) (Λ3 : Int → (List Rtl) → Prop) (x : (List Rtl)) (count : Int) (y0 : (List Rtl)) : Prop :=
  if (decide (count < (0 : Int))) = true then False else Λ1
def cRepeat_1 (Λ1 : Prop) (Λ2 : Prop) (Λ3 : Int → (List Rtl) → Prop) (x : (List Rtl)) (count : Int) (y0 : (List Rtl))   : Prop :=
  (0 ≤ (IntKind.u64.wrap (List.length x : Int)) ∧ (IntKind.u64.wrap (List.length x : Int)) < 18446744073709551616 ∧ 0 ≤ (IntKind.u64.wrap count) ∧ (IntKind.u64.wrap count) < 18446744073709551616) ∧ (if (decide (((IntKind.u64.wrap (List.length x : Int)) * (IntKind.u64.wrap count) / 18446744073709551616) > (0 : Int))) = true then (true = true ∧ False) else (True ∧ (if (bif false then true else (decide (((IntKind.u64.wrap (List.length x : Int)) * (IntKind.u64.wrap count) % 18446744073709551616) > (9223372036854775807 : Int)))) = true then False else Λ2 )))
def cRepeat_2 (Λ1 : Prop) (Λ2 : Prop) (Λ3 : Int → (List Rtl) → Prop) (x : (List Rtl)) (count : Int) (y0 : (List Rtl))   : Prop :=
  mkLen (IntKind.i64.wrap ((IntKind.u64.wrap (List.length x : Int)) * (IntKind.u64.wrap count) % 18446744073709551616)) (IntKind.i64.wrap ((IntKind.u64.wrap (List.length x : Int)) * (IntKind.u64.wrap count) % 18446744073709551616)) ∧ Λ3 ((min (List.length (List.replicate (Int.toNat (IntKind.i64.wrap ((IntKind.u64.wrap (List.length x : Int)) * (IntKind.u64.wrap count) % 18446744073709551616))) tRa.dflt)) (List.length x) : Nat) : Int) (List.append (List.take (List.length (List.replicate (Int.toNat (IntKind.i64.wrap ((IntKind.u64.wrap (List.length x : Int)) * (IntKind.u64.wrap count) % 18446744073709551616))) tRa.dflt)) x) (List.drop (List.length x) (List.replicate (Int.toNat (IntKind.i64.wrap ((IntKind.u64.wrap (List.length x : Int)) * (IntKind.u64.wrap count) % 18446744073709551616))) tRa.dflt)))
def cRepeat_3 (Λ1 : Prop) (Λ2 : Prop) (Λ3 : Int → (List Rtl) → Prop) (x : (List Rtl)) (count : Int) (y0 : (List Rtl))  (n_3 : Int) (newslice_3 : (List Rtl)) : Prop :=
  if (decide (n_3 < (List.length newslice_3 : Int))) = true then ((0 ≤ n_3 ∧ n_3 ≤ (List.length newslice_3 : Int) ∧ (List.length newslice_3 : Int) ≤ (List.length newslice_3 : Int) ∧ (List.length newslice_3 : Int) ≤ (List.length newslice_3 : Int)) ∧ ((0 ≤ (0 : Int) ∧ (0 : Int) ≤ n_3 ∧ n_3 ≤ (List.length newslice_3 : Int) ∧ (List.length newslice_3 : Int) ≤ (List.length newslice_3 : Int)) ∧ (inI (n_3 + (((min ((Int.toNat (List.length newslice_3 : Int)) - (Int.toNat n_3)) ((Int.toNat n_3) - (Int.toNat (0 : Int)))) : Nat) : Int)) ∧ Λ3 (n_3 + (((min ((Int.toNat (List.length newslice_3 : Int)) - (Int.toNat n_3)) ((Int.toNat n_3) - (Int.toNat (0 : Int)))) : Nat) : Int)) (List.append (List.append (List.take (Int.toNat n_3) newslice_3) (List.take ((Int.toNat (List.length newslice_3 : Int)) - (Int.toNat n_3)) (List.drop (Int.toNat (0 : Int)) (List.take (Int.toNat n_3) newslice_3)))) (List.drop ((Int.toNat n_3) + (min ((Int.toNat (List.length newslice_3 : Int)) - (Int.toNat n_3)) ((Int.toNat n_3) - (Int.toNat (0 : Int))))) newslice_3))))) else newslice_3 = y0
theorem cRepeat_law (h : ∀ (x : (List Rtl)) (count : Int), cRepeat.A.wf (x, count, ()) → (x.length = 1 ∧ 0 ≤ count ∧ count ≤ 1000) → ∀ (Λ1 : Prop) (Λ2 : Prop) (Λ3 : Int → (List Rtl) → Prop), (cRepeat_1 Λ1 Λ2 Λ3 x count (List.replicate (Int.toNat count) (List.getD x 0 tRa.dflt)) → Λ1) → (cRepeat_2 Λ1 Λ2 Λ3 x count (List.replicate (Int.toNat count) (List.getD x 0 tRa.dflt)) → Λ2) → (∀ (n_3 : Int) (newslice_3 : (List Rtl)), cRepeat_3 Λ1 Λ2 Λ3 x count (List.replicate (Int.toNat count) (List.getD x 0 tRa.dflt)) n_3 newslice_3 → Λ3 n_3 newslice_3) → cRepeat_0 Λ1 Λ2 Λ3 x count (List.replicate (Int.toNat count) (List.getD x 0 tRa.dflt))) : ConOK Go.Proofs.Try.prog 107 cRepeat := by
  refine lawX (X := { subs := [41, 44], frz := [], U := [12, 121, 140], mul := [125], nst := [], nls := [], itf := none, inp := [], arrs := [] }) (hX := xok _) (Γ := []) (Θ := Th) (n := 48) [([1, 2], ⟨[(0, false), (1, false)], []⟩), ([1, 1, 1, 2], ⟨[(0, false), (6, true)], []⟩), ([1, 1, 1, 1, 1, 1, 0, 0], ⟨[(7, true), (8, true)], [(30, true)]⟩)] trivial (by kernel_rfl) th_ok mix_ok Go.Proofs.Try.func107 (by kernel_rfl) ?_
  intro x hw hp Λ hC
  have h0 := h x.1 x.2.1 hw hp (Λ [1, 2] ([(0, .d false (.sl tRa) x.1), (1, .d false .int x.2.1)], [])) (Λ [1, 1, 1, 2] ([(0, .d false (.sl tRa) x.1), (6, .c (.int .u64 ((IntKind.u64.wrap (List.length x.1 : Int)) * (IntKind.u64.wrap x.2.1) % 18446744073709551616)))], [])) (fun n_3 newslice_3 => Λ [1, 1, 1, 1, 1, 1, 0, 0] ([(7, .own 30 0), (8, .d true .int n_3)], [(30, .sl true tRa newslice_3)])) (fun  hb => hC [1, 2] ([(0, .d false (.sl tRa) x.1), (1, .d false .int x.2.1)], []) (Eq.mpr (by kernel_rfl) hb)) (fun  hb => hC [1, 1, 1, 2] ([(0, .d false (.sl tRa) x.1), (6, .c (.int .u64 ((IntKind.u64.wrap (List.length x.1 : Int)) * (IntKind.u64.wrap x.2.1) % 18446744073709551616)))], []) (Eq.mpr (by kernel_rfl) hb)) (fun n_3 newslice_3 hb => hC [1, 1, 1, 1, 1, 1, 0, 0] ([(7, .own 30 0), (8, .d true .int n_3)], [(30, .sl true tRa newslice_3)]) (Eq.mpr (by kernel_rfl) hb))
  exact Eq.mpr (by kernel_rfl) h0
theorem cRepeat_ok : ConOK Go.Proofs.Try.prog 107 cRepeat := by
  refine cRepeat_law ?_
  intro x count hw hp Λ1 Λ2 Λ3 h1 h2 h3
  unfold cRepeat_0
  obtain ⟨p1, p2, p3⟩ := hp
  obtain ⟨r, rfl⟩ : ∃ r, x = [r] := by
    match x, p1 with
    | [r], _ => exact ⟨r, rfl⟩
  obtain ⟨C, rfl⟩ := Int.eq_ofNat_of_zero_le p2
  have hC : C ≤ 1000 := by omega
  have wx : IntKind.u64.wrap (([r].length : Nat) : Int) = 1 := by rw [IntKind.wrap_u64]; rfl
  have wc : IntKind.u64.wrap (C : Int) = C := by rw [IntKind.wrap_u64]; omega
  have wm : (1 : Int) * (C : Int) % 18446744073709551616 = C := by omega
  have wd : (1 : Int) * (C : Int) / 18446744073709551616 = 0 := by omega
  have wi : IntKind.i64.wrap (C : Int) = C := wrap_in (by unfold inI; omega)
  have key : ∀ k n (l : List Rtl), C - n ≤ k → l.length = C → n ≤ C → (n = 0 → C = 0) → l.take n = List.replicate n r → Λ3 (n : Int) l := by
    intro k
    induction k with
    | zero =>
      intro n l h0 hl hn hz ht
      have : n = C := by omega
      subst this
      apply h3; unfold cRepeat_3
      rw [if_neg (by rw [hl]; simp)]
      rw [List.take_of_length_le (by omega)] at ht
      exact ht
    | succ k ih =>
      intro n l h0 hl hn hz ht
      by_cases hlt : n < C
      · apply h3; unfold cRepeat_3
        rw [if_pos (by rw [hl]; simpa using hlt)]
        simp only [Int.toNat_natCast, Int.toNat_zero, hl, Nat.sub_zero, List.drop_zero]
        refine ⟨by omega, by omega, by unfold inI; omega, ?_⟩
        have e : ((n : Int) + ((min (C - n) n : Nat) : Int)) = ((n + min (C - n) n : Nat) : Int) := by omega
        rw [e, ht]
        have l1 : (List.replicate n r ++ (List.replicate n r).take (C - n)) = List.replicate (n + min (C - n) n) r := by rw [List.take_replicate, List.replicate_append_replicate]
        show Λ3 _ ((List.replicate n r ++ (List.replicate n r).take (C - n)) ++ l.drop (n + min (C - n) n))
        rw [l1]
        refine ih _ _ (by omega) (by simp; omega) (by omega) (by omega) ?_
        rw [List.take_left' (by simp)]
      · have : n = C := by omega
        subst this
        apply h3; unfold cRepeat_3
        rw [if_neg (by rw [hl]; simp)]
        rw [List.take_of_length_le (by omega)] at ht
        exact ht
  rw [if_neg (by simp)]
  apply h1; unfold cRepeat_1
  rw [wx, wc, wm, wd]
  refine ⟨by omega, ?_⟩
  rw [if_neg (by simp)]
  refine ⟨trivial, ?_⟩
  rw [if_neg (by simp; omega)]
  apply h2; unfold cRepeat_2
  rw [wx, wc, wm, wi]
  refine ⟨by unfold mkLen; omega, ?_⟩
  simp only [Int.toNat_natCast, List.length_replicate, List.length_cons, List.length_nil]
  refine key C _ _ (by omega) ?_ (by omega) (by omega) ?_
  · simp; omega
  · show List.take _ (List.take C [r] ++ _) = _
    by_cases h0 : C = 0
    · subst h0; rfl
    · have : min C (0 + 1) = 1 := by omega
      rw [this, List.take_of_length_le (show [r].length ≤ C by simp; omega)]
      rfl
end Go.Tk
