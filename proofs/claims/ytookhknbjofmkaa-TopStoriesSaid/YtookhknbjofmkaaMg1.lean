/- Merged: P1 C1 P7 C7 C7s C7r P7n C7n C7o C7w P7o C7p P7c. -/
import Derived.Test.YtookhknbjofmkaaTy
/- Plain facts: lists, numbers, and what the functions of layer 1 (code) give. No program in sight. -/
set_option linter.unusedSimpArgs false
set_option linter.unusedVariables false
namespace Go.Tk
open Go Go.RowKit

/-- From the end down: for loops that count up. -/
theorem upto {n : Nat} {Q : Nat → Prop} (last : Q n) (step : ∀ i, i < n → Q (i + 1) → Q i) : ∀ i, i ≤ n → Q i := by
  intro i hi
  obtain ⟨k, rfl⟩ : ∃ k, n = i + k := ⟨n - i, by omega⟩
  clear hi
  induction k generalizing i with
  | zero => exact last
  | succ k ih =>
    have e : i + (k + 1) = i + 1 + k := by omega
    rw [e] at last step
    exact step i (by omega) (ih (i + 1) last step)

theorem all_take_next {α : Type} {p : α → Bool} {l : List α} {i : Nat} (d : α) (h : i < l.length) (h1 : (l.take i).all p = true) (h2 : p (l.getD i d) = true) : (l.take (i + 1)).all p = true := by
  rw [take_snoc d h, List.all_append, h1]; simp only [List.all_cons, h2]; rfl

theorem all_false_at {α : Type} {p : α → Bool} {l : List α} {i : Nat} (d : α) (h : i < l.length) (h2 : p (l.getD i d) = false) : l.all p = false := by
  rw [List.all_eq_false]
  refine ⟨l[i], List.getElem_mem h, ?_⟩
  simp [List.getD_eq_getElem?_getD, h] at h2
  simp [h2]

theorem mem_getD {α : Type} {d : α} {l : List α} {i : Nat} (h : i < l.length) : l.getD i d ∈ l := by
  simp [List.getD_eq_getElem?_getD, h]

theorem findIdx?_at {α : Type} {p : α → Bool} {l : List α} {i : Nat} (d : α) (h : i < l.length) (h1 : (l.take i).any p = false) (h2 : p (l.getD i d) = true) : l.findIdx? p = some i := by
  rw [List.findIdx?_eq_some_iff_getElem]
  refine ⟨h, by simpa [List.getD_eq_getElem?_getD, h] using h2, fun j hj => ?_⟩
  rw [List.any_eq_false] at h1
  have := h1 (l[j]) (by rw [List.mem_take_iff_getElem]; exact ⟨j, by omega, rfl⟩)
  simpa using this

theorem any_take_next {α : Type} {p : α → Bool} {l : List α} {i : Nat} (d : α) (h : i < l.length) (h1 : (l.take i).any p = false) (h2 : p (l.getD i d) = false) : (l.take (i + 1)).any p = false := by
  rw [take_snoc d h, List.any_append, h1]; simp only [List.any_cons, h2]; rfl

/-- The place of the first element with a property, as Go gives it. -/
def idxF {α : Type} (p : α → Bool) (l : List α) : Int := match l.findIdx? p with | some i => (i : Int) | none => -1

theorem idxF_any {α : Type} (p : α → Bool) (l : List α) : decide (idxF p l ≥ 0) = l.any p := by
  unfold idxF
  cases h : l.findIdx? p with
  | none =>
    rw [List.findIdx?_eq_none_iff] at h
    have : l.any p = false := by rw [List.any_eq_false]; intro x hx; simp [h x hx]
    rw [this]; rfl
  | some i =>
    rw [List.findIdx?_eq_some_iff_getElem] at h
    obtain ⟨h1, h2, _⟩ := h
    have : l.any p = true := List.any_eq_true.2 ⟨_, List.getElem_mem h1, h2⟩
    rw [this]
    simp

theorem idxF_at {α : Type} {p : α → Bool} {l : List α} {i : Nat} (d : α) (h : i < l.length) (h1 : (l.take i).any p = false) (h2 : p (l.getD i d) = true) : idxF p l = i := by
  unfold idxF; rw [findIdx?_at d h h1 h2]

theorem idxF_none {α : Type} {p : α → Bool} {l : List α} (h1 : l.any p = false) : idxF p l = -1 := by
  unfold idxF
  rw [List.findIdx?_eq_none_iff.2 (by intro x hx; rw [List.any_eq_false] at h1; simpa using h1 x hx)]

theorem any_not_all {α : Type} (p : α → Bool) (l : List α) : (l.any fun x => !p x) = !l.all p := by
  induction l with
  | nil => rfl
  | cons a l ih => simp [ih]

theorem beq_dec (a b : Int) : (a == b) = decide (a = b) := by by_cases h : a = b <;> simp [h]

theorem take_eq_next {α : Type} {a b : List α} {i : Nat} (d : α) (h : i < a.length) (hl : a.length = b.length) (h1 : a.take i = b.take i) (h2 : a.getD i d = b.getD i d) : a.take (i + 1) = b.take (i + 1) := by
  rw [take_snoc d h, take_snoc d (by omega), h1, h2]

theorem ne_at {α : Type} {a b : List α} {i : Nat} (d : α) (h2 : a.getD i d ≠ b.getD i d) : a ≠ b := fun e => h2 (by rw [e])

/-! ### Layer 1 -/
def within (n lo hi : Int) : Bool := decide (lo ≤ n) && decide (n ≤ hi)
def isReg (n : Int) : Bool := within n 0 3
def argErr (b : Bool) : Int := bif b then 0 else 1
def validLine (l : Lin) : Bool := match l with
  | (op, t, a, b, _) =>
    if op = 0 then decide (t = 0 ∧ a = 0 ∧ b = 0)
    else if op = 1 then isReg t && within a (-9) 9 && decide (b = 0)
    else if op = 2 then isReg t && isReg a && decide (b = 0)
    else if op = 3 ∨ op = 4 ∨ op = 5 ∨ op = 6 then isReg t && isReg a && isReg b
    else if op = 7 then within t 1 8 && isReg a && isReg b
    else false
def validP (p : List Lin) : Int := if p.length > 8 then 3 else argErr (p.all validLine)
def isVal (n : Int) : Bool := within n (-999) 999
def validS (s : List Int) : Bool := decide (s.length = 4) && s.all isVal

theorem within_iff {n lo hi : Int} : within n lo hi = true ↔ lo ≤ n ∧ n ≤ hi := by
  simp [within]

theorem argErr_zero {b : Bool} : argErr b = 0 ↔ b = true := by cases b <;> simp [argErr]

theorem validLine_regs {op t x y : Int} (h1 : validLine (op, t, x, y, ()) = true) : (2 ≤ op ∧ op ≤ 7 → 0 ≤ x ∧ x ≤ 3) ∧ (3 ≤ op ∧ op ≤ 7 → 0 ≤ y ∧ y ≤ 3) ∧ (1 ≤ op ∧ op ≤ 6 → 0 ≤ t ∧ t ≤ 3) ∧ (op = 7 → 1 ≤ t ∧ t ≤ 8) ∧ (op = 1 → -9 ≤ x ∧ x ≤ 9) ∧ 0 ≤ op ∧ op ≤ 7 := by
  unfold validLine at h1
  simp only at h1
  split at h1
  · omega
  · split at h1
    · simp [isReg, within] at h1; omega
    · split at h1
      · simp [isReg, within] at h1; omega
      · split at h1
        · simp [isReg, within] at h1; omega
        · split at h1
          · simp [isReg, within] at h1; omega
          · cases h1

theorem validP_ok {p : List Lin} (h : validP p = 0) : p.length ≤ 8 ∧ p.all validLine = true := by
  unfold validP at h
  split at h
  · omega
  · refine ⟨by omega, ?_⟩
    cases hh : p.all validLine
    · rw [hh] at h; exact absurd h (by decide)
    · rfl

end Go.Tk
set_option linter.unusedSimpArgs false
set_option linter.unusedVariables false
namespace Go.Tk
open Go Go.RowKit

theorem idx_nat {i n : Nat} (h : i < n) : idx (i : Int) (n : Int) := ⟨by omega, by omega⟩
theorem inI_succ {i n : Nat} (h : i < n) (hn : n ≤ 140737488355328) : inI ((i : Int) + 1) := by unfold inI; omega

abbrev cWithin1 : Con := { A := (.cons .int (.cons .int (.cons .int .nil))), R := (.cons .bool .nil), pre := fun x => True, F := fun x => (within x.1 x.2.1 x.2.2.1, ()) }
def cWithin1_0  (n : Int) (lo : Int) (hi : Int) (y0 : Bool) : Prop :=
  if (decide (n ≥ lo)) = true then (True ∧ ((bif true then (decide (n ≤ hi)) else false) = y0 ∧ True)) else (false = false ∧ (false = y0 ∧ True))
theorem cWithin1_law (h : ∀ (n : Int) (lo : Int) (hi : Int), cWithin1.A.wf (n, lo, hi, ()) → cWithin1_0  n lo hi (within n lo hi)) : ConOK Go.Proofs.Try.prog 116 cWithin1 := by
  refine lawL (Γ := []) (Θ := Th) (n := 15) [] trivial (by kernel_rfl) th_ok mix_ok Go.Proofs.Try.func116 (by kernel_rfl) ?_
  intro x hw hp Λ hC
  have h0 := h x.1 x.2.1 x.2.2.1 hw  
  exact Eq.mpr (by kernel_rfl) h0
theorem cWithin1_ok : ConOK Go.Proofs.Try.prog 116 cWithin1 := by
  refine cWithin1_law ?_
  intro n lo hi hw
  unfold cWithin1_0
  unfold within
  split <;> simp_all
  omega
abbrev cIsReg1 : Con := { A := (.cons .int .nil), R := (.cons .bool .nil), pre := fun x => True, F := fun x => (isReg x.1, ()) }
def cIsReg1_0  (n : Int) (y0 : Bool) : Prop :=
  True ∧ ((within n (0 : Int) (3 : Int)) = y0 ∧ True)
theorem cIsReg1_law (h : ∀ (n : Int), cIsReg1.A.wf (n, ()) → cIsReg1_0  n (isReg n)) : ConOK Go.Proofs.Try.prog 121 cIsReg1 := by
  refine lawL (Γ := [(116, cWithin1)]) (Θ := Th) (n := 5) [] ⟨cWithin1_ok, trivial⟩ (by kernel_rfl) th_ok mix_ok Go.Proofs.Try.func121 (by kernel_rfl) ?_
  intro x hw hp Λ hC
  have h0 := h x.1 hw  
  exact Eq.mpr (by kernel_rfl) h0
theorem cIsReg1_ok : ConOK Go.Proofs.Try.prog 121 cIsReg1 := by
  refine cIsReg1_law ?_
  intro n hw
  unfold cIsReg1_0
  exact ⟨trivial, rfl, trivial⟩
abbrev cValLine : Con := { A := (.cons tL .nil), R := (.cons .int .nil), pre := fun x => True, F := fun x => (argErr (validLine x.1), ()) }
def cValLine_0  (l : Lin) (y0 : Int) : Prop :=
  if (l.1 == (0 : Int)) = true then (if (!(T.eqB tL l (0, 0, 0, 0, ()))) = true then ((1 : Int) = y0 ∧ True) else ((0 : Int) = y0 ∧ True)) else (if (l.1 == (1 : Int)) = true then (True ∧ (if (isReg l.2.1) = true then (True ∧ (True ∧ (if (bif true then (within l.2.2.1 (-9 : Int) (9 : Int)) else false) = true then (True ∧ (if (!(bif true then (l.2.2.2.1 == (0 : Int)) else false)) = true then ((1 : Int) = y0 ∧ True) else ((0 : Int) = y0 ∧ True))) else (false = false ∧ ((1 : Int) = y0 ∧ True))))) else (false = false ∧ (false = false ∧ ((1 : Int) = y0 ∧ True))))) else (if (l.1 == (2 : Int)) = true then (True ∧ (if (isReg l.2.1) = true then (True ∧ (True ∧ (if (bif true then (isReg l.2.2.1) else false) = true then (True ∧ (if (!(bif true then (l.2.2.2.1 == (0 : Int)) else false)) = true then ((1 : Int) = y0 ∧ True) else ((0 : Int) = y0 ∧ True))) else (false = false ∧ ((1 : Int) = y0 ∧ True))))) else (false = false ∧ (false = false ∧ ((1 : Int) = y0 ∧ True))))) else (if (l.1 == (3 : Int)) = true then (if (l.1 == (3 : Int)) = true then (True ∧ (if (isReg l.2.1) = true then (True ∧ (True ∧ (if (bif true then (isReg l.2.2.1) else false) = true then (True ∧ (True ∧ (if (!(bif true then (isReg l.2.2.2.1) else false)) = true then ((1 : Int) = y0 ∧ True) else ((0 : Int) = y0 ∧ True)))) else (false = false ∧ ((1 : Int) = y0 ∧ True))))) else (false = false ∧ (false = false ∧ ((1 : Int) = y0 ∧ True))))) else (if (l.1 == (7 : Int)) = true then (True ∧ (if (within l.2.1 (1 : Int) (8 : Int)) = true then (True ∧ (True ∧ (if (bif true then (isReg l.2.2.1) else false) = true then (True ∧ (True ∧ (if (!(bif true then (isReg l.2.2.2.1) else false)) = true then ((1 : Int) = y0 ∧ True) else ((0 : Int) = y0 ∧ True)))) else (false = false ∧ ((1 : Int) = y0 ∧ True))))) else (false = false ∧ (false = false ∧ ((1 : Int) = y0 ∧ True))))) else ((1 : Int) = y0 ∧ True))) else (if (l.1 == (4 : Int)) = true then (if (l.1 == (4 : Int)) = true then (True ∧ (if (isReg l.2.1) = true then (True ∧ (True ∧ (if (bif true then (isReg l.2.2.1) else false) = true then (True ∧ (True ∧ (if (!(bif true then (isReg l.2.2.2.1) else false)) = true then ((1 : Int) = y0 ∧ True) else ((0 : Int) = y0 ∧ True)))) else (false = false ∧ ((1 : Int) = y0 ∧ True))))) else (false = false ∧ (false = false ∧ ((1 : Int) = y0 ∧ True))))) else (if (l.1 == (7 : Int)) = true then (True ∧ (if (within l.2.1 (1 : Int) (8 : Int)) = true then (True ∧ (True ∧ (if (bif true then (isReg l.2.2.1) else false) = true then (True ∧ (True ∧ (if (!(bif true then (isReg l.2.2.2.1) else false)) = true then ((1 : Int) = y0 ∧ True) else ((0 : Int) = y0 ∧ True)))) else (false = false ∧ ((1 : Int) = y0 ∧ True))))) else (false = false ∧ (false = false ∧ ((1 : Int) = y0 ∧ True))))) else ((1 : Int) = y0 ∧ True))) else (if (l.1 == (5 : Int)) = true then (if (l.1 == (5 : Int)) = true then (True ∧ (if (isReg l.2.1) = true then (True ∧ (True ∧ (if (bif true then (isReg l.2.2.1) else false) = true then (True ∧ (True ∧ (if (!(bif true then (isReg l.2.2.2.1) else false)) = true then ((1 : Int) = y0 ∧ True) else ((0 : Int) = y0 ∧ True)))) else (false = false ∧ ((1 : Int) = y0 ∧ True))))) else (false = false ∧ (false = false ∧ ((1 : Int) = y0 ∧ True))))) else (if (l.1 == (7 : Int)) = true then (True ∧ (if (within l.2.1 (1 : Int) (8 : Int)) = true then (True ∧ (True ∧ (if (bif true then (isReg l.2.2.1) else false) = true then (True ∧ (True ∧ (if (!(bif true then (isReg l.2.2.2.1) else false)) = true then ((1 : Int) = y0 ∧ True) else ((0 : Int) = y0 ∧ True)))) else (false = false ∧ ((1 : Int) = y0 ∧ True))))) else (false = false ∧ (false = false ∧ ((1 : Int) = y0 ∧ True))))) else ((1 : Int) = y0 ∧ True))) else (if (l.1 == (6 : Int)) = true then (True ∧ (if (isReg l.2.1) = true then (True ∧ (True ∧ (if (bif true then (isReg l.2.2.1) else false) = true then (True ∧ (True ∧ (if (!(bif true then (isReg l.2.2.2.1) else false)) = true then ((1 : Int) = y0 ∧ True) else ((0 : Int) = y0 ∧ True)))) else (false = false ∧ ((1 : Int) = y0 ∧ True))))) else (false = false ∧ (false = false ∧ ((1 : Int) = y0 ∧ True))))) else (if (l.1 == (7 : Int)) = true then (True ∧ (if (within l.2.1 (1 : Int) (8 : Int)) = true then (True ∧ (True ∧ (if (bif true then (isReg l.2.2.1) else false) = true then (True ∧ (True ∧ (if (!(bif true then (isReg l.2.2.2.1) else false)) = true then ((1 : Int) = y0 ∧ True) else ((0 : Int) = y0 ∧ True)))) else (false = false ∧ ((1 : Int) = y0 ∧ True))))) else (false = false ∧ (false = false ∧ ((1 : Int) = y0 ∧ True))))) else ((1 : Int) = y0 ∧ True))))))))
theorem cValLine_law (h : ∀ (l : Lin), cValLine.A.wf (l, ()) → cValLine_0  l (argErr (validLine l))) : ConOK Go.Proofs.Try.prog 125 cValLine := by
  refine lawL (Γ := [(121, cIsReg1), (116, cWithin1)]) (Θ := Th) (n := 76) [] ⟨cIsReg1_ok, cWithin1_ok, trivial⟩ (by kernel_rfl) th_ok mix_ok Go.Proofs.Try.func125 (by kernel_rfl) ?_
  intro x hw hp Λ hC
  have h0 := h x.1 hw  
  exact Eq.mpr (by kernel_rfl) h0
theorem cValLine_ok : ConOK Go.Proofs.Try.prog 125 cValLine := by
  refine cValLine_law ?_
  intro l hw
  unfold cValLine_0
  obtain ⟨op, t, a, b, ⟨⟩⟩ := l
  repeat' split
  all_goals (simp_all [validLine, argErr, T.eqB, T.dflt])
  rintro rfl
  by_cases h1 : t = 0 <;> by_cases h2 : a = 0 <;> by_cases h3 : b = 0 <;> simp_all
abbrev cValP : Con := { A := (.cons (.sl tL) .nil), R := (.cons .int .nil), pre := fun x => True, F := fun x => (validP x.1, ()) }
def cValP_0 (Λ1 : Int → Prop) (p : (List Lin)) (y0 : Int) : Prop :=
  if (decide ((List.length p : Int) > (8 : Int))) = true then ((3 : Int) = y0 ∧ True) else Λ1 (0 : Int)
def cValP_1 (Λ1 : Int → Prop) (p : (List Lin)) (y0 : Int)  (t11_1 : Int) : Prop :=
  if (decide (t11_1 < (List.length p : Int))) = true then (idx t11_1 (List.length p : Int) ∧ (True ∧ (if ((argErr (validLine (List.getD p (Int.toNat t11_1) tL.dflt))) != (0 : Int)) = true then ((argErr (validLine (List.getD p (Int.toNat t11_1) tL.dflt))) = y0 ∧ True) else (inI (t11_1 + (1 : Int)) ∧ Λ1 (t11_1 + (1 : Int)))))) else ((0 : Int) = y0 ∧ True)
theorem cValP_law (h : ∀ (p : (List Lin)), cValP.A.wf (p, ()) → ∀ (Λ1 : Int → Prop), (∀ (t11_1 : Int), cValP_1 Λ1 p (validP p) t11_1 → Λ1 t11_1) → cValP_0 Λ1 p (validP p)) : ConOK Go.Proofs.Try.prog 68 cValP := by
  refine lawL (Γ := [(125, cValLine)]) (Θ := Th) (n := 21) [([1, 1, 0, 1, 0], ⟨[(9, false), (10, true), (11, true)], []⟩)] ⟨cValLine_ok, trivial⟩ (by kernel_rfl) th_ok mix_ok Go.Proofs.Try.func68 (by kernel_rfl) ?_
  intro x hw hp Λ hC
  have h0 := h x.1 hw (fun t11_1 => Λ [1, 1, 0, 1, 0] ([(9, .d false (.sl tL) x.1), (10, .d true .int (List.length x.1 : Int)), (11, .d true .int t11_1)], [])) (fun t11_1 hb => hC [1, 1, 0, 1, 0] ([(9, .d false (.sl tL) x.1), (10, .d true .int (List.length x.1 : Int)), (11, .d true .int t11_1)], []) (Eq.mpr (by kernel_rfl) hb))
  exact Eq.mpr (by kernel_rfl) h0
theorem cValP_ok : ConOK Go.Proofs.Try.prog 68 cValP := by
  refine cValP_law ?_
  intro p hw Λ1 h1
  unfold cValP_0
  simp only [decide_eq_true_eq]
  split
  · refine ⟨?_, trivial⟩
    unfold validP
    rw [if_pos (by omega)]
  · rename_i h8
    refine upto (n := p.length) (Q := fun i => (p.take i).all validLine = true → Λ1 i) ?_ ?_ 0 (Nat.zero_le _) rfl
    · intro ha
      rw [List.take_length] at ha
      apply h1; unfold cValP_1; rw [if_neg (by simp)]
      refine ⟨?_, trivial⟩
      unfold validP
      rw [if_neg (by omega), ha]; rfl
    · intro i hi ih ha
      apply h1; unfold cValP_1; rw [if_pos (by simpa using hi)]
      refine ⟨idx_nat hi, trivial, ?_⟩
      rw [Int.toNat_natCast]
      cases hv : validLine (List.getD p i tL.dflt)
      · rw [if_pos (by rfl)]
        refine ⟨?_, trivial⟩
        unfold validP
        rw [if_neg (by omega), all_false_at (p := validLine) tL.dflt hi hv]
      · rw [if_neg (by simp [argErr])]
        exact ⟨inI_succ hi (by omega), ih (all_take_next tL.dflt hi ha hv)⟩
abbrev cIndexI : Con := { A := (.cons (.sl .int) (.cons (.fn (.cons .int .nil) (.cons .bool .nil)) .nil)), R := (.cons .int .nil), pre := fun x => ∀ r, inI r → x.2.1.1 (r, ()), F := fun x => (idxF (fun r => (x.2.1.2 (r, ())).1) x.1, ()) }
def cIndexI_0 (Λ1 : Int → Prop) (s : (List Int)) (f : (T.fn (.cons .int .nil) (.cons .bool .nil)).den) (y0 : Int) : Prop :=
  Λ1 (0 : Int)
def cIndexI_1 (Λ1 : Int → Prop) (s : (List Int)) (f : (T.fn (.cons .int .nil) (.cons .bool .nil)).den) (y0 : Int)  (t8_1 : Int) : Prop :=
  if (decide (t8_1 < (List.length s : Int))) = true then (idx t8_1 (List.length s : Int) ∧ (f.1 ((List.getD s (Int.toNat t8_1) 0), ()) ∧ (if ((f.2 ((List.getD s (Int.toNat t8_1) 0), ())).1) = true then (t8_1 = y0 ∧ True) else (inI (t8_1 + (1 : Int)) ∧ Λ1 (t8_1 + (1 : Int)))))) else ((-1 : Int) = y0 ∧ True)
theorem cIndexI_law (h : ∀ (s : (List Int)) (f : (T.fn (.cons .int .nil) (.cons .bool .nil)).den), cIndexI.A.wf (s, f, ()) → (∀ r, inI r → f.1 (r, ())) → ∀ (Λ1 : Int → Prop), (∀ (t8_1 : Int), cIndexI_1 Λ1 s f (idxF (fun r => (f.2 (r, ())).1) s) t8_1 → Λ1 t8_1) → cIndexI_0 Λ1 s f (idxF (fun r => (f.2 (r, ())).1) s)) : ConOK Go.Proofs.Try.prog 148 cIndexI := by
  refine lawL (Γ := []) (Θ := Th) (n := 19) [([1, 0, 1, 0], ⟨[(0, false), (1, false), (7, true), (8, true)], []⟩)] trivial (by kernel_rfl) th_ok mix_ok Go.Proofs.Try.func148 (by kernel_rfl) ?_
  intro x hw hp Λ hC
  have h0 := h x.1 x.2.1 hw hp (fun t8_1 => Λ [1, 0, 1, 0] ([(0, .d false (.sl .int) x.1), (1, .d false (.fn (.cons .int .nil) (.cons .bool .nil)) x.2.1), (7, .d true .int (List.length x.1 : Int)), (8, .d true .int t8_1)], [])) (fun t8_1 hb => hC [1, 0, 1, 0] ([(0, .d false (.sl .int) x.1), (1, .d false (.fn (.cons .int .nil) (.cons .bool .nil)) x.2.1), (7, .d true .int (List.length x.1 : Int)), (8, .d true .int t8_1)], []) (Eq.mpr (by kernel_rfl) hb))
  exact Eq.mpr (by kernel_rfl) h0
theorem cIndexI_ok : ConOK Go.Proofs.Try.prog 148 cIndexI := by
  refine cIndexI_law ?_
  intro s f hw hp Λ1 h1
  unfold cIndexI_0
  refine upto (n := s.length) (Q := fun i => (s.take i).any (fun r => (f.2 (r, ())).1) = false → Λ1 i) ?_ ?_ 0 (Nat.zero_le _) rfl
  · intro ha
    rw [List.take_length] at ha
    apply h1; unfold cIndexI_1; rw [if_neg (by simp), idxF_none ha]
    exact ⟨rfl, trivial⟩
  · intro i hi ih ha
    apply h1; unfold cIndexI_1; rw [if_pos (by simpa using hi), Int.toNat_natCast]
    refine ⟨idx_nat hi, hp _ (hw.1.2 _ (mem_getD hi)), ?_⟩
    cases hv : (f.2 (List.getD s i 0, ())).1
    · rw [if_neg (by simp)]
      exact ⟨inI_succ hi hw.1.1, ih (any_take_next (p := fun r => (f.2 (r, ())).1) 0 hi ha hv)⟩
    · rw [if_pos (by rfl), idxF_at (p := fun r => (f.2 (r, ())).1) 0 hi ha hv]
      exact ⟨rfl, trivial⟩
abbrev cContI : Con := { A := (.cons (.sl .int) (.cons (.fn (.cons .int .nil) (.cons .bool .nil)) .nil)), R := (.cons .bool .nil), pre := fun x => ∀ r, inI r → x.2.1.1 (r, ()), F := fun x => (x.1.any (fun r => (x.2.1.2 (r, ())).1), ()) }
def cContI_0  (s : (List Int)) (f : (T.fn (.cons .int .nil) (.cons .bool .nil)).den) (y0 : Bool) : Prop :=
  (∀ r, inI r → f.1 (r, ())) ∧ ((decide ((idxF (fun r => (f.2 (r, ())).1) s) ≥ (0 : Int))) = y0 ∧ True)
theorem cContI_law (h : ∀ (s : (List Int)) (f : (T.fn (.cons .int .nil) (.cons .bool .nil)).den), cContI.A.wf (s, f, ()) → (∀ r, inI r → f.1 (r, ())) → cContI_0  s f (s.any (fun r => (f.2 (r, ())).1))) : ConOK Go.Proofs.Try.prog 114 cContI := by
  refine lawL (Γ := [(148, cIndexI)]) (Θ := Th) (n := 9) [] ⟨cIndexI_ok, trivial⟩ (by kernel_rfl) th_ok mix_ok Go.Proofs.Try.func114 (by kernel_rfl) ?_
  intro x hw hp Λ hC
  have h0 := h x.1 x.2.1 hw hp  
  exact Eq.mpr (by kernel_rfl) h0
theorem cContI_ok : ConOK Go.Proofs.Try.prog 114 cContI := by
  refine cContI_law ?_
  intro s f hw hp
  unfold cContI_0
  exact ⟨hp, idxF_any _ _, trivial⟩
abbrev cNotVal1 : Con := { A := (.cons .int .nil), R := (.cons .bool .nil), pre := fun x => True, F := fun x => (!(isVal x.1), ()) }
def cNotVal1_0  (n : Int) (y0 : Bool) : Prop :=
  True ∧ ((!(within n (-999 : Int) (999 : Int))) = y0 ∧ True)
theorem cNotVal1_law (h : ∀ (n : Int), cNotVal1.A.wf (n, ()) → cNotVal1_0  n (!(isVal n))) : ConOK Go.Proofs.Try.prog 134 cNotVal1 := by
  refine lawL (Γ := [(116, cWithin1)]) (Θ := Th) (n := 6) [] ⟨cWithin1_ok, trivial⟩ (by kernel_rfl) th_ok mix_ok Go.Proofs.Try.func134 (by kernel_rfl) ?_
  intro x hw hp Λ hC
  have h0 := h x.1 hw  
  exact Eq.mpr (by kernel_rfl) h0
theorem cNotVal1_ok : ConOK Go.Proofs.Try.prog 134 cNotVal1 := by
  refine cNotVal1_law ?_
  intro n hw
  unfold cNotVal1_0
  exact ⟨trivial, rfl, trivial⟩
abbrev cValS : Con := { A := (.cons (.sl .int) .nil), R := (.cons .int .nil), pre := fun x => True, F := fun x => (argErr (validS x.1), ()) }
def cValS_0  (in_ : (List Int)) (y0 : Int) : Prop :=
  if ((List.length in_ : Int) != (4 : Int)) = true then (true = true ∧ ((1 : Int) = y0 ∧ True)) else ((∀ r, inI r → (fun (xx : (Int × Unit)) => True, fun (xx : (Int × Unit)) => (!(isVal xx.1), ())).1 (r, ())) ∧ (True ∧ (if (bif false then true else (in_.any (fun r => ((fun (xx : (Int × Unit)) => True, fun (xx : (Int × Unit)) => (!(isVal xx.1), ())).2 (r, ())).1))) = true then ((1 : Int) = y0 ∧ True) else ((0 : Int) = y0 ∧ True))))
theorem cValS_law (h : ∀ (in_ : (List Int)), cValS.A.wf (in_, ()) → cValS_0  in_ (argErr (validS in_))) : ConOK Go.Proofs.Try.prog 83 cValS := by
  refine lawL (Γ := [(114, cContI), (134, cNotVal1)]) (Θ := Th) (n := 10) [] ⟨cContI_ok, cNotVal1_ok, trivial⟩ (by kernel_rfl) th_ok mix_ok Go.Proofs.Try.func83 (by kernel_rfl) ?_
  intro x hw hp Λ hC
  have h0 := h x.1 hw  
  exact Eq.mpr (by kernel_rfl) h0
theorem cValS_ok : ConOK Go.Proofs.Try.prog 83 cValS := by
  refine cValS_law ?_
  intro in_ hw
  unfold cValS_0
  unfold validS
  simp only [bne_iff_ne, ne_eq]
  split
  · rename_i h4
    rw [show decide (in_.length = 4) = false by simp; omega]
    exact ⟨trivial, rfl, trivial⟩
  · rename_i h4
    rw [show decide (in_.length = 4) = true by simp; omega]
    refine ⟨fun _ _ => trivial, trivial, ?_⟩
    show if (in_.any fun r => !isVal r) = true then _ else _
    rw [any_not_all]
    cases in_.all isVal <;> exact ⟨rfl, trivial⟩
abbrev cCheck1 : Con := { A := (.cons (.sl tL) (.cons (.sl .int) .nil)), R := (.cons .int .nil), pre := fun x => True, F := fun x => ((if validP x.1 = 0 then argErr (validS x.2.1) else validP x.1), ()) }
def cCheck1_0  (p : (List Lin)) (in_ : (List Int)) (y0 : Int) : Prop :=
  True ∧ (if ((validP p) != (0 : Int)) = true then ((validP p) = y0 ∧ True) else (True ∧ ((argErr (validS in_)) = y0 ∧ True)))
theorem cCheck1_law (h : ∀ (p : (List Lin)) (in_ : (List Int)), cCheck1.A.wf (p, in_, ()) → cCheck1_0  p in_ (if validP p = 0 then argErr (validS in_) else validP p)) : ConOK Go.Proofs.Try.prog 84 cCheck1 := by
  refine lawL (Γ := [(68, cValP), (83, cValS)]) (Θ := Th) (n := 13) [] ⟨cValP_ok, cValS_ok, trivial⟩ (by kernel_rfl) th_ok mix_ok Go.Proofs.Try.func84 (by kernel_rfl) ?_
  intro x hw hp Λ hC
  have h0 := h x.1 x.2.1 hw  
  exact Eq.mpr (by kernel_rfl) h0
theorem cCheck1_ok : ConOK Go.Proofs.Try.prog 84 cCheck1 := by
  refine cCheck1_law ?_
  intro p in_ hw
  unfold cCheck1_0
  split <;> simp_all
/-! The reference's -/
abbrev cLongL : Con := { A := (.cons (.sl tL) .nil), R := (.cons .bool .nil), pre := fun x => True, F := fun x => (decide (100 < x.1.length), ()) }
def cLongL_0  (p : (List Lin)) (y0 : Bool) : Prop :=
  (decide ((List.length p : Int) > (100 : Int))) = y0 ∧ True
theorem cLongL_law (h : ∀ (p : (List Lin)), cLongL.A.wf (p, ()) → cLongL_0  p (decide (100 < p.length))) : ConOK Go.Proofs.Try.prog 9 cLongL := by
  refine lawL (Γ := []) (Θ := Th) (n := 6) [] trivial (by kernel_rfl) th_ok mix_ok Go.Proofs.Try.func9 (by kernel_rfl) ?_
  intro x hw hp Λ hC
  have h0 := h x.1 hw  
  exact Eq.mpr (by kernel_rfl) h0
theorem cLongL_ok : ConOK Go.Proofs.Try.prog 9 cLongL := by
  refine cLongL_law ?_
  intro p hw
  unfold cLongL_0
  exact ⟨by simp; omega, trivial⟩
end Go.Tk
/- Plain facts: patches and histories (layers 4, 7). No program in sight. -/
set_option linter.unusedSimpArgs false
set_option linter.unusedVariables false
set_option linter.unnecessarySimpa false
namespace Go.Tk
open Go Go.RowKit

def edOK (x : List Edt) (i : Nat) : Bool := !(decide ((x.getD i tEd.dflt).1 < 0) || decide ((x.getD i tEd.dflt).1 ≥ 8) || (decide (i > 0) && decide ((x.getD (i - 1) tEd.dflt).1 ≥ (x.getD i tEd.dflt).1)) || !(validLine (x.getD i tEd.dflt).2.1))
def okTo (x : List Edt) : Nat → Bool
  | 0 => true
  | i + 1 => okTo x i && edOK x i
def validX (x : List Edt) : Int := if x.length > 4 then 3 else argErr (okTo x x.length)
theorem okTo_false {x : List Edt} {i : Nat} (h : edOK x i = false) : ∀ n, i < n → okTo x n = false
  | 0, hn => by omega
  | n + 1, hn => by
    unfold okTo
    by_cases e : i = n
    · subst e; rw [h, Bool.and_false]
    · rw [okTo_false h n (by omega), Bool.false_and]
theorem okTo_at {x : List Edt} : ∀ n, okTo x n = true → ∀ i, i < n → edOK x i = true
  | 0, _, i, hi => by omega
  | n + 1, h, i, hi => by
    unfold okTo at h
    rw [Bool.and_eq_true] at h
    by_cases e : i = n
    · subst e; exact h.2
    · exact okTo_at n h.1 i (by omega)
def far (n : Nat) (x : List Edt) : Bool := x.any fun e => decide (e.1 ≥ (n : Int))
def errH (n : Nat) : List (List Edt) → Int
  | [] => 0
  | x :: hs => if validX x = 0 then (if far n x = true then 4 else errH n hs) else validX x
def err7 (p : List Lin) (h : List (List Edt)) : Int := if validP p = 0 then (if h.length > 8 then 3 else errH p.length h) else validP p
def playX (p : List Lin) (x : List Edt) : List Lin := x.foldl (fun o e => o.set e.1.toNat e.2.1) p
def playH (p : List Lin) (h : List (List Edt)) : List Lin := h.foldl playX p
theorem playX_len (x : List Edt) : ∀ p, (playX p x).length = p.length := by
  induction x with
  | nil => intro p; rfl
  | cons e x ih => intro p; show (playX (p.set e.1.toNat e.2.1) x).length = _; rw [ih, List.length_set]
theorem playH_len (h : List (List Edt)) : ∀ p, (playH p h).length = p.length := by
  induction h with
  | nil => intro p; rfl
  | cons x h ih => intro p; show (playH (playX p x) h).length = _; rw [ih, playX_len]
theorem playX_take (p : List Lin) (x : List Edt) {i : Nat} (hi : i < x.length) : playX p (x.take (i + 1)) = (playX p (x.take i)).set (x.getD i tEd.dflt).1.toNat (x.getD i tEd.dflt).2.1 := by
  unfold playX
  rw [take_snoc tEd.dflt hi, List.foldl_append]; rfl
theorem playH_take (p : List Lin) (h : List (List Edt)) {i : Nat} (hi : i < h.length) : playH p (h.take (i + 1)) = playX (playH p (h.take i)) (h.getD i []) := by
  unfold playH
  rw [take_snoc [] hi, List.foldl_append]; rfl
/-- What is known of a history that is right. -/
def okH (n : Nat) (h : List (List Edt)) : Prop := ∀ x ∈ h, ∀ e ∈ x, 0 ≤ e.1 ∧ e.1 < n
theorem validX_ok {x : List Edt} (h : validX x = 0) : x.length ≤ 4 ∧ ∀ e ∈ x, 0 ≤ e.1 ∧ e.1 < 8 := by
  unfold validX at h
  split at h
  · omega
  · refine ⟨by omega, fun e he => ?_⟩
    obtain ⟨i, hi, rfl⟩ := List.getElem_of_mem he
    have g := okTo_at _ (argErr_zero.1 h) i hi
    unfold edOK at g
    have ee : x.getD i tEd.dflt = x[i] := by simp [List.getD_eq_getElem?_getD, hi]
    rw [ee] at g
    simp at g
    omega
theorem errH_ok {n : Nat} : ∀ {h : List (List Edt)}, errH n h = 0 → okH n h ∧ ∀ x ∈ h, x.length ≤ 4
  | [], _ => ⟨fun x hx => by simp at hx, fun x hx => by simp at hx⟩
  | x :: hs, e => by
    unfold errH at e
    split at e
    · rename_i hv
      split at e
      · cases e
      · rename_i hf
        obtain ⟨i1, i2⟩ := errH_ok e
        obtain ⟨v1, v2⟩ := validX_ok hv
        refine ⟨fun y hy q hq => ?_, fun y hy => ?_⟩
        · rcases List.mem_cons.1 hy with rfl | hy
          · have := List.any_eq_false.1 (Bool.eq_false_iff.2 hf) q hq
            have h2 := v2 q hq
            simp at this
            omega
          · exact i1 y hy q hq
        · rcases List.mem_cons.1 hy with rfl | hy
          · exact v1
          · exact i2 y hy
    · rename_i hv; exact absurd e hv
theorem err7_ok {p : List Lin} {h : List (List Edt)} (e : err7 p h = 0) : validP p = 0 ∧ h.length ≤ 8 ∧ okH p.length h ∧ ∀ x ∈ h, x.length ≤ 4 := by
  unfold err7 at e
  split at e
  · rename_i hv
    split at e
    · cases e
    · obtain ⟨a, b⟩ := errH_ok e
      exact ⟨hv, by omega, a, b⟩
  · rename_i hv; exact absurd e hv
end Go.Tk
set_option linter.unusedSimpArgs false
set_option linter.unusedVariables false
set_option linter.unnecessarySimpa false
namespace Go.Tk
open Go Go.RowKit

abbrev cValX : Con := { A := (.cons (.sl tEd) .nil), R := (.cons .int .nil), pre := fun x => True, F := fun x => (validX x.1, ()) }
def cValX_0 (Λ1 : Int → Prop) (x : (List Edt)) (y0 : Int) : Prop :=
  if (decide ((List.length x : Int) > (4 : Int))) = true then ((3 : Int) = y0 ∧ True) else Λ1 (0 : Int)
def cValX_1 (Λ1 : Int → Prop) (x : (List Edt)) (y0 : Int)  (t10_1 : Int) : Prop :=
  if (decide (t10_1 < (List.length x : Int))) = true then (idx t10_1 (List.length x : Int) ∧ (if (decide ((List.getD x (Int.toNat t10_1) tEd.dflt).1 < (0 : Int))) = true then (true = true ∧ (true = true ∧ (true = true ∧ ((1 : Int) = y0 ∧ True)))) else (True ∧ (if (bif false then true else (decide ((List.getD x (Int.toNat t10_1) tEd.dflt).1 ≥ (8 : Int)))) = true then (true = true ∧ (true = true ∧ ((1 : Int) = y0 ∧ True))) else (if (decide (t10_1 > (0 : Int))) = true then (inI (t10_1 - (1 : Int)) ∧ (idx (t10_1 - (1 : Int)) (List.length x : Int) ∧ (True ∧ (True ∧ (if (bif false then true else (bif true then (decide ((List.getD x (Int.toNat (t10_1 - (1 : Int))) tEd.dflt).1 ≥ (List.getD x (Int.toNat t10_1) tEd.dflt).1)) else false)) = true then (true = true ∧ ((1 : Int) = y0 ∧ True)) else (True ∧ (True ∧ (if (bif false then true else ((argErr (validLine ((List.getD x (Int.toNat t10_1) tEd.dflt).2.1))) != (0 : Int))) = true then ((1 : Int) = y0 ∧ True) else (inI (t10_1 + (1 : Int)) ∧ Λ1 (t10_1 + (1 : Int))))))))))) else (false = false ∧ (True ∧ (if (bif false then true else false) = true then (true = true ∧ ((1 : Int) = y0 ∧ True)) else (True ∧ (True ∧ (if (bif false then true else ((argErr (validLine ((List.getD x (Int.toNat t10_1) tEd.dflt).2.1))) != (0 : Int))) = true then ((1 : Int) = y0 ∧ True) else (inI (t10_1 + (1 : Int)) ∧ Λ1 (t10_1 + (1 : Int)))))))))))))) else ((0 : Int) = y0 ∧ True)
theorem cValX_law (h : ∀ (x : (List Edt)), cValX.A.wf (x, ()) → ∀ (Λ1 : Int → Prop), (∀ (t10_1 : Int), cValX_1 Λ1 x (validX x) t10_1 → Λ1 t10_1) → cValX_0 Λ1 x (validX x)) : ConOK Go.Proofs.Try.prog 97 cValX := by
  refine lawL (Γ := [(125, cValLine)]) (Θ := Th) (n := 45) [([1, 1, 0, 1, 0], ⟨[(0, false), (8, false), (9, true), (10, true)], []⟩)] ⟨cValLine_ok, trivial⟩ (by kernel_rfl) th_ok mix_ok Go.Proofs.Try.func97 (by kernel_rfl) ?_
  intro x hw hp Λ hC
  have h0 := h x.1 hw (fun t10_1 => Λ [1, 1, 0, 1, 0] ([(0, .d false (.sl tEd) x.1), (8, .d false (.sl tEd) x.1), (9, .d true .int (List.length x.1 : Int)), (10, .d true .int t10_1)], [])) (fun t10_1 hb => hC [1, 1, 0, 1, 0] ([(0, .d false (.sl tEd) x.1), (8, .d false (.sl tEd) x.1), (9, .d true .int (List.length x.1 : Int)), (10, .d true .int t10_1)], []) (Eq.mpr (by kernel_rfl) hb))
  exact Eq.mpr (by kernel_rfl) h0
theorem cValX_ok : ConOK Go.Proofs.Try.prog 97 cValX := by
  refine cValX_law ?_
  intro x hw Λ1 h1
  unfold cValX_0
  by_cases h4 : x.length > 4
  · rw [if_pos (by simp; omega)]
    unfold validX
    rw [if_pos h4]; exact ⟨rfl, trivial⟩
  · rw [if_neg (by simp; omega)]
    have hv : validX x = argErr (okTo x x.length) := by unfold validX; rw [if_neg h4]
    have bad : ∀ i, i < x.length → edOK x i = false → 1 = validX x := fun i hi e => by rw [hv, okTo_false e _ hi]; rfl
    refine upto (n := x.length) (Q := fun i => okTo x i = true → Λ1 i) ?_ ?_ 0 (Nat.zero_le _) rfl
    · intro ha
      apply h1; unfold cValX_1; rw [if_neg (by simp), hv, ha]
      exact ⟨rfl, trivial⟩
    · intro i hi ih ha
      apply h1; unfold cValX_1; rw [if_pos (by simpa using hi), Int.toNat_natCast]
      refine ⟨idx_nat hi, ?_⟩
      have hb := bad i hi
      have ok : edOK x i = true → okTo x (i + 1) = true := fun e => by unfold okTo; rw [ha, e]; rfl
      unfold edOK at hb ok
      by_cases a1 : (x.getD i tEd.dflt).1 < 0
      · rw [if_pos (by simpa using a1)]
        exact ⟨rfl, rfl, rfl, hb (by rw [decide_eq_true a1]; rfl), trivial⟩
      rw [if_neg (by simpa using a1)]
      refine ⟨trivial, ?_⟩
      by_cases a2 : (x.getD i tEd.dflt).1 ≥ 8
      · rw [if_pos (by simpa using a2)]
        exact ⟨rfl, rfl, hb (by rw [decide_eq_true a2, Bool.or_true]; rfl), trivial⟩
      rw [if_neg (by simpa using a2)]
      have fin : (decide (i > 0) && decide ((x.getD (i - 1) tEd.dflt).1 ≥ (x.getD i tEd.dflt).1)) = false → (if (bif false then true else ((argErr (validLine ((x.getD i tEd.dflt).2.1))) != (0 : Int))) = true then ((1 : Int) = validX x ∧ True) else (inI ((i : Int) + (1 : Int)) ∧ Λ1 ((i : Int) + (1 : Int)))) := by
        intro e3
        cases a4 : validLine (x.getD i tEd.dflt).2.1
        · rw [if_pos (by rfl)]
          exact ⟨hb (by rw [a4]; simp), trivial⟩
        · rw [if_neg (by simp [argErr])]
          refine ⟨inI_succ hi (by omega), ih (ok ?_)⟩
          rw [a4, e3, decide_eq_false a1, decide_eq_false a2]; rfl
      by_cases a3 : i > 0
      · rw [if_pos (by simp; omega)]
        have e1 : ((i : Int) - 1).toNat = i - 1 := by omega
        rw [e1]
        refine ⟨by unfold inI; omega, ⟨by omega, by omega⟩, trivial, trivial, ?_⟩
        by_cases a5 : (x.getD (i - 1) tEd.dflt).1 ≥ (x.getD i tEd.dflt).1
        · rw [if_pos (by simpa using a5)]
          refine ⟨rfl, hb ?_, trivial⟩
          rw [decide_eq_true a3, decide_eq_true a5]; simp
        · rw [if_neg (by simpa using a5)]
          exact ⟨trivial, trivial, fin (by rw [decide_eq_false a5, Bool.and_false])⟩
      · rw [if_neg (by simp; omega)]
        refine ⟨rfl, trivial, ?_⟩
        rw [if_neg (by simp)]
        exact ⟨trivial, trivial, fin (by rw [decide_eq_false a3, Bool.false_and])⟩
abbrev cWithin7 : Con := { A := (.cons .int (.cons .int (.cons .int .nil))), R := (.cons .bool .nil), pre := fun x => True, F := fun x => (within x.1 x.2.1 x.2.2.1, ()) }
def cWithin7_0  (n : Int) (lo : Int) (hi : Int) (y0 : Bool) : Prop :=
  if (decide (n ≥ lo)) = true then (True ∧ ((bif true then (decide (n ≤ hi)) else false) = y0 ∧ True)) else (false = false ∧ (false = y0 ∧ True))
theorem cWithin7_law (h : ∀ (n : Int) (lo : Int) (hi : Int), cWithin7.A.wf (n, lo, hi, ()) → cWithin7_0  n lo hi (within n lo hi)) : ConOK Go.Proofs.Try.prog 101 cWithin7 := by
  refine lawL (Γ := []) (Θ := Th) (n := 15) [] trivial (by kernel_rfl) th_ok mix_ok Go.Proofs.Try.func101 (by kernel_rfl) ?_
  intro x hw hp Λ hC
  have h0 := h x.1 x.2.1 x.2.2.1 hw  
  exact Eq.mpr (by kernel_rfl) h0
theorem cWithin7_ok : ConOK Go.Proofs.Try.prog 101 cWithin7 := by
  refine cWithin7_law ?_
  intro n lo hi hw
  unfold cWithin7_0
  unfold within
  split <;> simp_all
  omega
abbrev cVal71 : Con := { A := (.cons tEd (.cons (.ref (.sl tL)) .nil)), R := (.cons .bool .nil), pre := fun x => True, F := fun x => (decide (x.1.1 ≥ (x.2.1.length : Int)), ()) }
def cVal71_0  (e : Edt) (c0 : (List Lin)) (y0 : Bool) : Prop :=
  (decide (e.1 ≥ (List.length c0 : Int))) = y0 ∧ True
theorem cVal71_law (h : ∀ (e : Edt) (c0 : (List Lin)), cVal71.A.wf (e, c0, ()) → cVal71_0  e c0 (decide (e.1 ≥ (c0.length : Int)))) : ConOK Go.Proofs.Try.prog 99 cVal71 := by
  refine lawL (Γ := []) (Θ := Th) (n := 9) [] trivial (by kernel_rfl) th_ok mix_ok Go.Proofs.Try.func99 (by kernel_rfl) ?_
  intro x hw hp Λ hC
  have h0 := h x.1 x.2.1 hw  
  exact Eq.mpr (by kernel_rfl) h0
theorem cVal71_ok : ConOK Go.Proofs.Try.prog 99 cVal71 := by
  refine cVal71_law ?_
  intro e c0 hw
  unfold cVal71_0
  exact ⟨rfl, trivial⟩
abbrev cIndexE : Con := { A := (.cons (.sl tEd) (.cons (.fn (.cons tEd .nil) (.cons .bool .nil)) .nil)), R := (.cons .int .nil), pre := fun x => ∀ r' ∈ x.1, x.2.1.1 (r', ()), F := fun x => (idxF (fun r' => (x.2.1.2 (r', ())).1) x.1, ()) }
def cIndexE_0 (Λ1 : Int → Prop) (s : (List Edt)) (f : (T.fn (.cons tEd .nil) (.cons .bool .nil)).den) (y0 : Int) : Prop :=
  Λ1 (0 : Int)
def cIndexE_1 (Λ1 : Int → Prop) (s : (List Edt)) (f : (T.fn (.cons tEd .nil) (.cons .bool .nil)).den) (y0 : Int)  (t8_1 : Int) : Prop :=
  if (decide (t8_1 < (List.length s : Int))) = true then (idx t8_1 (List.length s : Int) ∧ (f.1 ((List.getD s (Int.toNat t8_1) tEd.dflt), ()) ∧ (if ((f.2 ((List.getD s (Int.toNat t8_1) tEd.dflt), ())).1) = true then (t8_1 = y0 ∧ True) else (inI (t8_1 + (1 : Int)) ∧ Λ1 (t8_1 + (1 : Int)))))) else ((-1 : Int) = y0 ∧ True)
theorem cIndexE_law (h : ∀ (s : (List Edt)) (f : (T.fn (.cons tEd .nil) (.cons .bool .nil)).den), cIndexE.A.wf (s, f, ()) → (∀ r' ∈ s, f.1 (r', ())) → ∀ (Λ1 : Int → Prop), (∀ (t8_1 : Int), cIndexE_1 Λ1 s f (idxF (fun r' => (f.2 (r', ())).1) s) t8_1 → Λ1 t8_1) → cIndexE_0 Λ1 s f (idxF (fun r' => (f.2 (r', ())).1) s)) : ConOK Go.Proofs.Try.prog 141 cIndexE := by
  refine lawL (Γ := []) (Θ := Th) (n := 19) [([1, 0, 1, 0], ⟨[(0, false), (1, false), (7, true), (8, true)], []⟩)] trivial (by kernel_rfl) th_ok mix_ok Go.Proofs.Try.func141 (by kernel_rfl) ?_
  intro x hw hp Λ hC
  have h0 := h x.1 x.2.1 hw hp (fun t8_1 => Λ [1, 0, 1, 0] ([(0, .d false (.sl tEd) x.1), (1, .d false (.fn (.cons tEd .nil) (.cons .bool .nil)) x.2.1), (7, .d true .int (List.length x.1 : Int)), (8, .d true .int t8_1)], [])) (fun t8_1 hb => hC [1, 0, 1, 0] ([(0, .d false (.sl tEd) x.1), (1, .d false (.fn (.cons tEd .nil) (.cons .bool .nil)) x.2.1), (7, .d true .int (List.length x.1 : Int)), (8, .d true .int t8_1)], []) (Eq.mpr (by kernel_rfl) hb))
  exact Eq.mpr (by kernel_rfl) h0
theorem cIndexE_ok : ConOK Go.Proofs.Try.prog 141 cIndexE := by
  refine cIndexE_law ?_
  intro s f hw hp Λ1 h1
  unfold cIndexE_0
  refine upto (n := s.length) (Q := fun i => (s.take i).any (fun r => (f.2 (r, ())).1) = false → Λ1 i) ?_ ?_ 0 (Nat.zero_le _) rfl
  · intro ha
    rw [List.take_length] at ha
    apply h1; unfold cIndexE_1; rw [if_neg (by simp), idxF_none ha]
    exact ⟨rfl, trivial⟩
  · intro i hi ih ha
    apply h1; unfold cIndexE_1; rw [if_pos (by simpa using hi), Int.toNat_natCast]
    refine ⟨idx_nat hi, hp _ (mem_getD hi), ?_⟩
    cases hv : (f.2 (List.getD s i tEd.dflt, ())).1
    · rw [if_neg (by simp)]
      exact ⟨inI_succ hi hw.1.1, ih (any_take_next (p := fun r => (f.2 (r, ())).1) tEd.dflt hi ha hv)⟩
    · rw [if_pos (by rfl), idxF_at (p := fun r => (f.2 (r, ())).1) tEd.dflt hi ha hv]
      exact ⟨rfl, trivial⟩
abbrev cContE : Con := { A := (.cons (.sl tEd) (.cons (.fn (.cons tEd .nil) (.cons .bool .nil)) .nil)), R := (.cons .bool .nil), pre := fun x => ∀ r' ∈ x.1, x.2.1.1 (r', ()), F := fun x => (x.1.any (fun r' => (x.2.1.2 (r', ())).1), ()) }
def cContE_0  (s : (List Edt)) (f : (T.fn (.cons tEd .nil) (.cons .bool .nil)).den) (y0 : Bool) : Prop :=
  (∀ r' ∈ s, f.1 (r', ())) ∧ ((decide ((idxF (fun r' => (f.2 (r', ())).1) s) ≥ (0 : Int))) = y0 ∧ True)
theorem cContE_law (h : ∀ (s : (List Edt)) (f : (T.fn (.cons tEd .nil) (.cons .bool .nil)).den), cContE.A.wf (s, f, ()) → (∀ r' ∈ s, f.1 (r', ())) → cContE_0  s f (s.any (fun r' => (f.2 (r', ())).1))) : ConOK Go.Proofs.Try.prog 98 cContE := by
  refine lawL (Γ := [(141, cIndexE)]) (Θ := Th) (n := 9) [] ⟨cIndexE_ok, trivial⟩ (by kernel_rfl) th_ok mix_ok Go.Proofs.Try.func98 (by kernel_rfl) ?_
  intro x hw hp Λ hC
  have h0 := h x.1 x.2.1 hw hp  
  exact Eq.mpr (by kernel_rfl) h0
theorem cContE_ok : ConOK Go.Proofs.Try.prog 98 cContE := by
  refine cContE_law ?_
  intro s f hw hp
  unfold cContE_0
  exact ⟨hp, idxF_any _ _, trivial⟩
abbrev cVal7 : Con := { A := (.cons (.sl tL) (.cons (.sl (.sl tEd)) .nil)), R := (.cons .int .nil), pre := fun x => True, F := fun x => (err7 x.1 x.2.1, ()) }
def cVal7_0 (Λ1 : Int → Prop) (p : (List Lin)) (h : (List (List Edt))) (y0 : Int) : Prop :=
  True ∧ (if ((validP p) != (0 : Int)) = true then ((validP p) = y0 ∧ True) else (if (decide ((List.length h : Int) > (8 : Int))) = true then ((3 : Int) = y0 ∧ True) else Λ1 (0 : Int)))
def cVal7_1 (Λ1 : Int → Prop) (p : (List Lin)) (h : (List (List Edt))) (y0 : Int)  (t19_1 : Int) : Prop :=
  if (decide (t19_1 < (List.length h : Int))) = true then (idx t19_1 (List.length h : Int) ∧ (True ∧ (if ((validX (List.getD h (Int.toNat t19_1) ([] : List Edt))) != (0 : Int)) = true then ((validX (List.getD h (Int.toNat t19_1) ([] : List Edt))) = y0 ∧ True) else ((∀ r' ∈ (List.getD h (Int.toNat t19_1) ([] : List Edt)), (fun (xx : (Edt × Unit)) => True, fun (xx : (Edt × Unit)) => (decide (xx.1.1 ≥ (p.length : Int)), ())).1 (r', ())) ∧ (if ((List.getD h (Int.toNat t19_1) ([] : List Edt)).any (fun r' => ((fun (xx : (Edt × Unit)) => True, fun (xx : (Edt × Unit)) => (decide (xx.1.1 ≥ (p.length : Int)), ())).2 (r', ())).1)) = true then ((4 : Int) = y0 ∧ True) else (inI (t19_1 + (1 : Int)) ∧ Λ1 (t19_1 + (1 : Int)))))))) else ((0 : Int) = y0 ∧ True)
theorem cVal7_law (h : ∀ (p : (List Lin)) (h : (List (List Edt))), cVal7.A.wf (p, h, ()) → ∀ (Λ1 : Int → Prop), (∀ (t19_1 : Int), cVal7_1 Λ1 p h (err7 p h) t19_1 → Λ1 t19_1) → cVal7_0 Λ1 p h (err7 p h)) : ConOK Go.Proofs.Try.prog 36 cVal7 := by
  refine lawX (X := { subs := [], frz := [2], U := [], mul := [], nst := [], nls := [], itf := none, inp := [], arrs := [] }) (hX := xok0 _ trivial) (Γ := [(98, cContE), (99, cVal71), (68, cValP), (97, cValX)]) (Θ := Th) (n := 32) [([1, 1, 1, 0, 1, 0], ⟨[(2, false), (17, false), (18, true), (19, true)], []⟩)] ⟨cContE_ok, cVal71_ok, cValP_ok, cValX_ok, trivial⟩ (by kernel_rfl) th_ok mix_ok Go.Proofs.Try.func36 (by kernel_rfl) ?_
  intro x hw hp Λ hC
  have h0 := h x.1 x.2.1 hw (fun t19_1 => Λ [1, 1, 1, 0, 1, 0] ([(2, .ept false (.sl tL) x.1), (17, .d false (.sl (.sl tEd)) x.2.1), (18, .d true .int (List.length x.2.1 : Int)), (19, .d true .int t19_1)], [])) (fun t19_1 hb => hC [1, 1, 1, 0, 1, 0] ([(2, .ept false (.sl tL) x.1), (17, .d false (.sl (.sl tEd)) x.2.1), (18, .d true .int (List.length x.2.1 : Int)), (19, .d true .int t19_1)], []) (Eq.mpr (by kernel_rfl) hb))
  exact Eq.mpr (by kernel_rfl) h0
theorem cVal7_ok : ConOK Go.Proofs.Try.prog 36 cVal7 := by
  refine cVal7_law ?_
  intro p h hw Λ1 h1
  unfold cVal7_0
  refine ⟨trivial, ?_⟩
  by_cases hv : validP p = 0
  · rw [if_neg (by simp [hv])]
    by_cases h8 : h.length > 8
    · rw [if_pos (by simp; omega)]
      unfold err7
      rw [if_pos hv, if_pos h8]; exact ⟨rfl, trivial⟩
    · rw [if_neg (by simp; omega)]
      have he : err7 p h = errH p.length h := by unfold err7; rw [if_pos hv, if_neg h8]
      have key : ∀ n i, i + n = h.length → errH p.length h = errH p.length (h.drop i) → Λ1 (i : Int) := by
        intro n
        induction n with
        | zero =>
          intro i hi e
          apply h1; unfold cVal7_1
          rw [if_neg (by simp; omega)]
          rw [List.drop_eq_nil_of_le (by omega)] at e
          exact ⟨by rw [he, e]; rfl, trivial⟩
        | succ n ih =>
          intro i hi e
          have hl : i < h.length := by omega
          apply h1; unfold cVal7_1
          rw [if_pos (by simpa using hl), Int.toNat_natCast]
          have hd : h.drop i = h.getD i [] :: h.drop (i + 1) := by
            rw [List.drop_eq_getElem_cons hl]; simp [List.getD_eq_getElem?_getD, hl]
          rw [hd, errH] at e
          refine ⟨idx_nat hl, trivial, ?_⟩
          by_cases g : validX (h.getD i []) = 0
          · rw [if_pos g] at e
            rw [if_neg (by simpa using g)]
            refine ⟨fun _ _ => trivial, ?_⟩
            show if far p.length (h.getD i []) = true then _ else _
            by_cases f : far p.length (h.getD i []) = true
            · rw [if_pos f] at e ⊢
              exact ⟨by rw [he, e], trivial⟩
            · rw [if_neg f] at e ⊢
              exact ⟨inI_succ hl (by omega), ih (i + 1) (by omega) e⟩
          · rw [if_neg g] at e
            rw [if_pos (by simpa using g), he, e]
            exact ⟨rfl, trivial⟩
      exact key h.length 0 (by omega) rfl
  · rw [if_pos (by simpa using hv)]
    unfold err7
    rw [if_neg hv]; exact ⟨rfl, trivial⟩
abbrev cCloneL : Con := { A := (.cons (.sl tL) .nil), R := (.cons (.osl tL) .nil), pre := fun x => x.1.length ≤ 1000000, F := fun x => (x.1, ()) }
def cCloneL_0  (s : (List Lin)) (y0 : (List Lin)) : Prop :=
  (s = [] → ([] : List Lin) = y0) ∧ (True → (List.length ([] : List Lin) + List.length s ≤ 4294967296 ∧ (([] : List Lin) ++ s) = y0))
theorem cCloneL_law (h : ∀ (s : (List Lin)), cCloneL.A.wf (s, ()) → (s.length ≤ 1000000) → cCloneL_0  s s) : ConOK Go.Proofs.Try.prog 126 cCloneL := by
  refine lawL (Γ := []) (Θ := Th) (n := 8) [] trivial (by kernel_rfl) th_ok mix_ok Go.Proofs.Try.func126 (by kernel_rfl) ?_
  intro x hw hp Λ hC
  have h0 := h x.1 hw hp  
  exact Eq.mpr (by kernel_rfl) h0
theorem cCloneL_ok : ConOK Go.Proofs.Try.prog 126 cCloneL := by
  refine cCloneL_law ?_
  intro s hw hp
  unfold cCloneL_0
  exact ⟨fun h => h.symm, fun _ => ⟨by simp only [List.length_nil]; omega, by simp⟩⟩
abbrev cPlay0 : Con := { A := (.cons (.sl tL) (.cons (.sl (.sl tEd)) .nil)), R := (.cons (.osl tL) .nil), pre := fun x => okH x.1.length x.2.1 ∧ x.1.length ≤ 8, F := fun x => (playH x.1 x.2.1, ()) }
def cPlay0_0 (Λ1 : Int → (List Lin) → Prop) (Λ2 : Int → Int → (List Lin) → Prop) (p : (List Lin)) (h : (List (List Edt))) (y0 : (List Lin)) : Prop :=
  p.length ≤ 1000000 ∧ Λ1 (0 : Int) p
def cPlay0_1 (Λ1 : Int → (List Lin) → Prop) (Λ2 : Int → Int → (List Lin) → Prop) (p : (List Lin)) (h : (List (List Edt))) (y0 : (List Lin))  (t14_1 : Int) (out_1 : (List Lin)) : Prop :=
  if (decide (t14_1 < (List.length h : Int))) = true then (idx t14_1 (List.length h : Int) ∧ Λ2 t14_1 (0 : Int) out_1) else out_1 = y0
def cPlay0_2 (Λ1 : Int → (List Lin) → Prop) (Λ2 : Int → Int → (List Lin) → Prop) (p : (List Lin)) (h : (List (List Edt))) (y0 : (List Lin)) (t14_1 : Int) (t20_2 : Int) (out_2 : (List Lin)) : Prop :=
  if (decide (t20_2 < (List.length (List.getD h (Int.toNat t14_1) ([] : List Edt)) : Int))) = true then (idx t20_2 (List.length (List.getD h (Int.toNat t14_1) ([] : List Edt)) : Int) ∧ (idx ((List.getD (List.getD h (Int.toNat t14_1) ([] : List Edt)) (Int.toNat t20_2) tEd.dflt).1) (List.length out_2 : Int) ∧ (inI (t20_2 + (1 : Int)) ∧ Λ2 t14_1 (t20_2 + (1 : Int)) (List.set out_2 (Int.toNat ((List.getD (List.getD h (Int.toNat t14_1) ([] : List Edt)) (Int.toNat t20_2) tEd.dflt).1)) ((List.getD (List.getD h (Int.toNat t14_1) ([] : List Edt)) (Int.toNat t20_2) tEd.dflt).2.1))))) else (inI (t14_1 + (1 : Int)) ∧ Λ1 (t14_1 + (1 : Int)) out_2)
theorem cPlay0_law (h : ∀ (p : (List Lin)) (h : (List (List Edt))), cPlay0.A.wf (p, h, ()) → (okH p.length h ∧ p.length ≤ 8) → ∀ (Λ1 : Int → (List Lin) → Prop) (Λ2 : Int → Int → (List Lin) → Prop), (∀ (t14_1 : Int) (out_1 : (List Lin)), cPlay0_1 Λ1 Λ2 p h (playH p h) t14_1 out_1 → Λ1 t14_1 out_1) → (∀ (t14_1 : Int) (t20_2 : Int) (out_2 : (List Lin)), cPlay0_2 Λ1 Λ2 p h (playH p h) t14_1 t20_2 out_2 → Λ2 t14_1 t20_2 out_2) → cPlay0_0 Λ1 Λ2 p h (playH p h)) : ConOK Go.Proofs.Try.prog 96 cPlay0 := by
  refine lawL (Γ := [(126, cCloneL)]) (Θ := Th) (n := 33) [([1, 1, 0, 1, 0], ⟨[(5, true), (12, false), (13, true), (14, true)], [(11, true)]⟩), ([1, 1, 0, 1, 0, 0, 1, 1, 0, 0, 1, 1, 0], ⟨[(5, true), (12, false), (13, true), (14, true), (18, false), (19, true), (20, true)], [(11, true)]⟩)] ⟨cCloneL_ok, trivial⟩ (by kernel_rfl) th_ok mix_ok Go.Proofs.Try.func96 (by kernel_rfl) ?_
  intro x hw hp Λ hC
  have h0 := h x.1 x.2.1 hw hp (fun t14_1 out_1 => Λ [1, 1, 0, 1, 0] ([(5, .own 11 0), (12, .d false (.sl (.sl tEd)) x.2.1), (13, .d true .int (List.length x.2.1 : Int)), (14, .d true .int t14_1)], [(11, .sl true tL out_1)])) (fun t14_1 t20_2 out_2 => Λ [1, 1, 0, 1, 0, 0, 1, 1, 0, 0, 1, 1, 0] ([(5, .own 11 0), (12, .d false (.sl (.sl tEd)) x.2.1), (13, .d true .int (List.length x.2.1 : Int)), (14, .d true .int t14_1), (18, .d false (.sl tEd) (List.getD x.2.1 (Int.toNat t14_1) ([] : List Edt))), (19, .d true .int (List.length (List.getD x.2.1 (Int.toNat t14_1) ([] : List Edt)) : Int)), (20, .d true .int t20_2)], [(11, .sl true tL out_2)])) (fun t14_1 out_1 hb => hC [1, 1, 0, 1, 0] ([(5, .own 11 0), (12, .d false (.sl (.sl tEd)) x.2.1), (13, .d true .int (List.length x.2.1 : Int)), (14, .d true .int t14_1)], [(11, .sl true tL out_1)]) (Eq.mpr (by kernel_rfl) hb)) (fun t14_1 t20_2 out_2 hb => hC [1, 1, 0, 1, 0, 0, 1, 1, 0, 0, 1, 1, 0] ([(5, .own 11 0), (12, .d false (.sl (.sl tEd)) x.2.1), (13, .d true .int (List.length x.2.1 : Int)), (14, .d true .int t14_1), (18, .d false (.sl tEd) (List.getD x.2.1 (Int.toNat t14_1) ([] : List Edt))), (19, .d true .int (List.length (List.getD x.2.1 (Int.toNat t14_1) ([] : List Edt)) : Int)), (20, .d true .int t20_2)], [(11, .sl true tL out_2)]) (Eq.mpr (by kernel_rfl) hb))
  exact Eq.mpr (by kernel_rfl) h0
theorem cPlay0_ok : ConOK Go.Proofs.Try.prog 96 cPlay0 := by
  refine cPlay0_law ?_
  intro p h hw hp Λ1 Λ2 h1 h2
  unfold cPlay0_0
  obtain ⟨p1, p2⟩ := hp
  refine ⟨by omega, ?_⟩
  have hlh : h.length ≤ 140737488355328 := hw.2.1.1
  refine upto (n := h.length) (Q := fun i => Λ1 (i : Int) (playH p (h.take i))) ?_ ?_ 0 (Nat.zero_le _)
  · apply h1; unfold cPlay0_1; rw [if_neg (by simp), List.take_length]
  · intro i hi ih
    apply h1; unfold cPlay0_1; rw [if_pos (by simpa using hi)]
    refine ⟨idx_nat hi, ?_⟩
    rw [playH_take p h hi] at ih
    have hm : List.getD h i [] ∈ h := mem_getD hi
    have hx := p1 _ hm
    have hlx : (List.getD h i []).length ≤ 140737488355328 := (hw.2.1.2 _ hm).1
    refine upto (n := (List.getD h i []).length) (Q := fun j => Λ2 (i : Int) (j : Int) (playX (playH p (h.take i)) ((List.getD h i []).take j))) ?_ ?_ 0 (Nat.zero_le _)
    · apply h2; unfold cPlay0_2
      rw [Int.toNat_natCast, if_neg (by simp), List.take_length]
      exact ⟨inI_succ hi hlh, ih⟩
    · intro j hj ihj
      rw [playX_take _ _ hj] at ihj
      have he := hx _ (mem_getD (d := tEd.dflt) hj)
      apply h2; unfold cPlay0_2
      rw [Int.toNat_natCast, Int.toNat_natCast, if_pos (by simpa using hj)]
      exact ⟨idx_nat hj, ⟨he.1, by rw [playX_len, playH_len]; exact he.2⟩, inI_succ hj hlx, ihj⟩
abbrev cPlay : Con := { A := (.cons (.sl tL) (.cons (.sl (.sl tEd)) .nil)), R := (.cons (.osl tL) (.cons .int .nil)), pre := fun x => True, F := fun x => ((if err7 x.1 x.2.1 = 0 then playH x.1 x.2.1 else []), err7 x.1 x.2.1, ()) }
def cPlay_0  (p : (List Lin)) (h : (List (List Edt))) (y0 : (List Lin)) (y1 : Int) : Prop :=
  True ∧ (if ((err7 p h) != (0 : Int)) = true then ((err7 p h) = y1 ∧ ([] : List Lin) = y0) else ((okH p.length h ∧ p.length ≤ 8) ∧ ((0 : Int) = y1 ∧ (playH p h) = y0)))
theorem cPlay_law (h : ∀ (p : (List Lin)) (h : (List (List Edt))), cPlay.A.wf (p, h, ()) → cPlay_0  p h (if err7 p h = 0 then playH p h else []) (err7 p h)) : ConOK Go.Proofs.Try.prog 35 cPlay := by
  refine lawL (Γ := [(96, cPlay0), (36, cVal7)]) (Θ := Th) (n := 16) [] ⟨cPlay0_ok, cVal7_ok, trivial⟩ (by kernel_rfl) th_ok mix_ok Go.Proofs.Try.func35 (by kernel_rfl) ?_
  intro x hw hp Λ hC
  have h0 := h x.1 x.2.1 hw  
  exact Eq.mpr (by kernel_rfl) h0
theorem cPlay_ok : ConOK Go.Proofs.Try.prog 35 cPlay := by
  refine cPlay_law ?_
  intro p h hw
  unfold cPlay_0
  refine ⟨trivial, ?_⟩
  by_cases e : err7 p h = 0
  · rw [if_neg (by simp [e]), if_pos e]
    obtain ⟨e1, e2, e3, e4⟩ := err7_ok e
    exact ⟨⟨e3, (validP_ok e1).1⟩, e.symm, rfl⟩
  · rw [if_pos (by simpa using e), if_neg e]
    exact ⟨rfl, rfl⟩
abbrev cFirst : Con := { A := (.cons (.sl (.sl tEd)) (.cons .int .nil)), R := (.cons (.sl (.sl tEd)) .nil), pre := fun x => 0 ≤ x.2.1 ∧ x.2.1 ≤ (x.1.length : Int), F := fun x => (x.1.take (Int.toNat x.2.1), ()), al := true }
def cFirst_0  (h : (List (List Edt))) (n : Int) (y0 : (List (List Edt))) : Prop :=
  (0 ≤ (0 : Int) ∧ (0 : Int) ≤ n ∧ n ≤ n ∧ n ≤ (List.length h : Int)) ∧ ((List.drop (Int.toNat (0 : Int)) (List.take (Int.toNat n) h)) = y0 ∧ True)
theorem cFirst_law (h : ∀ (h : (List (List Edt))) (n : Int), cFirst.A.wf (h, n, ()) → (0 ≤ n ∧ n ≤ (h.length : Int)) → cFirst_0  h n (h.take (Int.toNat n))) : ConOK Go.Proofs.Try.prog 104 cFirst := by
  refine lawL (Γ := []) (Θ := Th) (n := 9) [] trivial (by kernel_rfl) th_ok mix_ok Go.Proofs.Try.func104 (by kernel_rfl) ?_
  intro x hw hp Λ hC
  have h0 := h x.1 x.2.1 hw hp  
  exact Eq.mpr (by kernel_rfl) h0
theorem cFirst_ok : ConOK Go.Proofs.Try.prog 104 cFirst := by
  refine cFirst_law ?_
  intro h n hw hp
  unfold cFirst_0
  obtain ⟨p1, p2⟩ := hp
  exact ⟨⟨by omega, p1, by omega, p2⟩, by simp, trivial⟩
abbrev cAt7 : Con := { A := (.cons (.sl tL) (.cons (.sl (.sl tEd)) (.cons .int .nil))), R := (.cons (.osl tL) (.cons .int .nil)), pre := fun x => True, F := fun x => ((if err7 x.1 x.2.1 = 0 ∧ within x.2.2.1 0 (x.2.1.length : Int) = true then playH x.1 (x.2.1.take (Int.toNat x.2.2.1)) else []), (if err7 x.1 x.2.1 = 0 then argErr (within x.2.2.1 0 (x.2.1.length : Int)) else err7 x.1 x.2.1), ()) }
def cAt7_0  (p : (List Lin)) (h : (List (List Edt))) (n : Int) (y0 : (List Lin)) (y1 : Int) : Prop :=
  True ∧ (if ((err7 p h) != (0 : Int)) = true then ((err7 p h) = y1 ∧ ([] : List Lin) = y0) else (True ∧ (if (!(within n (0 : Int) (List.length h : Int))) = true then ((1 : Int) = y1 ∧ ([] : List Lin) = y0) else ((0 ≤ n ∧ n ≤ (h.length : Int)) ∧ ((okH p.length (h.take (Int.toNat n)) ∧ p.length ≤ 8) ∧ ((0 : Int) = y1 ∧ (playH p (h.take (Int.toNat n))) = y0))))))
theorem cAt7_law (h : ∀ (p : (List Lin)) (h : (List (List Edt))) (n : Int), cAt7.A.wf (p, h, n, ()) → cAt7_0  p h n (if err7 p h = 0 ∧ within n 0 (h.length : Int) = true then playH p (h.take (Int.toNat n)) else []) (if err7 p h = 0 then argErr (within n 0 (h.length : Int)) else err7 p h)) : ConOK Go.Proofs.Try.prog 41 cAt7 := by
  refine lawL (Γ := [(104, cFirst), (96, cPlay0), (36, cVal7), (101, cWithin7)]) (Θ := Th) (n := 25) [] ⟨cFirst_ok, cPlay0_ok, cVal7_ok, cWithin7_ok, trivial⟩ (by kernel_rfl) th_ok mix_ok Go.Proofs.Try.func41 (by kernel_rfl) ?_
  intro x hw hp Λ hC
  have h0 := h x.1 x.2.1 x.2.2.1 hw  
  exact Eq.mpr (by kernel_rfl) h0
theorem cAt7_ok : ConOK Go.Proofs.Try.prog 41 cAt7 := by
  refine cAt7_law ?_
  intro p h n hw
  unfold cAt7_0
  refine ⟨trivial, ?_⟩
  by_cases e : err7 p h = 0
  · rw [if_neg (by simp [e]), if_pos e]
    refine ⟨trivial, ?_⟩
    obtain ⟨e1, e2, e3, e4⟩ := err7_ok e
    cases hL : within n 0 (h.length : Int)
    · rw [if_pos (by rfl), if_neg (by simp)]; exact ⟨rfl, rfl⟩
    · have hr := within_iff.1 hL
      rw [if_neg (by simp), if_pos ⟨e, rfl⟩]
      exact ⟨hr, ⟨fun x hx => e3 x (List.mem_of_mem_take hx), (validP_ok e1).1⟩, rfl, rfl⟩
  · rw [if_pos (by simpa using e), if_neg e, if_neg (fun q => e q.1)]
    exact ⟨rfl, rfl⟩
end Go.Tk
set_option linter.unusedSimpArgs false
set_option linter.unusedVariables false
set_option linter.unnecessarySimpa false
namespace Go.Tk
open Go Go.RowKit

def sP : List Lin := [(1, 0, 9, 0, ()), (1, 1, 9, 0, ())]
def sO : Edt := (0, (1, 0, 1, 0, ()), ())
def sT : Edt := (1, (1, 1, 2, 0, ()), ())
def sH : List (List Edt) := [[sO], [sT], [sO, sT]]
def touchB (h : List (List Edt)) (a b : Int) : Bool := (h.getD a.toNat []).any fun x => (h.getD b.toNat []).any fun y => x.1 == y.1
def dirTo (h : List (List Edt)) (n : Int) : Nat → List Int
  | 0 => []
  | k + 1 => dirTo h n k ++ if touchB h k n = true then [(k : Int)] else []

abbrev cTouch11 : Con := { A := (.cons tEd (.cons (.ref tEd) .nil)), R := (.cons .bool .nil), pre := fun x => True, F := fun x => ((x.2.1.1 == x.1.1), ()) }
def cTouch11_0  (y_ : Edt) (c0 : Edt) (y0 : Bool) : Prop :=
  (c0.1 == y_.1) = y0 ∧ True
theorem cTouch11_law (h : ∀ (y_ : Edt) (c0 : Edt), cTouch11.A.wf (y_, c0, ()) → cTouch11_0  y_ c0 (c0.1 == y_.1)) : ConOK Go.Proofs.Try.prog 176 cTouch11 := by
  refine lawL (Γ := []) (Θ := Th) (n := 9) [] trivial (by kernel_rfl) th_ok mix_ok Go.Proofs.Try.func176 (by kernel_rfl) ?_
  intro x hw hp Λ hC
  have h0 := h x.1 x.2.1 hw  
  exact Eq.mpr (by kernel_rfl) h0
theorem cTouch11_ok : ConOK Go.Proofs.Try.prog 176 cTouch11 := by
  refine cTouch11_law ?_
  intro y_ c0 hw
  unfold cTouch11_0
  exact ⟨rfl, trivial⟩
abbrev cTouch1 : Con := { A := (.cons tEd (.cons (.ref (.sl (.sl tEd))) (.cons (.ref .int) .nil))), R := (.cons .bool .nil), pre := fun x => 0 ≤ x.2.2.1 ∧ x.2.2.1 < (x.2.1.length : Int), F := fun x => ((List.getD x.2.1 (Int.toNat x.2.2.1) []).any (fun y' => x.1.1 == y'.1), ()) }
def cTouch1_0  (x : Edt) (c0 : (List (List Edt))) (c1 : Int) (y0 : Bool) : Prop :=
  idx c1 (List.length c0 : Int) ∧ ((∀ r' ∈ (List.getD c0 (Int.toNat c1) ([] : List Edt)), (fun (xx : (Edt × Unit)) => True, fun (xx : (Edt × Unit)) => ((x.1 == xx.1.1), ())).1 (r', ())) ∧ (((List.getD c0 (Int.toNat c1) ([] : List Edt)).any (fun r' => ((fun (xx : (Edt × Unit)) => True, fun (xx : (Edt × Unit)) => ((x.1 == xx.1.1), ())).2 (r', ())).1)) = y0 ∧ True))
theorem cTouch1_law (h : ∀ (x : Edt) (c0 : (List (List Edt))) (c1 : Int), cTouch1.A.wf (x, c0, c1, ()) → (0 ≤ c1 ∧ c1 < (c0.length : Int)) → cTouch1_0  x c0 c1 ((List.getD c0 (Int.toNat c1) []).any (fun y' => x.1 == y'.1))) : ConOK Go.Proofs.Try.prog 175 cTouch1 := by
  refine lawX (X := { subs := [], frz := [3], U := [], mul := [], nst := [], nls := [], itf := none, inp := [], arrs := [] }) (hX := xok0 _ trivial) (Γ := [(98, cContE), (176, cTouch11)]) (Θ := Th) (n := 11) [] ⟨cContE_ok, cTouch11_ok, trivial⟩ (by kernel_rfl) th_ok mix_ok Go.Proofs.Try.func175 (by kernel_rfl) ?_
  intro x hw hp Λ hC
  have h0 := h x.1 x.2.1 x.2.2.1 hw hp  
  exact Eq.mpr (by kernel_rfl) h0
theorem cTouch1_ok : ConOK Go.Proofs.Try.prog 175 cTouch1 := by
  refine cTouch1_law ?_
  intro x c0 c1 hw hp
  unfold cTouch1_0
  exact ⟨⟨hp.1, hp.2⟩, fun _ _ => trivial, rfl, trivial⟩
abbrev cTouch : Con := { A := (.cons (.sl (.sl tEd)) (.cons .int (.cons .int .nil))), R := (.cons .bool .nil), pre := fun x => 0 ≤ x.2.1 ∧ x.2.1 < (x.1.length : Int) ∧ 0 ≤ x.2.2.1 ∧ x.2.2.1 < (x.1.length : Int), F := fun x => (touchB x.1 x.2.1 x.2.2.1, ()) }
def cTouch_0  (h : (List (List Edt))) (a : Int) (b : Int) (y0 : Bool) : Prop :=
  idx a (List.length h : Int) ∧ ((∀ r' ∈ (List.getD h (Int.toNat a) ([] : List Edt)), (fun (xx : (Edt × Unit)) => 0 ≤ b ∧ b < (h.length : Int), fun (xx : (Edt × Unit)) => ((List.getD h (Int.toNat b) []).any (fun y' => xx.1.1 == y'.1), ())).1 (r', ())) ∧ (((List.getD h (Int.toNat a) ([] : List Edt)).any (fun r' => ((fun (xx : (Edt × Unit)) => 0 ≤ b ∧ b < (h.length : Int), fun (xx : (Edt × Unit)) => ((List.getD h (Int.toNat b) []).any (fun y' => xx.1.1 == y'.1), ())).2 (r', ())).1)) = y0 ∧ True))
theorem cTouch_law (h : ∀ (h : (List (List Edt))) (a : Int) (b : Int), cTouch.A.wf (h, a, b, ()) → (0 ≤ a ∧ a < (h.length : Int) ∧ 0 ≤ b ∧ b < (h.length : Int)) → cTouch_0  h a b (touchB h a b)) : ConOK Go.Proofs.Try.prog 168 cTouch := by
  refine lawX (X := { subs := [], frz := [3, 5], U := [], mul := [], nst := [], nls := [], itf := none, inp := [], arrs := [] }) (hX := xok0 _ trivial) (Γ := [(98, cContE), (175, cTouch1)]) (Θ := Th) (n := 13) [] ⟨cContE_ok, cTouch1_ok, trivial⟩ (by kernel_rfl) th_ok mix_ok Go.Proofs.Try.func168 (by kernel_rfl) ?_
  intro x hw hp Λ hC
  have h0 := h x.1 x.2.1 x.2.2.1 hw hp  
  exact Eq.mpr (by kernel_rfl) h0
theorem cTouch_ok : ConOK Go.Proofs.Try.prog 168 cTouch := by
  refine cTouch_law ?_
  intro h a b hw hp
  unfold cTouch_0
  obtain ⟨p1, p2, p3, p4⟩ := hp
  exact ⟨⟨p1, p2⟩, fun _ _ => ⟨p3, p4⟩, rfl, trivial⟩
abbrev cDirect0 : Con := { A := (.cons (.sl (.sl tEd)) (.cons .int .nil)), R := (.cons (.osl .int) .nil), pre := fun x => 0 ≤ x.2.1 ∧ x.2.1 < (x.1.length : Int) ∧ x.1.length ≤ 8, F := fun x => (dirTo x.1 x.2.1 (Int.toNat x.2.1), ()) }
def cDirect0_0 (Λ1 : Int → (List Int) → Prop) (h : (List (List Edt))) (n : Int) (y0 : (List Int)) : Prop :=
  Λ1 (0 : Int) ([] : List Int)
def cDirect0_1 (Λ1 : Int → (List Int) → Prop) (h : (List (List Edt))) (n : Int) (y0 : (List Int))  (t8_1 : Int) (out_1 : (List Int)) : Prop :=
  if (decide (t8_1 < n)) = true then ((0 ≤ t8_1 ∧ t8_1 < (h.length : Int) ∧ 0 ≤ n ∧ n < (h.length : Int)) ∧ (if (touchB h t8_1 n) = true then (List.length out_1 + List.length [t8_1] ≤ 4294967296 ∧ (inI (t8_1 + (1 : Int)) ∧ Λ1 (t8_1 + (1 : Int)) (out_1 ++ [t8_1]))) else (inI (t8_1 + (1 : Int)) ∧ Λ1 (t8_1 + (1 : Int)) out_1))) else out_1 = y0
theorem cDirect0_law (h : ∀ (h : (List (List Edt))) (n : Int), cDirect0.A.wf (h, n, ()) → (0 ≤ n ∧ n < (h.length : Int) ∧ h.length ≤ 8) → ∀ (Λ1 : Int → (List Int) → Prop), (∀ (t8_1 : Int) (out_1 : (List Int)), cDirect0_1 Λ1 h n (dirTo h n (Int.toNat n)) t8_1 out_1 → Λ1 t8_1 out_1) → cDirect0_0 Λ1 h n (dirTo h n (Int.toNat n))) : ConOK Go.Proofs.Try.prog 139 cDirect0 := by
  refine lawL (Γ := [(168, cTouch)]) (Θ := Th) (n := 21) [([1, 1, 0, 1, 0], ⟨[(0, false), (1, false), (5, true), (7, false), (8, true)], [(5, true)]⟩)] ⟨cTouch_ok, trivial⟩ (by kernel_rfl) th_ok mix_ok Go.Proofs.Try.func139 (by kernel_rfl) ?_
  intro x hw hp Λ hC
  have h0 := h x.1 x.2.1 hw hp (fun t8_1 out_1 => Λ [1, 1, 0, 1, 0] ([(0, .d false (.sl (.sl tEd)) x.1), (1, .d false .int x.2.1), (5, .own 5 0), (7, .d false .int x.2.1), (8, .d true .int t8_1)], [(5, .sl true .int out_1)])) (fun t8_1 out_1 hb => hC [1, 1, 0, 1, 0] ([(0, .d false (.sl (.sl tEd)) x.1), (1, .d false .int x.2.1), (5, .own 5 0), (7, .d false .int x.2.1), (8, .d true .int t8_1)], [(5, .sl true .int out_1)]) (Eq.mpr (by kernel_rfl) hb))
  exact Eq.mpr (by kernel_rfl) h0
theorem cDirect0_ok : ConOK Go.Proofs.Try.prog 139 cDirect0 := by
  refine cDirect0_law ?_
  intro h n hw hp Λ1 h1
  unfold cDirect0_0
  obtain ⟨p1, p2, p3⟩ := hp
  obtain ⟨N, rfl⟩ := Int.eq_ofNat_of_zero_le p1
  have hlen : ∀ i, (dirTo h (N : Int) i).length ≤ i := by
    intro i
    induction i with
    | zero => exact Nat.le_refl _
    | succ i ih => unfold dirTo; rw [List.length_append]; split <;> simp <;> omega
  refine upto (n := N) (Q := fun i => Λ1 (i : Int) (dirTo h (N : Int) i)) ?_ ?_ 0 (Nat.zero_le _)
  · apply h1; unfold cDirect0_1; rw [if_neg (by simp)]; rfl
  · intro i hi ih
    apply h1; unfold cDirect0_1; rw [if_pos (by simpa using hi)]
    have hle := hlen i
    rw [show dirTo h (N : Int) (i + 1) = dirTo h (N : Int) i ++ if touchB h i N = true then [(i : Int)] else [] from rfl] at ih
    refine ⟨⟨by omega, by omega, by omega, by omega⟩, ?_⟩
    by_cases g : touchB h i N = true
    · rw [if_pos g] at ih ⊢
      exact ⟨by simp only [List.length_cons, List.length_nil]; omega, inI_succ hi (by omega), ih⟩
    · rw [if_neg g, List.append_nil] at ih
      rw [if_neg g]
      exact ⟨inI_succ hi (by omega), ih⟩
abbrev cFree71 : Con := { A := (.cons .int (.cons (.ref .int) .nil)), R := (.cons .bool .nil), pre := fun x => 0 ≤ x.1 ∧ x.1 < 60, F := fun x => ((IntKind.i64.wrap (BitVec.ofInt 64 (Int.fdiv x.2.1 (2 ^ (Int.toNat x.1))) &&& BitVec.ofInt 64 (1 : Int)).toNat) == 0, ()) }
def cFree71_0  (k : Int) (c0 : Int) (y0 : Bool) : Prop :=
  (0 ≤ k ∧ k < 64) ∧ (True ∧ (((IntKind.i64.wrap (BitVec.ofInt 64 (Int.fdiv c0 (2 ^ (Int.toNat k))) &&& BitVec.ofInt 64 (1 : Int)).toNat) == (0 : Int)) = y0 ∧ True))
theorem cFree71_law (h : ∀ (k : Int) (c0 : Int), cFree71.A.wf (k, c0, ()) → (0 ≤ k ∧ k < 60) → cFree71_0  k c0 ((IntKind.i64.wrap (BitVec.ofInt 64 (Int.fdiv c0 (2 ^ (Int.toNat k))) &&& BitVec.ofInt 64 (1 : Int)).toNat) == 0)) : ConOK Go.Proofs.Try.prog 140 cFree71 := by
  refine lawL (Γ := []) (Θ := Th) (n := 9) [] trivial (by kernel_rfl) th_ok mix_ok Go.Proofs.Try.func140 (by kernel_rfl) ?_
  intro x hw hp Λ hC
  have h0 := h x.1 x.2.1 hw hp  
  exact Eq.mpr (by kernel_rfl) h0
theorem cFree71_ok : ConOK Go.Proofs.Try.prog 140 cFree71 := by
  refine cFree71_law ?_
  intro k c0 hw hp
  unfold cFree71_0
  exact ⟨⟨hp.1, by omega⟩, trivial, rfl, trivial⟩
abbrev cIndexN : Con := { A := (.cons (.sl .int) (.cons .int .nil)), R := (.cons .int .nil), pre := fun x => True, F := fun x => (idxF (fun r' => x.2.1 == r') x.1, ()) }
def cIndexN_0 (Λ1 : Int → Prop) (s : (List Int)) (v : Int) (y0 : Int) : Prop :=
  Λ1 (0 : Int)
def cIndexN_1 (Λ1 : Int → Prop) (s : (List Int)) (v : Int) (y0 : Int)  (t8_1 : Int) : Prop :=
  if (decide (t8_1 < (List.length s : Int))) = true then (idx t8_1 (List.length s : Int) ∧ (if (v == (List.getD s (Int.toNat t8_1) 0)) = true then (t8_1 = y0 ∧ True) else (inI (t8_1 + (1 : Int)) ∧ Λ1 (t8_1 + (1 : Int))))) else ((-1 : Int) = y0 ∧ True)
theorem cIndexN_law (h : ∀ (s : (List Int)) (v : Int), cIndexN.A.wf (s, v, ()) → ∀ (Λ1 : Int → Prop), (∀ (t8_1 : Int), cIndexN_1 Λ1 s v (idxF (fun r' => v == r') s) t8_1 → Λ1 t8_1) → cIndexN_0 Λ1 s v (idxF (fun r' => v == r') s)) : ConOK Go.Proofs.Try.prog 147 cIndexN := by
  refine lawL (Γ := []) (Θ := Th) (n := 19) [([1, 0, 1, 0], ⟨[(0, false), (1, false), (7, true), (8, true)], []⟩)] trivial (by kernel_rfl) th_ok mix_ok Go.Proofs.Try.func147 (by kernel_rfl) ?_
  intro x hw hp Λ hC
  have h0 := h x.1 x.2.1 hw (fun t8_1 => Λ [1, 0, 1, 0] ([(0, .d false (.sl .int) x.1), (1, .d false .int x.2.1), (7, .d true .int (List.length x.1 : Int)), (8, .d true .int t8_1)], [])) (fun t8_1 hb => hC [1, 0, 1, 0] ([(0, .d false (.sl .int) x.1), (1, .d false .int x.2.1), (7, .d true .int (List.length x.1 : Int)), (8, .d true .int t8_1)], []) (Eq.mpr (by kernel_rfl) hb))
  exact Eq.mpr (by kernel_rfl) h0
theorem cIndexN_ok : ConOK Go.Proofs.Try.prog 147 cIndexN := by
  refine cIndexN_law ?_
  intro s v hw Λ1 h1
  unfold cIndexN_0
  refine upto (n := s.length) (Q := fun i => (s.take i).any (fun r => v == r) = false → Λ1 i) ?_ ?_ 0 (Nat.zero_le _) rfl
  · intro ha
    rw [List.take_length] at ha
    apply h1; unfold cIndexN_1; rw [if_neg (by simp), idxF_none ha]
    exact ⟨rfl, trivial⟩
  · intro i hi ih ha
    apply h1; unfold cIndexN_1; rw [if_pos (by simpa using hi), Int.toNat_natCast]
    refine ⟨idx_nat hi, ?_⟩
    cases hv : (v == List.getD s i 0)
    · rw [if_neg (by simp)]
      exact ⟨inI_succ hi hw.1.1, ih (any_take_next (p := fun r => v == r) 0 hi ha hv)⟩
    · rw [if_pos (by rfl), idxF_at (p := fun r => v == r) 0 hi ha hv]
      exact ⟨rfl, trivial⟩
abbrev cContN : Con := { A := (.cons (.sl .int) (.cons .int .nil)), R := (.cons .bool .nil), pre := fun x => True, F := fun x => (decide (x.2.1 ∈ x.1), ()) }
def cContN_0  (s : (List Int)) (v : Int) (y0 : Bool) : Prop :=
  True ∧ ((decide ((idxF (fun r' => v == r') s) ≥ (0 : Int))) = y0 ∧ True)
theorem cContN_law (h : ∀ (s : (List Int)) (v : Int), cContN.A.wf (s, v, ()) → cContN_0  s v (decide (v ∈ s))) : ConOK Go.Proofs.Try.prog 110 cContN := by
  refine lawL (Γ := [(147, cIndexN)]) (Θ := Th) (n := 9) [] ⟨cIndexN_ok, trivial⟩ (by kernel_rfl) th_ok mix_ok Go.Proofs.Try.func110 (by kernel_rfl) ?_
  intro x hw hp Λ hC
  have h0 := h x.1 x.2.1 hw  
  exact Eq.mpr (by kernel_rfl) h0
theorem cContN_ok : ConOK Go.Proofs.Try.prog 110 cContN := by
  refine cContN_law ?_
  intro s v hw
  unfold cContN_0
  refine ⟨trivial, ?_, trivial⟩
  rw [idxF_any, Bool.eq_iff_iff]
  simp
abbrev cIndexI2 : Con := { A := (.cons (.sl .int) (.cons (.fn (.cons .int .nil) (.cons .bool .nil)) .nil)), R := (.cons .int .nil), pre := fun x => ∀ r' ∈ x.1, x.2.1.1 (r', ()), F := fun x => (idxF (fun r' => (x.2.1.2 (r', ())).1) x.1, ()) }
def cIndexI2_0 (Λ1 : Int → Prop) (s : (List Int)) (f : (T.fn (.cons .int .nil) (.cons .bool .nil)).den) (y0 : Int) : Prop :=
  Λ1 (0 : Int)
def cIndexI2_1 (Λ1 : Int → Prop) (s : (List Int)) (f : (T.fn (.cons .int .nil) (.cons .bool .nil)).den) (y0 : Int)  (t8_1 : Int) : Prop :=
  if (decide (t8_1 < (List.length s : Int))) = true then (idx t8_1 (List.length s : Int) ∧ (f.1 ((List.getD s (Int.toNat t8_1) 0), ()) ∧ (if ((f.2 ((List.getD s (Int.toNat t8_1) 0), ())).1) = true then (t8_1 = y0 ∧ True) else (inI (t8_1 + (1 : Int)) ∧ Λ1 (t8_1 + (1 : Int)))))) else ((-1 : Int) = y0 ∧ True)
theorem cIndexI2_law (h : ∀ (s : (List Int)) (f : (T.fn (.cons .int .nil) (.cons .bool .nil)).den), cIndexI2.A.wf (s, f, ()) → (∀ r' ∈ s, f.1 (r', ())) → ∀ (Λ1 : Int → Prop), (∀ (t8_1 : Int), cIndexI2_1 Λ1 s f (idxF (fun r' => (f.2 (r', ())).1) s) t8_1 → Λ1 t8_1) → cIndexI2_0 Λ1 s f (idxF (fun r' => (f.2 (r', ())).1) s)) : ConOK Go.Proofs.Try.prog 148 cIndexI2 := by
  refine lawL (Γ := []) (Θ := Th) (n := 19) [([1, 0, 1, 0], ⟨[(0, false), (1, false), (7, true), (8, true)], []⟩)] trivial (by kernel_rfl) th_ok mix_ok Go.Proofs.Try.func148 (by kernel_rfl) ?_
  intro x hw hp Λ hC
  have h0 := h x.1 x.2.1 hw hp (fun t8_1 => Λ [1, 0, 1, 0] ([(0, .d false (.sl .int) x.1), (1, .d false (.fn (.cons .int .nil) (.cons .bool .nil)) x.2.1), (7, .d true .int (List.length x.1 : Int)), (8, .d true .int t8_1)], [])) (fun t8_1 hb => hC [1, 0, 1, 0] ([(0, .d false (.sl .int) x.1), (1, .d false (.fn (.cons .int .nil) (.cons .bool .nil)) x.2.1), (7, .d true .int (List.length x.1 : Int)), (8, .d true .int t8_1)], []) (Eq.mpr (by kernel_rfl) hb))
  exact Eq.mpr (by kernel_rfl) h0
theorem cIndexI2_ok : ConOK Go.Proofs.Try.prog 148 cIndexI2 := by
  refine cIndexI2_law ?_
  intro s f hw hp Λ1 h1
  unfold cIndexI2_0
  refine upto (n := s.length) (Q := fun i => (s.take i).any (fun r => (f.2 (r, ())).1) = false → Λ1 i) ?_ ?_ 0 (Nat.zero_le _) rfl
  · intro ha
    rw [List.take_length] at ha
    apply h1; unfold cIndexI2_1; rw [if_neg (by simp), idxF_none ha]
    exact ⟨rfl, trivial⟩
  · intro i hi ih ha
    apply h1; unfold cIndexI2_1; rw [if_pos (by simpa using hi), Int.toNat_natCast]
    refine ⟨idx_nat hi, hp _ (mem_getD hi), ?_⟩
    cases hv : (f.2 (List.getD s i 0, ())).1
    · rw [if_neg (by simp)]
      exact ⟨inI_succ hi hw.1.1, ih (any_take_next (p := fun r => (f.2 (r, ())).1) 0 hi ha hv)⟩
    · rw [if_pos (by rfl), idxF_at (p := fun r => (f.2 (r, ())).1) 0 hi ha hv]
      exact ⟨rfl, trivial⟩
abbrev cContI2 : Con := { A := (.cons (.sl .int) (.cons (.fn (.cons .int .nil) (.cons .bool .nil)) .nil)), R := (.cons .bool .nil), pre := fun x => ∀ r' ∈ x.1, x.2.1.1 (r', ()), F := fun x => (x.1.any (fun r' => (x.2.1.2 (r', ())).1), ()) }
def cContI2_0  (s : (List Int)) (f : (T.fn (.cons .int .nil) (.cons .bool .nil)).den) (y0 : Bool) : Prop :=
  (∀ r' ∈ s, f.1 (r', ())) ∧ ((decide ((idxF (fun r' => (f.2 (r', ())).1) s) ≥ (0 : Int))) = y0 ∧ True)
theorem cContI2_law (h : ∀ (s : (List Int)) (f : (T.fn (.cons .int .nil) (.cons .bool .nil)).den), cContI2.A.wf (s, f, ()) → (∀ r' ∈ s, f.1 (r', ())) → cContI2_0  s f (s.any (fun r' => (f.2 (r', ())).1))) : ConOK Go.Proofs.Try.prog 114 cContI2 := by
  refine lawL (Γ := [(148, cIndexI2)]) (Θ := Th) (n := 9) [] ⟨cIndexI2_ok, trivial⟩ (by kernel_rfl) th_ok mix_ok Go.Proofs.Try.func114 (by kernel_rfl) ?_
  intro x hw hp Λ hC
  have h0 := h x.1 x.2.1 hw hp  
  exact Eq.mpr (by kernel_rfl) h0
theorem cContI2_ok : ConOK Go.Proofs.Try.prog 114 cContI2 := by
  refine cContI2_law ?_
  intro s f hw hp
  unfold cContI2_0
  exact ⟨hp, idxF_any _ _, trivial⟩
abbrev cFree7 : Con := { A := (.cons (.sl (.sl tEd)) (.cons .int (.cons .int .nil))), R := (.cons .bool .nil), pre := fun x => 0 ≤ x.2.2.1 ∧ x.2.2.1 < (x.1.length : Int) ∧ x.1.length ≤ 8, F := fun x => (((IntKind.i64.wrap (BitVec.ofInt 64 (Int.fdiv x.2.1 (2 ^ (Int.toNat x.2.2.1))) &&& BitVec.ofInt 64 (1 : Int)).toNat) == 0) && !((dirTo x.1 x.2.2.1 (Int.toNat x.2.2.1)).any fun k' => (IntKind.i64.wrap (BitVec.ofInt 64 (Int.fdiv x.2.1 (2 ^ (Int.toNat k'))) &&& BitVec.ofInt 64 (1 : Int)).toNat) == 0), ()) }
def cFree7_0  (h : (List (List Edt))) (done : Int) (n : Int) (y0 : Bool) : Prop :=
  (0 ≤ n ∧ n < 64) ∧ (True ∧ (if ((IntKind.i64.wrap (BitVec.ofInt 64 (Int.fdiv done (2 ^ (Int.toNat n))) &&& BitVec.ofInt 64 (1 : Int)).toNat) == (0 : Int)) = true then ((0 ≤ n ∧ n < (h.length : Int) ∧ h.length ≤ 8) ∧ ((∀ r' ∈ (dirTo h n (Int.toNat n)), (fun (xx : (Int × Unit)) => 0 ≤ xx.1 ∧ xx.1 < 60, fun (xx : (Int × Unit)) => ((IntKind.i64.wrap (BitVec.ofInt 64 (Int.fdiv done (2 ^ (Int.toNat xx.1))) &&& BitVec.ofInt 64 (1 : Int)).toNat) == 0, ())).1 (r', ())) ∧ (True ∧ ((bif true then (!((dirTo h n (Int.toNat n)).any (fun r' => ((fun (xx : (Int × Unit)) => 0 ≤ xx.1 ∧ xx.1 < 60, fun (xx : (Int × Unit)) => ((IntKind.i64.wrap (BitVec.ofInt 64 (Int.fdiv done (2 ^ (Int.toNat xx.1))) &&& BitVec.ofInt 64 (1 : Int)).toNat) == 0, ())).2 (r', ())).1))) else false) = y0 ∧ True)))) else (false = false ∧ (false = y0 ∧ True))))
theorem cFree7_law (h : ∀ (h : (List (List Edt))) (done : Int) (n : Int), cFree7.A.wf (h, done, n, ()) → (0 ≤ n ∧ n < (h.length : Int) ∧ h.length ≤ 8) → cFree7_0  h done n (((IntKind.i64.wrap (BitVec.ofInt 64 (Int.fdiv done (2 ^ (Int.toNat n))) &&& BitVec.ofInt 64 (1 : Int)).toNat) == 0) && !((dirTo h n (Int.toNat n)).any fun k' => (IntKind.i64.wrap (BitVec.ofInt 64 (Int.fdiv done (2 ^ (Int.toNat k'))) &&& BitVec.ofInt 64 (1 : Int)).toNat) == 0))) : ConOK Go.Proofs.Try.prog 95 cFree7 := by
  refine lawX (X := { subs := [], frz := [4], U := [], mul := [], nst := [], nls := [], itf := none, inp := [], arrs := [] }) (hX := xok0 _ trivial) (Γ := [(114, cContI2), (139, cDirect0), (140, cFree71)]) (Θ := Th) (n := 20) [] ⟨cContI2_ok, cDirect0_ok, cFree71_ok, trivial⟩ (by kernel_rfl) th_ok mix_ok Go.Proofs.Try.func95 (by kernel_rfl) ?_
  intro x hw hp Λ hC
  have h0 := h x.1 x.2.1 x.2.2.1 hw hp  
  exact Eq.mpr (by kernel_rfl) h0
theorem cFree7_ok : ConOK Go.Proofs.Try.prog 95 cFree7 := by
  refine cFree7_law ?_
  intro h done n hw hp
  unfold cFree7_0
  obtain ⟨p1, p2, p3⟩ := hp
  have hmem : ∀ i, ∀ k ∈ dirTo h n i, 0 ≤ k ∧ k < i := by
    intro i
    induction i with
    | zero => intro k hk; simp [dirTo] at hk
    | succ i ih =>
      intro k hk
      unfold dirTo at hk
      rcases List.mem_append.1 hk with g | g
      · have := ih k g; omega
      · split at g <;> simp at g
        omega
  refine ⟨⟨p1, by omega⟩, trivial, ?_⟩
  cases hb : ((IntKind.i64.wrap (BitVec.ofInt 64 (Int.fdiv done (2 ^ (Int.toNat n))) &&& BitVec.ofInt 64 (1 : Int)).toNat) == (0 : Int))
  · rw [if_neg (by simp)]
    exact ⟨rfl, by simp, trivial⟩
  · rw [if_pos (by rfl)]
    exact ⟨⟨p1, p2, p3⟩, fun k hk => by have := hmem _ k hk; exact ⟨this.1, by show k < 60; omega⟩, trivial, by simp, trivial⟩
def trueTo (L : List Bool) : Nat → List Int
  | 0 => []
  | i + 1 => trueTo L i ++ if L.getD i false = true then [(i : Int)] else []
theorem trueTo_len (L : List Bool) : ∀ i, (trueTo L i).length ≤ i
  | 0 => Nat.le_refl _
  | i + 1 => by
    unfold trueTo
    rw [List.length_append]
    have := trueTo_len L i
    split <;> simp <;> omega

abbrev cNeeds0 : Con := { A := (.cons (.sl (.sl tEd)) (.cons .int .nil)), R := (.cons (.osl .int) .nil), pre := fun x => x.1 = sH ∧ (x.2.1 = 0 ∨ x.2.1 = 1 ∨ x.2.1 = 2), F := fun x => ((if x.2.1 = 2 then [0, 1] else []), ()) }
def cNeeds0_0 (Λ1 : (List Bool) → (List Int) → Prop) (Λ2 : (List Bool) → Int → (List Int) → Prop) (h : (List (List Edt))) (n : Int) (y0 : (List Int)) : Prop :=
  mkLen (List.length h : Int) (List.length h : Int) ∧ ((0 ≤ n ∧ n < (h.length : Int) ∧ h.length ≤ 8) ∧ Λ1 (List.replicate (Int.toNat (List.length h : Int)) false) (dirTo h n (Int.toNat n)))
def cNeeds0_1 (Λ1 : (List Bool) → (List Int) → Prop) (Λ2 : (List Bool) → Int → (List Int) → Prop) (h : (List (List Edt))) (n : Int) (y0 : (List Int))  (there_1 : (List Bool)) (open_1 : (List Int)) : Prop :=
  if (decide ((List.length open_1 : Int) > (0 : Int))) = true then (idx (0 : Int) (List.length open_1 : Int) ∧ ((0 ≤ (1 : Int) ∧ (1 : Int) ≤ (List.length open_1 : Int) ∧ (List.length open_1 : Int) ≤ (List.length open_1 : Int) ∧ (List.length open_1 : Int) ≤ (List.length open_1 : Int)) ∧ (idx (List.getD open_1 (Int.toNat (0 : Int)) 0) (List.length there_1 : Int) ∧ (if (!(List.getD there_1 (Int.toNat (List.getD open_1 (Int.toNat (0 : Int)) 0)) false)) = true then (idx (List.getD open_1 (Int.toNat (0 : Int)) 0) (List.length there_1 : Int) ∧ ((0 ≤ (List.getD open_1 (Int.toNat (0 : Int)) 0) ∧ (List.getD open_1 (Int.toNat (0 : Int)) 0) < (h.length : Int) ∧ h.length ≤ 8) ∧ (List.length (List.drop (Int.toNat (1 : Int)) (List.take (Int.toNat (List.length open_1 : Int)) open_1)) + List.length (dirTo h (List.getD open_1 (Int.toNat (0 : Int)) 0) (Int.toNat (List.getD open_1 (Int.toNat (0 : Int)) 0))) ≤ 4294967296 ∧ Λ1 (List.set there_1 (Int.toNat (List.getD open_1 (Int.toNat (0 : Int)) 0)) true) ((List.drop (Int.toNat (1 : Int)) (List.take (Int.toNat (List.length open_1 : Int)) open_1)) ++ (dirTo h (List.getD open_1 (Int.toNat (0 : Int)) 0) (Int.toNat (List.getD open_1 (Int.toNat (0 : Int)) 0))))))) else Λ1 there_1 (List.drop (Int.toNat (1 : Int)) (List.take (Int.toNat (List.length open_1 : Int)) open_1)))))) else Λ2 there_1 (0 : Int) ([] : List Int)
def cNeeds0_2 (Λ1 : (List Bool) → (List Int) → Prop) (Λ2 : (List Bool) → Int → (List Int) → Prop) (h : (List (List Edt))) (n : Int) (y0 : (List Int)) (there_1 : (List Bool)) (t43_2 : Int) (out_2 : (List Int)) : Prop :=
  if (decide (t43_2 < (List.length there_1 : Int))) = true then (idx t43_2 (List.length there_1 : Int) ∧ (if (List.getD there_1 (Int.toNat t43_2) false) = true then (List.length out_2 + List.length [t43_2] ≤ 4294967296 ∧ (inI (t43_2 + (1 : Int)) ∧ Λ2 there_1 (t43_2 + (1 : Int)) (out_2 ++ [t43_2]))) else (inI (t43_2 + (1 : Int)) ∧ Λ2 there_1 (t43_2 + (1 : Int)) out_2))) else out_2 = y0
theorem cNeeds0_law (h : ∀ (h : (List (List Edt))) (n : Int), cNeeds0.A.wf (h, n, ()) → (h = sH ∧ (n = 0 ∨ n = 1 ∨ n = 2)) → ∀ (Λ1 : (List Bool) → (List Int) → Prop) (Λ2 : (List Bool) → Int → (List Int) → Prop), (∀ (there_1 : (List Bool)) (open_1 : (List Int)), cNeeds0_1 Λ1 Λ2 h n (if n = 2 then [0, 1] else []) there_1 open_1 → Λ1 there_1 open_1) → (∀ (there_1 : (List Bool)) (t43_2 : Int) (out_2 : (List Int)), cNeeds0_2 Λ1 Λ2 h n (if n = 2 then [0, 1] else []) there_1 t43_2 out_2 → Λ2 there_1 t43_2 out_2) → cNeeds0_0 Λ1 Λ2 h n (if n = 2 then [0, 1] else [])) : ConOK Go.Proofs.Try.prog 146 cNeeds0 := by
  refine lawL (Γ := [(139, cDirect0)]) (Θ := Th) (n := 55) [([1, 1, 1, 1, 0, 0], ⟨[(5, true), (6, true), (7, true)], [(16, true), (19, true)]⟩), ([1, 1, 1, 1, 1, 1, 0, 1, 0], ⟨[(9, true), (41, true), (42, true), (43, true)], [(9, true), (16, true)]⟩)] ⟨cDirect0_ok, trivial⟩ (by kernel_rfl) th_ok mix_ok Go.Proofs.Try.func146 (by kernel_rfl) ?_
  intro x hw hp Λ hC
  have h0 := h x.1 x.2.1 hw hp (fun there_1 open_1 => Λ [1, 1, 1, 1, 0, 0] ([(5, .bnd 139 (.cons (.sl (.sl tEd)) .nil) (x.1, ())), (6, .own 16 0), (7, .own 19 0)], [(16, .sl true .bool there_1), (19, .sl true .int open_1)])) (fun there_1 t43_2 out_2 => Λ [1, 1, 1, 1, 1, 1, 0, 1, 0] ([(9, .own 9 0), (41, .own 16 0), (42, .d true .int (List.length there_1 : Int)), (43, .d true .int t43_2)], [(9, .sl true .int out_2), (16, .sl true .bool there_1)])) (fun there_1 open_1 hb => hC [1, 1, 1, 1, 0, 0] ([(5, .bnd 139 (.cons (.sl (.sl tEd)) .nil) (x.1, ())), (6, .own 16 0), (7, .own 19 0)], [(16, .sl true .bool there_1), (19, .sl true .int open_1)]) (Eq.mpr (by kernel_rfl) hb)) (fun there_1 t43_2 out_2 hb => hC [1, 1, 1, 1, 1, 1, 0, 1, 0] ([(9, .own 9 0), (41, .own 16 0), (42, .d true .int (List.length there_1 : Int)), (43, .d true .int t43_2)], [(9, .sl true .int out_2), (16, .sl true .bool there_1)]) (Eq.mpr (by kernel_rfl) hb))
  exact Eq.mpr (by kernel_rfl) h0
theorem cNeeds0_ok : ConOK Go.Proofs.Try.prog 146 cNeeds0 := by
  refine cNeeds0_law ?_
  intro h n hw hp Λ1 Λ2 h1 h2
  unfold cNeeds0_0
  obtain ⟨rfl, hn⟩ := hp
  have e2 : ∀ L : List Bool, L.length = 3 → trueTo L 3 = (if n = 2 then [0, 1] else []) → Λ2 L 0 [] := by
    intro L hL hy
    refine upto (n := 3) (Q := fun i => Λ2 L (i : Int) (trueTo L i)) ?_ ?_ 0 (Nat.zero_le _)
    · apply h2; unfold cNeeds0_2; rw [if_neg (by rw [hL]; simp)]; exact hy
    · intro i hi ih
      have hle := trueTo_len L i
      rw [show trueTo L (i + 1) = trueTo L i ++ if L.getD i false = true then [(i : Int)] else [] from rfl] at ih
      apply h2; unfold cNeeds0_2; rw [if_pos (by rw [hL]; simp; omega), Int.toNat_natCast]
      refine ⟨⟨by omega, by omega⟩, ?_⟩
      by_cases g : L.getD i false = true
      · rw [if_pos g] at ih ⊢
        exact ⟨by simp only [List.length_cons, List.length_nil]; omega, inI_succ hi (by omega), ih⟩
      · rw [if_neg g, List.append_nil] at ih
        rw [if_neg g]
        exact ⟨inI_succ hi (by omega), ih⟩
  have e1 : ∀ L : List Bool, L.length = 3 → trueTo L 3 = (if n = 2 then [0, 1] else []) → Λ1 L [] := by
    intro L hL hy
    apply h1; unfold cNeeds0_1; rw [if_neg (by simp)]
    exact e2 L hL hy
  rcases hn with rfl | rfl | rfl
  · exact ⟨by unfold mkLen sH; simp, ⟨by decide, by decide, by decide⟩, e1 _ rfl (by decide +kernel)⟩
  · refine ⟨by unfold mkLen sH; simp, ⟨by decide, by decide, by decide⟩, ?_⟩
    have d : dirTo sH 1 (Int.toNat 1) = [] := by decide +kernel
    rw [d]
    exact e1 _ rfl (by decide +kernel)
  · refine ⟨by unfold mkLen sH; simp, ⟨by decide, by decide, by decide⟩, ?_⟩
    have d : dirTo sH 2 (Int.toNat 2) = [0, 1] := by decide +kernel
    have d0 : dirTo sH 0 (Int.toNat 0) = [] := rfl
    have d1 : dirTo sH 1 (Int.toNat 1) = [] := by decide +kernel
    rw [d]
    have s2 : Λ1 [true, false, false] [1] := by
      apply h1; unfold cNeeds0_1
      rw [if_pos (by decide)]
      refine ⟨⟨by decide, by decide⟩, ⟨by decide, by decide, by decide, by decide⟩, ⟨by decide, by decide⟩, ?_⟩
      rw [if_pos (by decide)]
      refine ⟨⟨by decide, by decide⟩, ⟨by decide, by decide, by decide⟩, ?_, ?_⟩
      · show _ + (dirTo sH 1 (Int.toNat 1)).length ≤ _
        rw [d1]; decide
      · show Λ1 [true, true, false] ([] ++ dirTo sH 1 (Int.toNat 1))
        rw [d1]
        exact e1 _ rfl (by decide +kernel)
    apply h1; unfold cNeeds0_1
    rw [if_pos (by decide)]
    refine ⟨⟨by decide, by decide⟩, ⟨by decide, by decide, by decide, by decide⟩, ⟨by decide, by decide⟩, ?_⟩
    rw [if_pos (by decide)]
    refine ⟨⟨by decide, by decide⟩, ⟨by decide, by decide, by decide⟩, ?_, ?_⟩
    · show _ + (dirTo sH 0 (Int.toNat 0)).length ≤ _
      rw [d0]; decide
    · show Λ1 [true, false, false] ([1] ++ dirTo sH 0 (Int.toNat 0))
      rw [d0]
      exact s2
abbrev cNeeded0 : Con := { A := (.cons (.sl (.sl tEd)) (.cons .int .nil)), R := (.cons (.osl .int) .nil), pre := fun x => x.1 = sH ∧ x.2.1 = 0, F := fun x => ([2], ()) }
def cNeeded0_0 (Λ1 : Int → (List Int) → Prop) (h : (List (List Edt))) (n : Int) (y0 : (List Int)) : Prop :=
  inI (n + (1 : Int)) ∧ Λ1 (n + (1 : Int)) ([] : List Int)
def cNeeded0_1 (Λ1 : Int → (List Int) → Prop) (h : (List (List Edt))) (n : Int) (y0 : (List Int))  (k_1 : Int) (out_1 : (List Int)) : Prop :=
  if (decide (k_1 < (List.length h : Int))) = true then ((h = sH ∧ (k_1 = 0 ∨ k_1 = 1 ∨ k_1 = 2)) ∧ (True ∧ (if (decide (n ∈ ((if k_1 = 2 then [0, 1] else [])))) = true then (List.length out_1 + List.length [k_1] ≤ 4294967296 ∧ (inI (k_1 + (1 : Int)) ∧ Λ1 (k_1 + (1 : Int)) (out_1 ++ [k_1]))) else (inI (k_1 + (1 : Int)) ∧ Λ1 (k_1 + (1 : Int)) out_1)))) else out_1 = y0
theorem cNeeded0_law (h : ∀ (h : (List (List Edt))) (n : Int), cNeeded0.A.wf (h, n, ()) → (h = sH ∧ n = 0) → ∀ (Λ1 : Int → (List Int) → Prop), (∀ (k_1 : Int) (out_1 : (List Int)), cNeeded0_1 Λ1 h n [2] k_1 out_1 → Λ1 k_1 out_1) → cNeeded0_0 Λ1 h n [2]) : ConOK Go.Proofs.Try.prog 108 cNeeded0 := by
  refine lawL (Γ := [(110, cContN), (146, cNeeds0)]) (Θ := Th) (n := 25) [([1, 1, 0, 1, 0], ⟨[(0, false), (1, false), (5, true), (6, true)], [(5, true)]⟩)] ⟨cContN_ok, cNeeds0_ok, trivial⟩ (by kernel_rfl) th_ok mix_ok Go.Proofs.Try.func108 (by kernel_rfl) ?_
  intro x hw hp Λ hC
  have h0 := h x.1 x.2.1 hw hp (fun k_1 out_1 => Λ [1, 1, 0, 1, 0] ([(0, .d false (.sl (.sl tEd)) x.1), (1, .d false .int x.2.1), (5, .own 5 0), (6, .d true .int k_1)], [(5, .sl true .int out_1)])) (fun k_1 out_1 hb => hC [1, 1, 0, 1, 0] ([(0, .d false (.sl (.sl tEd)) x.1), (1, .d false .int x.2.1), (5, .own 5 0), (6, .d true .int k_1)], [(5, .sl true .int out_1)]) (Eq.mpr (by kernel_rfl) hb))
  exact Eq.mpr (by kernel_rfl) h0
theorem cNeeded0_ok : ConOK Go.Proofs.Try.prog 108 cNeeded0 := by
  refine cNeeded0_law ?_
  intro h n hw hp Λ1 h1
  unfold cNeeded0_0
  obtain ⟨rfl, rfl⟩ := hp
  refine ⟨by unfold inI; decide, ?_⟩
  show Λ1 1 []
  have s3 : Λ1 3 [2] := by
    apply h1; unfold cNeeded0_1; rw [if_neg (by decide)]
  have s2 : Λ1 2 [] := by
    apply h1; unfold cNeeded0_1; rw [if_pos (by decide)]
    refine ⟨⟨rfl, by simp⟩, trivial, ?_⟩
    rw [if_pos (by decide)]
    exact ⟨by decide, by unfold inI; decide, s3⟩
  apply h1; unfold cNeeded0_1; rw [if_pos (by decide)]
  refine ⟨⟨rfl, by simp⟩, trivial, ?_⟩
  rw [if_neg (by decide)]
  exact ⟨by unfold inI; decide, s2⟩
abbrev cIsSet : Con := { A := (.cons (.sl .int) (.cons .int .nil)), R := (.cons .bool .nil), pre := fun x => x.1 = [0] ∧ x.2.1 = 3, F := fun x => (true, ()) }
def cIsSet_0 (Λ1 : Int → Prop) (l : (List Int)) (n : Int) (y0 : Bool) : Prop :=
  Λ1 (0 : Int)
def cIsSet_1 (Λ1 : Int → Prop) (l : (List Int)) (n : Int) (y0 : Bool)  (t9_1 : Int) : Prop :=
  if (decide (t9_1 < (List.length l : Int))) = true then (idx t9_1 (List.length l : Int) ∧ (inI (n - (1 : Int)) ∧ (True ∧ (if (!(within (List.getD l (Int.toNat t9_1) 0) (0 : Int) (n - (1 : Int)))) = true then (true = true ∧ (false = y0 ∧ True)) else (if (decide (t9_1 > (0 : Int))) = true then (inI (t9_1 - (1 : Int)) ∧ (idx (t9_1 - (1 : Int)) (List.length l : Int) ∧ (True ∧ (True ∧ (if (bif false then true else (bif true then (decide ((List.getD l (Int.toNat t9_1) 0) ≤ (List.getD l (Int.toNat (t9_1 - (1 : Int))) 0))) else false)) = true then (false = y0 ∧ True) else (inI (t9_1 + (1 : Int)) ∧ Λ1 (t9_1 + (1 : Int)))))))) else (false = false ∧ (True ∧ (if (bif false then true else false) = true then (false = y0 ∧ True) else (inI (t9_1 + (1 : Int)) ∧ Λ1 (t9_1 + (1 : Int))))))))))) else (true = y0 ∧ True)
theorem cIsSet_law (h : ∀ (l : (List Int)) (n : Int), cIsSet.A.wf (l, n, ()) → (l = [0] ∧ n = 3) → ∀ (Λ1 : Int → Prop), (∀ (t9_1 : Int), cIsSet_1 Λ1 l n true t9_1 → Λ1 t9_1) → cIsSet_0 Λ1 l n true) : ConOK Go.Proofs.Try.prog 109 cIsSet := by
  refine lawL (Γ := [(101, cWithin7)]) (Θ := Th) (n := 33) [([1, 0, 1, 0], ⟨[(0, false), (1, false), (7, false), (8, true), (9, true)], []⟩)] ⟨cWithin7_ok, trivial⟩ (by kernel_rfl) th_ok mix_ok Go.Proofs.Try.func109 (by kernel_rfl) ?_
  intro x hw hp Λ hC
  have h0 := h x.1 x.2.1 hw hp (fun t9_1 => Λ [1, 0, 1, 0] ([(0, .d false (.sl .int) x.1), (1, .d false .int x.2.1), (7, .d false (.sl .int) x.1), (8, .d true .int (List.length x.1 : Int)), (9, .d true .int t9_1)], [])) (fun t9_1 hb => hC [1, 0, 1, 0] ([(0, .d false (.sl .int) x.1), (1, .d false .int x.2.1), (7, .d false (.sl .int) x.1), (8, .d true .int (List.length x.1 : Int)), (9, .d true .int t9_1)], []) (Eq.mpr (by kernel_rfl) hb))
  exact Eq.mpr (by kernel_rfl) h0
theorem cIsSet_ok : ConOK Go.Proofs.Try.prog 109 cIsSet := by
  refine cIsSet_law ?_
  intro l n hw hp Λ1 h1
  unfold cIsSet_0
  obtain ⟨rfl, rfl⟩ := hp
  have s1 : Λ1 1 := by
    apply h1; unfold cIsSet_1; rw [if_neg (by decide)]; exact ⟨rfl, trivial⟩
  apply h1; unfold cIsSet_1; rw [if_pos (by decide)]
  refine ⟨⟨by decide, by decide⟩, by unfold inI; decide, trivial, ?_⟩
  rw [if_neg (by decide), if_neg (by decide)]
  refine ⟨rfl, trivial, ?_⟩
  rw [if_neg (by decide)]
  exact ⟨by unfold inI; decide, s1⟩
abbrev cCloneI : Con := { A := (.cons (.sl .int) .nil), R := (.cons (.osl .int) .nil), pre := fun x => x.1.length ≤ 1000000, F := fun x => (x.1, ()) }
def cCloneI_0  (s : (List Int)) (y0 : (List Int)) : Prop :=
  (s = [] → ([] : List Int) = y0) ∧ (True → (List.length ([] : List Int) + List.length s ≤ 4294967296 ∧ (([] : List Int) ++ s) = y0))
theorem cCloneI_law (h : ∀ (s : (List Int)), cCloneI.A.wf (s, ()) → (s.length ≤ 1000000) → cCloneI_0  s s) : ConOK Go.Proofs.Try.prog 71 cCloneI := by
  refine lawL (Γ := []) (Θ := Th) (n := 8) [] trivial (by kernel_rfl) th_ok mix_ok Go.Proofs.Try.func71 (by kernel_rfl) ?_
  intro x hw hp Λ hC
  have h0 := h x.1 hw hp  
  exact Eq.mpr (by kernel_rfl) h0
theorem cCloneI_ok : ConOK Go.Proofs.Try.prog 71 cCloneI := by
  refine cCloneI_law ?_
  intro s hw hp
  unfold cCloneI_0
  exact ⟨fun h => h.symm, fun _ => ⟨by simp only [List.length_nil]; omega, by simp⟩⟩
def frB (t k : Int) : Bool := ((IntKind.i64.wrap (BitVec.ofInt 64 (Int.fdiv t (2 ^ (Int.toNat k))) &&& BitVec.ofInt 64 (1 : Int)).toNat) == 0) && !((dirTo sH k (Int.toNat k)).any fun k' => (IntKind.i64.wrap (BitVec.ofInt 64 (Int.fdiv t (2 ^ (Int.toNat k'))) &&& BitVec.ofInt 64 (1 : Int)).toNat) == 0)
def orI (t k : Int) : Int := IntKind.i64.wrap (BitVec.ofInt 64 t ||| BitVec.ofInt 64 ((1 : Int) * 2 ^ (Int.toNat k))).toNat
def nxtW (t k : Int) (w : List Int) : List Int := if w.getD t.toNat 0 > 0 then (if frB t k = true then w.set (orI t k).toNat (w.getD (orI t k).toNat 0 + w.getD t.toNat 0) else w) else w
def wT : Nat → List Int
  | 0 => [1, 0, 0, 0, 0, 0, 0, 0]
  | t + 1 => nxtW t 2 (nxtW t 1 (nxtW t 0 (wT t)))
def wTK (t : Nat) : Nat → List Int
  | 0 => wT t
  | k + 1 => nxtW t k (wTK t k)
def okS (t k : Nat) : Bool := decide ((wTK t k).length = 8) && decide (0 ≤ orI t k) && decide (orI t k < 8) && decide (-1000 ≤ (wTK t k).getD (orI t k).toNat 0) && decide ((wTK t k).getD (orI t k).toNat 0 ≤ 1000) && decide (-1000 ≤ (wTK t k).getD t 0) && decide ((wTK t k).getD t 0 ≤ 1000)
theorem okS_all : ∀ t, t < 8 → ∀ k, k < 3 → okS t k = true := by decide +kernel

abbrev cCount7 : Con := { A := (.cons (.sl tL) (.cons (.sl (.sl tEd)) .nil)), R := (.cons .int (.cons .int .nil)), pre := fun x => x.1 = sP ∧ x.2.1 = sH, F := fun x => (2, 0, ()) }
def cCount7_0 (Λ1 : Int → (List Int) → Prop) (Λ2 : Int → Int → (List Int) → Prop) (p : (List Lin)) (h : (List (List Edt))) (y0 : Int) (y1 : Int) : Prop :=
  True ∧ (if ((err7 p h) != (0 : Int)) = true then ((0 : Int) = y0 ∧ (err7 p h) = y1 ∧ True) else ((0 ≤ (List.length h : Int) ∧ (List.length h : Int) < 64 ∧ inI ((1 : Int) * 2 ^ (Int.toNat (List.length h : Int)))) ∧ (mkLen ((1 : Int) * 2 ^ (Int.toNat (List.length h : Int))) ((1 : Int) * 2 ^ (Int.toNat (List.length h : Int))) ∧ (idx (0 : Int) (List.length (List.replicate (Int.toNat ((1 : Int) * 2 ^ (Int.toNat (List.length h : Int)))) (0 : Int)) : Int) ∧ Λ1 (0 : Int) (List.set (List.replicate (Int.toNat ((1 : Int) * 2 ^ (Int.toNat (List.length h : Int)))) (0 : Int)) (Int.toNat (0 : Int)) 1)))))
def cCount7_1 (Λ1 : Int → (List Int) → Prop) (Λ2 : Int → Int → (List Int) → Prop) (p : (List Lin)) (h : (List (List Edt))) (y0 : Int) (y1 : Int)  (t24_1 : Int) (ways_1 : (List Int)) : Prop :=
  if (decide (t24_1 < (List.length (List.set (List.replicate (Int.toNat ((1 : Int) * 2 ^ (Int.toNat (List.length h : Int)))) (0 : Int)) (Int.toNat (0 : Int)) 1) : Int))) = true then Λ2 t24_1 (0 : Int) ways_1 else (inI ((List.length ways_1 : Int) - (1 : Int)) ∧ (idx ((List.length ways_1 : Int) - (1 : Int)) (List.length ways_1 : Int) ∧ ((List.getD ways_1 (Int.toNat ((List.length ways_1 : Int) - (1 : Int))) 0) = y0 ∧ (0 : Int) = y1 ∧ True)))
def cCount7_2 (Λ1 : Int → (List Int) → Prop) (Λ2 : Int → Int → (List Int) → Prop) (p : (List Lin)) (h : (List (List Edt))) (y0 : Int) (y1 : Int) (t24_1 : Int) (t29_2 : Int) (ways_2 : (List Int)) : Prop :=
  if (decide (t29_2 < (List.length h : Int))) = true then (idx t24_1 (List.length ways_2 : Int) ∧ (if (decide ((List.getD ways_2 (Int.toNat t24_1) 0) > (0 : Int))) = true then ((0 ≤ t29_2 ∧ t29_2 < (h.length : Int) ∧ h.length ≤ 8) ∧ (True ∧ (if (bif true then (((IntKind.i64.wrap (BitVec.ofInt 64 (Int.fdiv t24_1 (2 ^ (Int.toNat t29_2))) &&& BitVec.ofInt 64 (1 : Int)).toNat) == 0) && !((dirTo h t29_2 (Int.toNat t29_2)).any fun k' => (IntKind.i64.wrap (BitVec.ofInt 64 (Int.fdiv t24_1 (2 ^ (Int.toNat k'))) &&& BitVec.ofInt 64 (1 : Int)).toNat) == 0)) else false) = true then ((0 ≤ t29_2 ∧ t29_2 < 64 ∧ inI ((1 : Int) * 2 ^ (Int.toNat t29_2))) ∧ (True ∧ (idx (IntKind.i64.wrap (BitVec.ofInt 64 t24_1 ||| BitVec.ofInt 64 ((1 : Int) * 2 ^ (Int.toNat t29_2))).toNat) (List.length ways_2 : Int) ∧ (idx t24_1 (List.length ways_2 : Int) ∧ (inI ((List.getD ways_2 (Int.toNat (IntKind.i64.wrap (BitVec.ofInt 64 t24_1 ||| BitVec.ofInt 64 ((1 : Int) * 2 ^ (Int.toNat t29_2))).toNat)) 0) + (List.getD ways_2 (Int.toNat t24_1) 0)) ∧ (idx (IntKind.i64.wrap (BitVec.ofInt 64 t24_1 ||| BitVec.ofInt 64 ((1 : Int) * 2 ^ (Int.toNat t29_2))).toNat) (List.length ways_2 : Int) ∧ (inI (t29_2 + (1 : Int)) ∧ Λ2 t24_1 (t29_2 + (1 : Int)) (List.set ways_2 (Int.toNat (IntKind.i64.wrap (BitVec.ofInt 64 t24_1 ||| BitVec.ofInt 64 ((1 : Int) * 2 ^ (Int.toNat t29_2))).toNat)) ((List.getD ways_2 (Int.toNat (IntKind.i64.wrap (BitVec.ofInt 64 t24_1 ||| BitVec.ofInt 64 ((1 : Int) * 2 ^ (Int.toNat t29_2))).toNat)) 0) + (List.getD ways_2 (Int.toNat t24_1) 0)))))))))) else (inI (t29_2 + (1 : Int)) ∧ Λ2 t24_1 (t29_2 + (1 : Int)) ways_2)))) else (false = false ∧ (inI (t29_2 + (1 : Int)) ∧ Λ2 t24_1 (t29_2 + (1 : Int)) ways_2)))) else (inI (t24_1 + (1 : Int)) ∧ Λ1 (t24_1 + (1 : Int)) ways_2)
theorem cCount7_law (h : ∀ (p : (List Lin)) (h : (List (List Edt))), cCount7.A.wf (p, h, ()) → (p = sP ∧ h = sH) → ∀ (Λ1 : Int → (List Int) → Prop) (Λ2 : Int → Int → (List Int) → Prop), (∀ (t24_1 : Int) (ways_1 : (List Int)), cCount7_1 Λ1 Λ2 p h 2 0 t24_1 ways_1 → Λ1 t24_1 ways_1) → (∀ (t24_1 : Int) (t29_2 : Int) (ways_2 : (List Int)), cCount7_2 Λ1 Λ2 p h 2 0 t24_1 t29_2 ways_2 → Λ2 t24_1 t29_2 ways_2) → cCount7_0 Λ1 Λ2 p h 2 0) : ConOK Go.Proofs.Try.prog 33 cCount7 := by
  refine lawL (Γ := [(95, cFree7), (36, cVal7)]) (Θ := Th) (n := 64) [([1, 1, 1, 1, 0, 1, 0], ⟨[(1, false), (7, true), (23, true), (24, true)], [(19, true)]⟩), ([1, 1, 1, 1, 0, 1, 0, 0, 1, 1, 0, 0, 1, 1, 0], ⟨[(1, false), (7, true), (8, true), (23, true), (24, true), (28, true), (29, true)], [(19, true)]⟩)] ⟨cFree7_ok, cVal7_ok, trivial⟩ (by kernel_rfl) th_ok mix_ok Go.Proofs.Try.func33 (by kernel_rfl) ?_
  intro x hw hp Λ hC
  have h0 := h x.1 x.2.1 hw hp (fun t24_1 ways_1 => Λ [1, 1, 1, 1, 0, 1, 0] ([(1, .d false (.sl (.sl tEd)) x.2.1), (7, .own 19 0), (23, .d true .int (List.length (List.set (List.replicate (Int.toNat ((1 : Int) * 2 ^ (Int.toNat (List.length x.2.1 : Int)))) (0 : Int)) (Int.toNat (0 : Int)) 1) : Int)), (24, .d true .int t24_1)], [(19, .sl true .int ways_1)])) (fun t24_1 t29_2 ways_2 => Λ [1, 1, 1, 1, 0, 1, 0, 0, 1, 1, 0, 0, 1, 1, 0] ([(1, .d false (.sl (.sl tEd)) x.2.1), (7, .own 19 0), (8, .d true .int t24_1), (23, .d true .int (List.length (List.set (List.replicate (Int.toNat ((1 : Int) * 2 ^ (Int.toNat (List.length x.2.1 : Int)))) (0 : Int)) (Int.toNat (0 : Int)) 1) : Int)), (24, .d true .int t24_1), (28, .d true .int (List.length x.2.1 : Int)), (29, .d true .int t29_2)], [(19, .sl true .int ways_2)])) (fun t24_1 ways_1 hb => hC [1, 1, 1, 1, 0, 1, 0] ([(1, .d false (.sl (.sl tEd)) x.2.1), (7, .own 19 0), (23, .d true .int (List.length (List.set (List.replicate (Int.toNat ((1 : Int) * 2 ^ (Int.toNat (List.length x.2.1 : Int)))) (0 : Int)) (Int.toNat (0 : Int)) 1) : Int)), (24, .d true .int t24_1)], [(19, .sl true .int ways_1)]) (Eq.mpr (by kernel_rfl) hb)) (fun t24_1 t29_2 ways_2 hb => hC [1, 1, 1, 1, 0, 1, 0, 0, 1, 1, 0, 0, 1, 1, 0] ([(1, .d false (.sl (.sl tEd)) x.2.1), (7, .own 19 0), (8, .d true .int t24_1), (23, .d true .int (List.length (List.set (List.replicate (Int.toNat ((1 : Int) * 2 ^ (Int.toNat (List.length x.2.1 : Int)))) (0 : Int)) (Int.toNat (0 : Int)) 1) : Int)), (24, .d true .int t24_1), (28, .d true .int (List.length x.2.1 : Int)), (29, .d true .int t29_2)], [(19, .sl true .int ways_2)]) (Eq.mpr (by kernel_rfl) hb))
  exact Eq.mpr (by kernel_rfl) h0
theorem cCount7_ok : ConOK Go.Proofs.Try.prog 33 cCount7 := by
  refine cCount7_law ?_
  intro p h hw hp Λ1 Λ2 h1 h2
  unfold cCount7_0
  obtain ⟨rfl, rfl⟩ := hp
  have he : err7 sP sH = 0 := by decide +kernel
  refine ⟨trivial, ?_⟩
  rw [if_neg (by rw [he]; simp)]
  refine ⟨⟨by decide, by decide, by unfold inI; decide⟩, ⟨by decide, by decide, rfl⟩, ⟨by decide, by decide⟩, ?_⟩
  show Λ1 ((0 : Nat) : Int) (wT 0)
  refine upto (n := 8) (Q := fun t => Λ1 (t : Int) (wT t)) ?_ ?_ 0 (Nat.zero_le _)
  · apply h1; unfold cCount7_1
    rw [if_neg (by decide)]
    have l8 : (wT 8).length = 8 := by decide +kernel
    have v8 : (wT 8).getD 7 0 = 2 := by decide +kernel
    rw [l8]
    exact ⟨by unfold inI; decide, ⟨by decide, by decide⟩, v8, rfl, trivial⟩
  · intro t ht ih
    apply h1; unfold cCount7_1
    rw [if_pos (by refine decide_eq_true ?_; show (t : Int) < ((8 : Nat) : Int); omega)]
    show Λ2 (t : Int) ((0 : Nat) : Int) (wTK t 0)
    refine upto (n := 3) (Q := fun k => Λ2 (t : Int) (k : Int) (wTK t k)) ?_ ?_ 0 (Nat.zero_le _)
    · apply h2; unfold cCount7_2
      rw [if_neg (by decide)]
      exact ⟨inI_succ ht (by omega), ih⟩
    · intro k hk ihk
      have ok := okS_all t ht k hk
      unfold okS at ok
      simp only [Bool.and_eq_true, decide_eq_true_eq] at ok
      obtain ⟨⟨⟨⟨⟨⟨o1, o2⟩, o3⟩, o4⟩, o5⟩, o6⟩, o7⟩ := ok
      rw [show wTK t (k + 1) = nxtW t k (wTK t k) from rfl] at ihk
      unfold nxtW at ihk
      rw [Int.toNat_natCast] at ihk
      apply h2; unfold cCount7_2
      rw [if_pos (by refine decide_eq_true ?_; show (k : Int) < ((3 : Nat) : Int); omega), Int.toNat_natCast]
      refine ⟨⟨by omega, by omega⟩, ?_⟩
      by_cases c1 : (wTK t k).getD t 0 > 0
      · rw [if_pos c1] at ihk
        rw [if_pos (by simpa using c1)]
        refine ⟨⟨by omega, by show (k : Int) < ((3 : Nat) : Int); omega, by decide⟩, trivial, ?_⟩
        show if frB t k = true then _ else _
        by_cases c2 : frB t k = true
        · rw [if_pos c2] at ihk ⊢
          have hp2 : inI ((1 : Int) * 2 ^ k) := by
            have c : k = 0 ∨ k = 1 ∨ k = 2 := by omega
            rcases c with rfl | rfl | rfl <;> (unfold inI; decide)
          refine ⟨⟨by omega, by omega, hp2⟩, trivial, ⟨o2, by show orI t k < _; omega⟩, ⟨by omega, by omega⟩, ?_, ⟨o2, by show orI t k < _; omega⟩, inI_succ hk (by omega), ihk⟩
          show inI ((wTK t k).getD (orI t k).toNat 0 + (wTK t k).getD t 0)
          unfold inI; omega
        · rw [if_neg c2] at ihk ⊢
          exact ⟨inI_succ hk (by omega), ihk⟩
      · rw [if_neg c1] at ihk
        rw [if_neg (by simpa using c1)]
        exact ⟨rfl, inI_succ hk (by omega), ihk⟩
abbrev cRevert7 : Con := { A := (.cons (.sl tL) (.cons (.sl (.sl tEd)) (.cons (.sl .int) .nil))), R := (.cons (.osl tL) (.cons (.sl .int) (.cons .int .nil))), pre := fun x => x.1 = sP ∧ x.2.1 = sH ∧ x.2.2.1 = [0], F := fun x => (playH sP [[sT]], [1], 0, ()) }
def cRevert7_0 (Λ1 : Int → (List Int) → Prop) (Λ2 : (List Int) → Int → (List Int) → (List (List Edt)) → Prop) (p : (List Lin)) (h : (List (List Edt))) (set_ : (List Int)) (y0 : (List Lin)) (y1 : (List Int)) (y2 : Int) : Prop :=
  True ∧ (if ((err7 p h) != (0 : Int)) = true then (([] : List Int) = y1 ∧ (err7 p h) = y2 ∧ ([] : List Lin) = y0) else ((set_ = [0] ∧ (List.length h : Int) = 3) ∧ (set_.length ≤ 1000000 ∧ Λ1 (0 : Int) set_)))
def cRevert7_1 (Λ1 : Int → (List Int) → Prop) (Λ2 : (List Int) → Int → (List Int) → (List (List Edt)) → Prop) (p : (List Lin)) (h : (List (List Edt))) (set_ : (List Int)) (y0 : (List Lin)) (y1 : (List Int)) (y2 : Int)  (t32_1 : Int) (gone_1 : (List Int)) : Prop :=
  if (decide (t32_1 < (List.length set_ : Int))) = true then (idx t32_1 (List.length set_ : Int) ∧ ((h = sH ∧ (List.getD set_ (Int.toNat t32_1) 0) = 0) ∧ (List.length gone_1 + List.length ([2]) ≤ 4294967296 ∧ (inI (t32_1 + (1 : Int)) ∧ Λ1 (t32_1 + (1 : Int)) (gone_1 ++ ([2])))))) else Λ2 gone_1 (0 : Int) ([] : List Int) ([] : List (List Edt))
def cRevert7_2 (Λ1 : Int → (List Int) → Prop) (Λ2 : (List Int) → Int → (List Int) → (List (List Edt)) → Prop) (p : (List Lin)) (h : (List (List Edt))) (set_ : (List Int)) (y0 : (List Lin)) (y1 : (List Int)) (y2 : Int) (gone_1 : (List Int)) (t44_2 : Int) (left_2 : (List Int)) (l_2 : (List (List Edt))) : Prop :=
  if (decide (t44_2 < (List.length h : Int))) = true then (idx t44_2 (List.length h : Int) ∧ (True ∧ (if (!(decide (t44_2 ∈ gone_1))) = true then (List.length left_2 + List.length [t44_2] ≤ 4294967296 ∧ (List.length l_2 + List.length ([(List.getD h (Int.toNat t44_2) ([] : List Edt))]) ≤ 4294967296 ∧ (inI (t44_2 + (1 : Int)) ∧ Λ2 gone_1 (t44_2 + (1 : Int)) (left_2 ++ [t44_2]) (l_2 ++ [(List.getD h (Int.toNat t44_2) ([] : List Edt))])))) else (inI (t44_2 + (1 : Int)) ∧ Λ2 gone_1 (t44_2 + (1 : Int)) left_2 l_2)))) else ((okH p.length l_2 ∧ p.length ≤ 8) ∧ (left_2 = y1 ∧ (0 : Int) = y2 ∧ (playH p l_2) = y0))
theorem cRevert7_law (h : ∀ (p : (List Lin)) (h : (List (List Edt))) (set_ : (List Int)), cRevert7.A.wf (p, h, set_, ()) → (p = sP ∧ h = sH ∧ set_ = [0]) → ∀ (Λ1 : Int → (List Int) → Prop) (Λ2 : (List Int) → Int → (List Int) → (List (List Edt)) → Prop), (∀ (t32_1 : Int) (gone_1 : (List Int)), cRevert7_1 Λ1 Λ2 p h set_ (playH sP [[sT]]) [1] 0 t32_1 gone_1 → Λ1 t32_1 gone_1) → (∀ (gone_1 : (List Int)) (t44_2 : Int) (left_2 : (List Int)) (l_2 : (List (List Edt))), cRevert7_2 Λ1 Λ2 p h set_ (playH sP [[sT]]) [1] 0 gone_1 t44_2 left_2 l_2 → Λ2 gone_1 t44_2 left_2 l_2) → cRevert7_0 Λ1 Λ2 p h set_ (playH sP [[sT]]) [1] 0) : ConOK Go.Proofs.Try.prog 44 cRevert7 := by
  refine lawL (Γ := [(71, cCloneI), (110, cContN), (109, cIsSet), (108, cNeeded0), (96, cPlay0), (36, cVal7)]) (Θ := Th) (n := 66) [([1, 1, 1, 1, 0, 1, 0], ⟨[(0, false), (1, false), (10, true), (30, false), (31, true), (32, true)], [(29, true)]⟩), ([1, 1, 1, 1, 1, 1, 1, 0, 1, 0], ⟨[(0, false), (10, true), (13, true), (14, true), (42, false), (43, true), (44, true)], [(13, true), (14, false), (29, true)]⟩)] ⟨cCloneI_ok, cContN_ok, cIsSet_ok, cNeeded0_ok, cPlay0_ok, cVal7_ok, trivial⟩ (by kernel_rfl) th_ok mix_ok Go.Proofs.Try.func44 (by kernel_rfl) ?_
  intro x hw hp Λ hC
  have h0 := h x.1 x.2.1 x.2.2.1 hw hp (fun t32_1 gone_1 => Λ [1, 1, 1, 1, 0, 1, 0] ([(0, .d false (.sl tL) x.1), (1, .d false (.sl (.sl tEd)) x.2.1), (10, .own 29 0), (30, .d false (.sl .int) x.2.2.1), (31, .d true .int (List.length x.2.2.1 : Int)), (32, .d true .int t32_1)], [(29, .sl true .int gone_1)])) (fun gone_1 t44_2 left_2 l_2 => Λ [1, 1, 1, 1, 1, 1, 1, 0, 1, 0] ([(0, .d false (.sl tL) x.1), (10, .own 29 0), (13, .own 13 0), (14, .own 14 0), (42, .d false (.sl (.sl tEd)) x.2.1), (43, .d true .int (List.length x.2.1 : Int)), (44, .d true .int t44_2)], [(13, .sl true .int left_2), (14, .sl false (.sl tEd) l_2), (29, .sl true .int gone_1)])) (fun t32_1 gone_1 hb => hC [1, 1, 1, 1, 0, 1, 0] ([(0, .d false (.sl tL) x.1), (1, .d false (.sl (.sl tEd)) x.2.1), (10, .own 29 0), (30, .d false (.sl .int) x.2.2.1), (31, .d true .int (List.length x.2.2.1 : Int)), (32, .d true .int t32_1)], [(29, .sl true .int gone_1)]) (Eq.mpr (by kernel_rfl) hb)) (fun gone_1 t44_2 left_2 l_2 hb => hC [1, 1, 1, 1, 1, 1, 1, 0, 1, 0] ([(0, .d false (.sl tL) x.1), (10, .own 29 0), (13, .own 13 0), (14, .own 14 0), (42, .d false (.sl (.sl tEd)) x.2.1), (43, .d true .int (List.length x.2.1 : Int)), (44, .d true .int t44_2)], [(13, .sl true .int left_2), (14, .sl false (.sl tEd) l_2), (29, .sl true .int gone_1)]) (Eq.mpr (by kernel_rfl) hb))
  exact Eq.mpr (by kernel_rfl) h0
theorem cRevert7_ok : ConOK Go.Proofs.Try.prog 44 cRevert7 := by
  refine cRevert7_law ?_
  intro p h set_ hw hp Λ1 Λ2 h1 h2
  unfold cRevert7_0
  obtain ⟨rfl, rfl, rfl⟩ := hp
  have he : err7 sP sH = 0 := by decide +kernel
  refine ⟨trivial, ?_⟩
  rw [if_neg (by rw [he]; simp)]
  refine ⟨⟨rfl, rfl⟩, ?_⟩
  refine ⟨by decide, ?_⟩
  have t3 : Λ2 [0, 2] 3 [1] [[sT]] := by
    apply h2; unfold cRevert7_2; rw [if_neg (by decide)]
    exact ⟨⟨fun x hx e he => by
      simp at hx; subst hx
      simp at he; subst he
      exact ⟨by decide, by decide⟩, by decide⟩, rfl, rfl, rfl⟩
  have t2 : Λ2 [0, 2] 2 [1] [[sT]] := by
    apply h2; unfold cRevert7_2; rw [if_pos (by decide)]
    refine ⟨⟨by decide, by decide⟩, trivial, ?_⟩
    rw [if_neg (by decide)]
    exact ⟨by unfold inI; decide, t3⟩
  have t1 : Λ2 [0, 2] 1 [] [] := by
    apply h2; unfold cRevert7_2; rw [if_pos (by decide)]
    refine ⟨⟨by decide, by decide⟩, trivial, ?_⟩
    rw [if_pos (by decide)]
    exact ⟨by decide, by decide, by unfold inI; decide, t2⟩
  have t0 : Λ2 [0, 2] 0 [] [] := by
    apply h2; unfold cRevert7_2; rw [if_pos (by decide)]
    refine ⟨⟨by decide, by decide⟩, trivial, ?_⟩
    rw [if_neg (by decide)]
    exact ⟨by unfold inI; decide, t1⟩
  have u1 : Λ1 1 [0, 2] := by
    apply h1; unfold cRevert7_1; rw [if_neg (by decide)]
    exact t0
  apply h1; unfold cRevert7_1; rw [if_pos (by decide)]
  exact ⟨⟨by decide, by decide⟩, ⟨rfl, by decide⟩, by decide, by unfold inI; decide, u1⟩
abbrev cNumb : Con := { A := (.cons (.sl tL) (.cons (.sl (.sl tEd)) (.cons .int .nil))), R := (.cons .int .nil), pre := fun x => x.1 = sP ∧ x.2.1 = sH ∧ x.2.2.1 = 2, F := fun x => (0, ()) }
def cNumb_0  (p : (List Lin)) (h : (List (List Edt))) (n : Int) (y0 : Int) : Prop :=
  True ∧ (if ((err7 p h) != (0 : Int)) = true then ((err7 p h) = y0 ∧ True) else (inI ((List.length h : Int) - (1 : Int)) ∧ (True ∧ (if (!(within n (0 : Int) ((List.length h : Int) - (1 : Int)))) = true then ((4 : Int) = y0 ∧ True) else ((0 : Int) = y0 ∧ True)))))
theorem cNumb_law (h : ∀ (p : (List Lin)) (h : (List (List Edt))) (n : Int), cNumb.A.wf (p, h, n, ()) → (p = sP ∧ h = sH ∧ n = 2) → cNumb_0  p h n 0) : ConOK Go.Proofs.Try.prog 107 cNumb := by
  refine lawL (Γ := [(36, cVal7), (101, cWithin7)]) (Θ := Th) (n := 20) [] ⟨cVal7_ok, cWithin7_ok, trivial⟩ (by kernel_rfl) th_ok mix_ok Go.Proofs.Try.func107 (by kernel_rfl) ?_
  intro x hw hp Λ hC
  have h0 := h x.1 x.2.1 x.2.2.1 hw hp  
  exact Eq.mpr (by kernel_rfl) h0
theorem cNumb_ok : ConOK Go.Proofs.Try.prog 107 cNumb := by
  refine cNumb_law ?_
  intro p h n hw hp
  unfold cNumb_0
  obtain ⟨rfl, rfl, rfl⟩ := hp
  have he : err7 sP sH = 0 := by decide +kernel
  refine ⟨trivial, ?_⟩
  rw [if_neg (by rw [he]; simp)]
  refine ⟨by unfold inI; decide, trivial, ?_⟩
  rw [if_neg (by decide)]
  exact ⟨rfl, trivial⟩
end Go.Tk
set_option linter.unusedSimpArgs false
set_option linter.unusedVariables false
set_option linter.unnecessarySimpa false
namespace Go.Tk
open Go Go.RowKit

def upI : Nat → List Int
  | 0 => []
  | n + 1 => upI n ++ [(n : Int)]
theorem upI_len : ∀ n, (upI n).length = n
  | 0 => rfl
  | n + 1 => by unfold upI; rw [List.length_append, upI_len n]; rfl
theorem upI_get : ∀ n i, i < n → (upI n).getD i 0 = (i : Int)
  | 0, i, h => by omega
  | n + 1, i, h => by
    unfold upI
    rw [List.getD_eq_getElem?_getD, List.getElem?_append]
    by_cases e : i < n
    · rw [if_pos (by rw [upI_len]; exact e), ← List.getD_eq_getElem?_getD, upI_get n i e]
    · have : i = n := by omega
      subst this
      rw [if_neg (by rw [upI_len]; omega), upI_len]; simp

abbrev cSameL4 : Con := { A := (.cons (.sl tL) (.cons (.sl tL) .nil)), R := (.cons .bool .nil), pre := fun x => x.1.length ≤ 1000000, F := fun x => (decide (x.1 = x.2.1), ()) }
def cSameL4_0 (Λ1 : Int → Prop) (p : (List Lin)) (q : (List Lin)) (y0 : Bool) : Prop :=
  if ((List.length p : Int) != (List.length q : Int)) = true then (false = y0 ∧ True) else Λ1 (0 : Int)
def cSameL4_1 (Λ1 : Int → Prop) (p : (List Lin)) (q : (List Lin)) (y0 : Bool)  (i_1 : Int) : Prop :=
  if (decide (i_1 < (List.length p : Int))) = true then (idx i_1 (List.length p : Int) ∧ (idx i_1 (List.length q : Int) ∧ (if (!(T.eqB tL (List.getD p (Int.toNat i_1) tL.dflt) (List.getD q (Int.toNat i_1) tL.dflt))) = true then (false = y0 ∧ True) else (inI (i_1 + (1 : Int)) ∧ Λ1 (i_1 + (1 : Int)))))) else (true = y0 ∧ True)
theorem cSameL4_law (h : ∀ (p : (List Lin)) (q : (List Lin)), cSameL4.A.wf (p, q, ()) → (p.length ≤ 1000000) → ∀ (Λ1 : Int → Prop), (∀ (i_1 : Int), cSameL4_1 Λ1 p q (decide (p = q)) i_1 → Λ1 i_1) → cSameL4_0 Λ1 p q (decide (p = q))) : ConOK Go.Proofs.Try.prog 39 cSameL4 := by
  refine lawL (Γ := []) (Θ := Th) (n := 26) [([1, 1, 0, 1, 0], ⟨[(0, false), (1, false), (5, true)], []⟩)] trivial (by kernel_rfl) th_ok mix_ok Go.Proofs.Try.func39 (by kernel_rfl) ?_
  intro x hw hp Λ hC
  have h0 := h x.1 x.2.1 hw hp (fun i_1 => Λ [1, 1, 0, 1, 0] ([(0, .d false (.sl tL) x.1), (1, .d false (.sl tL) x.2.1), (5, .d true .int i_1)], [])) (fun i_1 hb => hC [1, 1, 0, 1, 0] ([(0, .d false (.sl tL) x.1), (1, .d false (.sl tL) x.2.1), (5, .d true .int i_1)], []) (Eq.mpr (by kernel_rfl) hb))
  exact Eq.mpr (by kernel_rfl) h0
theorem cSameL4_ok : ConOK Go.Proofs.Try.prog 39 cSameL4 := by
  refine cSameL4_law ?_
  intro p q hw hp Λ1 h1
  unfold cSameL4_0
  by_cases hl : p.length = q.length
  · rw [if_neg (by simp [hl])]
    refine upto (n := p.length) (Q := fun i => p.take i = q.take i → Λ1 i) ?_ ?_ 0 (Nat.zero_le _) rfl
    · intro ha
      rw [List.take_length, List.take_of_length_le (by omega)] at ha
      apply h1; unfold cSameL4_1; rw [if_neg (by simp)]
      exact ⟨by simp [ha], trivial⟩
    · intro i hi ih ha
      apply h1; unfold cSameL4_1; rw [if_pos (by simpa using hi), Int.toNat_natCast]
      refine ⟨idx_nat hi, idx_nat (by omega), ?_⟩
      have heq := eqB_iff (t := tL) (x := List.getD p i tL.dflt) (y := List.getD q i tL.dflt) rfl
      by_cases hv : List.getD p i tL.dflt = List.getD q i tL.dflt
      · rw [if_neg (by rw [heq.2 hv]; simp)]
        exact ⟨inI_succ hi (by omega), ih (take_eq_next tL.dflt hi hl ha hv)⟩
      · rw [if_pos (by
          cases hq : T.eqB tL (List.getD p i tL.dflt) (List.getD q i tL.dflt)
          · rfl
          · exact absurd (heq.1 hq) hv)]
        exact ⟨by simp [ne_at tL.dflt hv], trivial⟩
  · rw [if_pos (by simp; omega)]
    exact ⟨by simp; exact fun e => hl (by rw [e]), trivial⟩
abbrev cLong7 : Con := { A := (.cons (.sl tL) (.cons (.sl (.sl tEd)) .nil)), R := (.cons .bool .nil), pre := fun x => True, F := fun x => (decide (∃ x' ∈ x.2.1, 50 < x'.length) || decide (100 < x.1.length) || decide (50 < x.2.1.length), ()) }
def cLong7_0 (Λ1 : Int → Prop) (p : (List Lin)) (h : (List (List Edt))) (y0 : Bool) : Prop :=
  Λ1 (0 : Int)
def cLong7_1 (Λ1 : Int → Prop) (p : (List Lin)) (h : (List (List Edt))) (y0 : Bool)  (i_1 : Int) : Prop :=
  if (decide (i_1 < (List.length h : Int))) = true then (idx i_1 (List.length h : Int) ∧ (if (decide ((List.length (List.getD h (Int.toNat i_1) ([] : List Edt)) : Int) > (50 : Int))) = true then (true = y0 ∧ True) else (inI (i_1 + (1 : Int)) ∧ Λ1 (i_1 + (1 : Int))))) else (if (decide ((List.length p : Int) > (100 : Int))) = true then (true = true ∧ (true = y0 ∧ True)) else (True ∧ ((bif false then true else (decide ((List.length h : Int) > (50 : Int)))) = y0 ∧ True)))
theorem cLong7_law (h : ∀ (p : (List Lin)) (h : (List (List Edt))), cLong7.A.wf (p, h, ()) → ∀ (Λ1 : Int → Prop), (∀ (i_1 : Int), cLong7_1 Λ1 p h (decide (∃ x' ∈ h, 50 < x'.length) || decide (100 < p.length) || decide (50 < h.length)) i_1 → Λ1 i_1) → cLong7_0 Λ1 p h (decide (∃ x' ∈ h, 50 < x'.length) || decide (100 < p.length) || decide (50 < h.length))) : ConOK Go.Proofs.Try.prog 34 cLong7 := by
  refine lawL (Γ := []) (Θ := Th) (n := 26) [([1, 0, 1, 0], ⟨[(0, false), (1, false), (5, true)], []⟩)] trivial (by kernel_rfl) th_ok mix_ok Go.Proofs.Try.func34 (by kernel_rfl) ?_
  intro x hw hp Λ hC
  have h0 := h x.1 x.2.1 hw (fun i_1 => Λ [1, 0, 1, 0] ([(0, .d false (.sl tL) x.1), (1, .d false (.sl (.sl tEd)) x.2.1), (5, .d true .int i_1)], [])) (fun i_1 hb => hC [1, 0, 1, 0] ([(0, .d false (.sl tL) x.1), (1, .d false (.sl (.sl tEd)) x.2.1), (5, .d true .int i_1)], []) (Eq.mpr (by kernel_rfl) hb))
  exact Eq.mpr (by kernel_rfl) h0
theorem cLong7_ok : ConOK Go.Proofs.Try.prog 34 cLong7 := by
  refine cLong7_law ?_
  intro p h hw Λ1 h1
  unfold cLong7_0
  have hlh : h.length ≤ 140737488355328 := hw.2.1.1
  refine upto (n := h.length) (Q := fun i => (∀ x ∈ h.take i, ¬ 50 < x.length) → Λ1 (i : Int)) ?_ ?_ 0 (Nat.zero_le _) (fun x hx => by simp at hx)
  · intro ha
    rw [List.take_length] at ha
    apply h1; unfold cLong7_1
    rw [if_neg (by simp)]
    have hx : decide (∃ x' ∈ h, 50 < x'.length) = false := decide_eq_false (fun ⟨x, h1, h2⟩ => ha x h1 h2)
    rw [hx]
    by_cases c : p.length > 100
    · rw [if_pos (by simp; omega)]; exact ⟨rfl, by simp; omega, trivial⟩
    · rw [if_neg (by simp; omega)]
      refine ⟨trivial, ?_, trivial⟩
      have : decide (100 < p.length) = false := decide_eq_false (by omega)
      rw [this, Bool.eq_iff_iff]
      simp
      omega
  · intro i hi ih ha
    apply h1; unfold cLong7_1
    rw [if_pos (by simpa using hi), Int.toNat_natCast]
    refine ⟨idx_nat hi, ?_⟩
    by_cases c : (List.getD h i []).length > 50
    · rw [if_pos (by refine decide_eq_true ?_; omega)]
      refine ⟨?_, trivial⟩
      have : decide (∃ x' ∈ h, 50 < x'.length) = true := decide_eq_true ⟨_, mem_getD hi, c⟩
      rw [this]; rfl
    · rw [if_neg (by rw [decide_eq_true_eq]; omega)]
      refine ⟨inI_succ hi hlh, ih fun x hx => ?_⟩
      rw [take_snoc [] hi] at hx
      rcases List.mem_append.1 hx with g | g
      · exact ha x g
      · simp only [List.mem_singleton] at g; subst g; omega
end Go.Tk
/- Plain facts: which repairs need which, and what is done in another order (layer 7). No program in sight. -/
set_option linter.unusedSimpArgs false
set_option linter.unusedVariables false
set_option linter.unnecessarySimpa false
namespace Go.Tk
open Go Go.RowKit

/-! ### Numbers below n with a property -/
def selTo (p : Nat → Bool) : Nat → List Int
  | 0 => []
  | n + 1 => selTo p n ++ if p n = true then [(n : Int)] else []
theorem selTo_len (p : Nat → Bool) : ∀ n, (selTo p n).length ≤ n
  | 0 => Nat.le_refl _
  | n + 1 => by
    unfold selTo
    rw [List.length_append]
    have := selTo_len p n
    split <;> simp <;> omega
theorem selTo_mem {p : Nat → Bool} {x : Int} : ∀ {n}, x ∈ selTo p n ↔ ∃ k, k < n ∧ x = (k : Int) ∧ p k = true
  | 0 => by simp [selTo]
  | n + 1 => by
    unfold selTo
    rw [List.mem_append, selTo_mem (n := n)]
    constructor
    · rintro (⟨k, h1, h2, h3⟩ | h)
      · exact ⟨k, by omega, h2, h3⟩
      · split at h
        · rename_i hp
          simp at h
          exact ⟨n, by omega, h, hp⟩
        · simp at h
    · rintro ⟨k, h1, h2, h3⟩
      by_cases e : k = n
      · subst e
        right; rw [if_pos h3]; simp [h2]
      · exact .inl ⟨k, by omega, h2, h3⟩
theorem selTo_has {p : Nat → Bool} {n k : Nat} : (k : Int) ∈ selTo p n ↔ k < n ∧ p k = true := by
  rw [selTo_mem]
  constructor
  · rintro ⟨j, h1, h2, h3⟩
    obtain rfl : k = j := by omega
    exact ⟨h1, h3⟩
  · rintro ⟨h1, h2⟩
    exact ⟨k, h1, rfl, h2⟩
theorem selTo_congr {p q : Nat → Bool} : ∀ {n}, (∀ k, k < n → p k = q k) → selTo p n = selTo q n
  | 0, _ => rfl
  | n + 1, h => by
    unfold selTo
    rw [selTo_congr (n := n) fun k hk => h k (by omega), h n (by omega)]
theorem selTo_none {p : Nat → Bool} : ∀ {n}, (∀ k, k < n → p k = false) → selTo p n = []
  | 0, _ => rfl
  | n + 1, h => by
    unfold selTo
    rw [selTo_none (n := n) fun k hk => h k (by omega), h n (by omega)]; rfl
theorem selTo_all {p : Nat → Bool} : ∀ {n}, (∀ k, k < n → p k = true) → selTo p n = upI n
  | 0, _ => rfl
  | n + 1, h => by
    unfold selTo upI
    rw [selTo_all (n := n) fun k hk => h k (by omega), if_pos (h n (by omega))]
theorem upI_mem {n : Nat} {x : Int} : x ∈ upI n ↔ 0 ≤ x ∧ x < n := by
  induction n with
  | zero => simp [upI]
  | succ n ih =>
    unfold upI
    rw [List.mem_append, ih]
    simp
    omega

/-! ### Needs -/
def tch (h : List (List Edt)) (a b : Nat) : Bool := touchB h a b
theorem any_swap {α β : Type} (p : α → β → Bool) (l : List α) (k : List β) : (l.any fun x => k.any fun y => p x y) = (k.any fun y => l.any fun x => p x y) := by
  rw [Bool.eq_iff_iff]
  simp only [List.any_eq_true]
  exact ⟨fun ⟨x, h1, y, h2, h3⟩ => ⟨y, h2, x, h1, h3⟩, fun ⟨x, h1, y, h2, h3⟩ => ⟨y, h2, x, h1, h3⟩⟩
theorem touchB_comm (h : List (List Edt)) (a b : Int) : touchB h a b = touchB h b a := by
  unfold touchB
  rw [any_swap]
  congr 1; funext x; congr 1; funext y
  rw [Bool.eq_iff_iff]; simp; exact eq_comm
theorem tch_comm (h : List (List Edt)) (a b : Nat) : tch h a b = tch h b a := touchB_comm h a b
theorem dirTo_sel (h : List (List Edt)) (n : Nat) : ∀ k, dirTo h (n : Int) k = selTo (fun k => tch h k n) k
  | 0 => rfl
  | k + 1 => by unfold dirTo selTo; rw [dirTo_sel h n k]; rfl

/-- n needs m; f: more than n. -/
def ndF (h : List (List Edt)) : Nat → Nat → Nat → Bool
  | 0, _, _ => false
  | f + 1, n, m => decide (m < n) && (tch h m n || (List.range n).any fun k => tch h k n && ndF h f k m)
def need (h : List (List Edt)) (n m : Nat) : Bool := ndF h (n + 1) n m
theorem ndF_any (h : List (List Edt)) : ∀ f g n m, n < f → n < g → ndF h f n m = ndF h g n m
  | 0, _, _, _, hf, _ => by omega
  | _ + 1, 0, _, _, _, hg => by omega
  | f + 1, g + 1, n, m, hf, hg => by
    unfold ndF
    congr 2
    rw [Bool.eq_iff_iff]
    simp only [List.any_eq_true, List.mem_range, Bool.and_eq_true]
    constructor
    · rintro ⟨k, h1, h2, h3⟩
      exact ⟨k, h1, h2, by rw [← h3]; exact (ndF_any h f g k m (by omega) (by omega)).symm⟩
    · rintro ⟨k, h1, h2, h3⟩
      exact ⟨k, h1, h2, by rw [← h3]; exact (ndF_any h f g k m (by omega) (by omega))⟩
theorem need_iff {h : List (List Edt)} {n m : Nat} : need h n m = true ↔ m < n ∧ (tch h m n = true ∨ ∃ k, k < n ∧ tch h k n = true ∧ need h k m = true) := by
  unfold need
  rw [ndF]
  simp only [List.any_eq_true, List.mem_range, Bool.and_eq_true, Bool.or_eq_true, decide_eq_true_eq]
  constructor
  · rintro ⟨h1, h2 | ⟨k, h2, h3, h4⟩⟩
    · exact ⟨h1, .inl h2⟩
    · exact ⟨h1, .inr ⟨k, h2, h3, by rw [← h4]; exact ndF_any h _ _ k m (by omega) (by omega)⟩⟩
  · rintro ⟨h1, h2 | ⟨k, h2, h3, h4⟩⟩
    · exact ⟨h1, .inl h2⟩
    · exact ⟨h1, .inr ⟨k, h2, h3, by rw [← h4]; exact ndF_any h _ _ k m (by omega) (by omega)⟩⟩
theorem need_lt {h : List (List Edt)} {n m : Nat} (e : need h n m = true) : m < n := (need_iff.1 e).1
theorem need_dir {h : List (List Edt)} {n m : Nat} (hm : m < n) (e : tch h m n = true) : need h n m = true := need_iff.2 ⟨hm, .inl e⟩
theorem need_trans {h : List (List Edt)} : ∀ {n k m : Nat}, need h n k = true → need h k m = true → need h n m = true := by
  intro n
  induction n using Nat.strongRecOn with
  | ind n ih =>
    intro k m h1 h2
    have hk := need_lt h1
    have hm := need_lt h2
    rcases (need_iff.1 h1).2 with g | ⟨j, g1, g2, g3⟩
    · exact need_iff.2 ⟨by omega, .inr ⟨k, hk, g, h2⟩⟩
    · exact need_iff.2 ⟨by omega, .inr ⟨j, g1, g2, ih j g1 g3 h2⟩⟩
/-- What has all that is needed directly has all that is needed. -/
theorem need_closed {h : List (List Edt)} {S : Nat → Prop} (h2 : ∀ j, S j → ∀ k, k < j → tch h k j = true → S k) : ∀ {n m : Nat}, need h n m = true → (∀ k, k < n → tch h k n = true → S k) → S m := by
  intro n
  induction n using Nat.strongRecOn with
  | ind n ih =>
    intro m e h1
    rcases (need_iff.1 e).2 with g | ⟨k, g1, g2, g3⟩
    · exact h1 m (need_iff.1 e).1 g
    · exact ih k g1 g3 fun j hj hj2 => h2 k (h1 k g1 g2) j hj hj2

/-! ### The search for what a repair needs -/
def offs (L : List Bool) : Nat := (L.filter fun b => !b).length
theorem offs_set {L : List Bool} {i : Nat} (hi : i < L.length) (e : L.getD i false = false) : offs (L.set i true) + 1 = offs L := by
  induction L generalizing i with
  | nil => simp at hi
  | cons b L ih =>
    cases i with
    | zero =>
      simp at e; subst e
      simp [offs]
    | succ i =>
      have := ih (i := i) (by simpa using hi) (by simpa using e)
      simp only [offs] at this ⊢
      cases b <;> simp_all
theorem offs_le (L : List Bool) : offs L ≤ L.length := List.length_filter_le ..

structure Srch (h : List (List Edt)) (n : Nat) (L : List Bool) (o : List Int) : Prop where
  len : L.length = h.length
  mem : ∀ k ∈ o, ∃ j : Nat, k = (j : Int) ∧ need h n j = true
  sub : ∀ k, L.getD k false = true → need h n k = true
  one : ∀ k, k < n → tch h k n = true → L.getD k false = true ∨ (k : Int) ∈ o
  all : ∀ j, L.getD j false = true → ∀ k, k < j → tch h k j = true → L.getD k false = true ∨ (k : Int) ∈ o
theorem Srch.start {h : List (List Edt)} {n : Nat} : Srch h n (List.replicate h.length false) (dirTo h n n) := by
  have e : ∀ k, (List.replicate h.length false).getD k false = false := by
    intro k
    simp only [List.getD_eq_getElem?_getD, List.getElem?_replicate]
    split <;> rfl
  refine ⟨by simp, fun k hk => ?_, fun k hk => (by rw [e] at hk; cases hk), fun k hk ht => .inr ?_, fun j hj => (by rw [e] at hj; cases hj)⟩
  · rw [dirTo_sel, selTo_mem] at hk
    obtain ⟨j, h1, h2, h3⟩ := hk
    exact ⟨j, h2, need_dir h1 h3⟩
  · rw [dirTo_sel, selTo_has]
    exact ⟨hk, ht⟩
theorem getD_set_b {L : List Bool} {i j : Nat} : (L.set i true).getD j false = if i = j ∧ i < L.length then true else L.getD j false := by
  simp only [List.getD_eq_getElem?_getD, List.getElem?_set]
  by_cases e : i = j
  · subst e
    by_cases hi : i < L.length
    · simp [hi]
    · simp [hi]
  · simp [e]
theorem Srch.old {h : List (List Edt)} {n : Nat} {L : List Bool} {j : Nat} {o : List Int} (s : Srch h n L ((j : Int) :: o)) (e : L.getD j false = true) : Srch h n L o := by
  refine ⟨s.len, fun k hk => s.mem k (List.mem_cons_of_mem _ hk), s.sub, fun k hk ht => ?_, fun i hi k hk ht => ?_⟩
  · rcases s.one k hk ht with g | g
    · exact .inl g
    · rcases List.mem_cons.1 g with g | g
      · obtain rfl : k = j := by omega
        exact .inl e
      · exact .inr g
  · rcases s.all i hi k hk ht with g | g
    · exact .inl g
    · rcases List.mem_cons.1 g with g | g
      · obtain rfl : k = j := by omega
        exact .inl e
      · exact .inr g
theorem Srch.new {h : List (List Edt)} {n : Nat} {L : List Bool} {j : Nat} {o : List Int} (s : Srch h n L ((j : Int) :: o)) (hj : j < h.length) : Srch h n (L.set j true) (o ++ dirTo h j j) := by
  have hn : need h n j = true := by
    obtain ⟨i, h1, h2⟩ := s.mem _ (List.mem_cons_self ..)
    obtain rfl : j = i := by omega
    exact h2
  have hjl : j < L.length := by rw [s.len]; exact hj
  have up : ∀ k, (L.getD k false = true ∨ (k : Int) ∈ (j : Int) :: o) → (L.set j true).getD k false = true ∨ (k : Int) ∈ o ++ dirTo h j j := by
    intro k hk
    rw [getD_set_b]
    by_cases e : j = k
    · left; rw [if_pos ⟨e, hjl⟩]
    · rw [if_neg (fun q => e q.1)]
      rcases hk with g | g
      · exact .inl g
      · rcases List.mem_cons.1 g with g | g
        · omega
        · exact .inr (List.mem_append_left _ g)
  refine ⟨by simpa using s.len, fun k hk => ?_, fun k hk => ?_, fun k hk ht => up k (s.one k hk ht), fun i hi k hk ht => ?_⟩
  · rcases List.mem_append.1 hk with g | g
    · exact s.mem k (List.mem_cons_of_mem _ g)
    · rw [dirTo_sel, selTo_mem] at g
      obtain ⟨i, h1, h2, h3⟩ := g
      exact ⟨i, h2, need_trans hn (need_dir h1 h3)⟩
  · rw [getD_set_b] at hk
    split at hk
    · rename_i g
      rw [← g.1]; exact hn
    · exact s.sub k hk
  · rw [getD_set_b] at hi
    split at hi
    · rename_i g
      obtain rfl := g.1
      right
      apply List.mem_append_right
      rw [dirTo_sel, selTo_has]
      exact ⟨hk, ht⟩
    · exact up k (s.all i hi k hk ht)
theorem Srch.done {h : List (List Edt)} {n : Nat} {L : List Bool} (s : Srch h n L []) (k : Nat) : L.getD k false = need h n k := by
  cases e : need h n k
  · cases e2 : L.getD k false
    · rfl
    · rw [s.sub k e2] at e; cases e
  · exact need_closed (h := h) (S := fun k => L.getD k false = true) (fun j hj i hi ht => (s.all j hj i hi ht).resolve_right (by simp)) e fun i hi ht => (s.one i hi ht).resolve_right (by simp)

def needsL (h : List (List Edt)) (n : Nat) : List Int := selTo (need h n) h.length
def neededL (h : List (List Edt)) (n : Nat) : List Int := selTo (fun k => need h k n) h.length
theorem needsL_has {h : List (List Edt)} {n k : Nat} (hn : n < h.length) : (k : Int) ∈ needsL h n ↔ need h n k = true := by
  unfold needsL
  rw [selTo_has]
  exact ⟨fun q => q.2, fun q => ⟨by have := need_lt q; omega, q⟩⟩

/-! ### What is left -/
def goneB (h : List (List Edt)) (s : List Int) (n : Nat) : Bool := decide ((n : Int) ∈ s) || s.any fun k => need h n k.toNat
def leftN (h : List (List Edt)) (s : List Int) (n : Nat) : List Int := selTo (fun k => !goneB h s k) n
def leftH (h : List (List Edt)) (s : List Int) : Nat → List (List Edt)
  | 0 => []
  | n + 1 => leftH h s n ++ if goneB h s n = true then [] else [h.getD n []]
theorem leftH_map (h : List (List Edt)) (s : List Int) : ∀ n, leftH h s n = (leftN h s n).map fun k => h.getD k.toNat []
  | 0 => rfl
  | n + 1 => by
    have ih := leftH_map h s n
    unfold leftN at ih ⊢
    unfold leftH selTo
    rw [List.map_append, ← ih]
    cases goneB h s n <;> simp
theorem leftH_len (h : List (List Edt)) (s : List Int) : ∀ n, (leftH h s n).length ≤ n
  | 0 => Nat.le_refl _
  | n + 1 => by
    unfold leftH
    rw [List.length_append]
    have := leftH_len h s n
    split <;> simp <;> omega
theorem leftH_mem {h : List (List Edt)} {s : List Int} : ∀ {n}, n ≤ h.length → ∀ x ∈ leftH h s n, x ∈ h
  | 0, _, x, hx => by simp [leftH] at hx
  | n + 1, hn, x, hx => by
    unfold leftH at hx
    rcases List.mem_append.1 hx with g | g
    · exact leftH_mem (by omega) x g
    · split at g
      · simp at g
      · simp at g; subst g
        exact mem_getD (d := []) (by omega)
/-- A set of numbers below n. -/
def okSet : List Int → Nat → Nat → Bool
  | _, _, 0 => true
  | l, n, i + 1 => okSet l n i && (decide (0 ≤ l.getD i 0) && decide (l.getD i 0 < (n : Int)) && !(decide (i > 0) && decide (l.getD i 0 ≤ l.getD (i - 1) 0)))
def isSetB (l : List Int) (n : Nat) : Bool := okSet l n l.length
theorem okSet_at {l : List Int} {n : Nat} : ∀ {m}, okSet l n m = true → ∀ i, i < m → 0 ≤ l.getD i 0 ∧ l.getD i 0 < n
  | 0, _, i, hi => by omega
  | m + 1, h, i, hi => by
    unfold okSet at h
    simp only [Bool.and_eq_true, decide_eq_true_eq] at h
    by_cases e : i = m
    · subst e; exact h.2.1
    · exact okSet_at h.1 i (by omega)
theorem okSet_false {l : List Int} {n i : Nat} (h : (decide (0 ≤ l.getD i 0) && decide (l.getD i 0 < (n : Int)) && !(decide (i > 0) && decide (l.getD i 0 ≤ l.getD (i - 1) 0))) = false) : ∀ m, i < m → okSet l n m = false
  | 0, hn => by omega
  | m + 1, hn => by
    unfold okSet
    by_cases e : i = m
    · subst e; rw [h, Bool.and_false]
    · rw [okSet_false h m (by omega), Bool.false_and]
theorem isSetB_mem {l : List Int} {n : Nat} (h : isSetB l n = true) : ∀ x ∈ l, 0 ≤ x ∧ x < n := by
  intro x hx
  obtain ⟨i, hi, rfl⟩ := List.getElem_of_mem hx
  have := okSet_at h i hi
  simpa [List.getD_eq_getElem?_getD, hi] using this
theorem okSet_step {l : List Int} {n : Nat} : ∀ {m}, okSet l n m = true → ∀ i, i < m → 0 < i → l.getD (i - 1) 0 < l.getD i 0
  | 0, _, i, hi, _ => by omega
  | m + 1, h, i, hi, h0 => by
    unfold okSet at h
    simp only [Bool.and_eq_true, decide_eq_true_eq, Bool.not_eq_true', Bool.and_eq_false_iff, decide_eq_false_iff_not] at h
    by_cases e : i = m
    · subst e
      rcases h.2.2 with g | g
      · exact absurd h0 g
      · omega
    · exact okSet_step h.1 i (by omega) h0
theorem okSet_ge {l : List Int} {n m : Nat} (h : okSet l n m = true) : ∀ i, i < m → (i : Int) ≤ l.getD i 0
  | 0, hi => (okSet_at h 0 hi).1
  | i + 1, hi => by
    have := okSet_ge h i (by omega)
    have := okSet_step h (i + 1) hi (by omega)
    rw [show i + 1 - 1 = i by omega] at this
    omega
theorem isSetB_len {l : List Int} {n : Nat} (h : isSetB l n = true) : l.length ≤ n := by
  by_cases e : l.length = 0
  · omega
  · have h1 := okSet_ge h (l.length - 1) (by omega)
    have h2 := okSet_at h (l.length - 1) (by omega)
    omega
theorem okSet_up (n N : Nat) (hn : n ≤ N) : ∀ m, m ≤ n → okSet (upI n) N m = true
  | 0, _ => rfl
  | m + 1, hm => by
    unfold okSet
    rw [okSet_up n N hn m (by omega), upI_get n m (by omega)]
    simp only [Bool.true_and, Bool.and_eq_true, decide_eq_true_eq, Bool.not_eq_true', Bool.and_eq_false_iff, decide_eq_false_iff_not]
    refine ⟨⟨by omega, by omega⟩, ?_⟩
    by_cases e : m > 0
    · right; rw [upI_get n (m - 1) (by omega)]; omega
    · exact .inl e
theorem isSetB_up (n : Nat) : isSetB (upI n) n = true := by
  unfold isSetB; rw [upI_len]; exact okSet_up n n (Nat.le_refl _) n (Nat.le_refl _)
theorem errH_iff {n : Nat} : ∀ {h : List (List Edt)}, errH n h = 0 ↔ ∀ x ∈ h, validX x = 0 ∧ far n x = false
  | [] => by simp [errH]
  | x :: hs => by
    unfold errH
    by_cases hv : validX x = 0
    · rw [if_pos hv]
      cases hf : far n x
      · rw [if_neg (by simp), errH_iff (h := hs)]
        simp [hv, hf]
      · rw [if_pos rfl]
        simp [hf]
    · rw [if_neg hv]
      simp [hv]
theorem err7_sub {p : List Lin} {h k : List (List Edt)} (e : err7 p h = 0) (hk : ∀ x ∈ k, x ∈ h) (hl : k.length ≤ 8) : err7 p k = 0 := by
  unfold err7 at e ⊢
  split at e
  · rename_i hv
    split at e
    · cases e
    · rw [if_pos hv, if_neg (by omega)]
      rw [errH_iff] at e ⊢
      exact fun x hx => e x (hk x hx)
  · rename_i hv; exact absurd e hv

/-! ### What the functions give -/
def nE (p : List Lin) (h : List (List Edt)) (n : Int) : Int := if err7 p h = 0 then (if within n 0 ((h.length : Int) - 1) = true then 0 else 4) else err7 p h
def okN (p : List Lin) (h : List (List Edt)) (n : Int) : Prop := err7 p h = 0 ∧ within n 0 ((h.length : Int) - 1) = true
instance (p : List Lin) (h : List (List Edt)) (n : Int) : Decidable (okN p h n) := inferInstanceAs (Decidable (_ ∧ _))
def dirV (p : List Lin) (h : List (List Edt)) (n : Int) : List Int := if okN p h n then dirTo h n n.toNat else []
def needV (p : List Lin) (h : List (List Edt)) (n : Int) : List Int := if okN p h n then needsL h n.toNat else []
def neededV (p : List Lin) (h : List (List Edt)) (n : Int) : List Int := if okN p h n then neededL h n.toNat else []
def okS7 (p : List Lin) (h : List (List Edt)) (s : List Int) : Prop := err7 p h = 0 ∧ isSetB s h.length = true
instance (p : List Lin) (h : List (List Edt)) (s : List Int) : Decidable (okS7 p h s) := inferInstanceAs (Decidable (_ ∧ _))
def revP (p : List Lin) (h : List (List Edt)) (s : List Int) : List Lin := if okS7 p h s then playH p (leftH h s h.length) else []
def revL (p : List Lin) (h : List (List Edt)) (s : List Int) : List Int := if okS7 p h s then leftN h s h.length else []
def revE (p : List Lin) (h : List (List Edt)) (s : List Int) : Int := if err7 p h = 0 then argErr (isSetB s h.length) else err7 p h
def playV (p : List Lin) (h : List (List Edt)) : List Lin := if err7 p h = 0 then playH p h else []
theorem nE_iff {p : List Lin} {h : List (List Edt)} {n : Int} : nE p h n = 0 ↔ okN p h n := by
  unfold nE okN
  by_cases e : err7 p h = 0
  · rw [if_pos e]
    by_cases w : within n 0 ((h.length : Int) - 1) = true
    · rw [if_pos w]; simp [e, w]
    · rw [if_neg w]; simp [w]
  · rw [if_neg e]; simp [e]
theorem okN_at {p : List Lin} {h : List (List Edt)} {n : Int} (e : okN p h n) : 0 ≤ n ∧ n < (h.length : Int) ∧ h.length ≤ 8 := by
  have := within_iff.1 e.2
  have := (err7_ok e.1).2.1
  omega
theorem revE_iff {p : List Lin} {h : List (List Edt)} {s : List Int} : revE p h s = 0 ↔ okS7 p h s := by
  unfold revE okS7
  by_cases e : err7 p h = 0
  · rw [if_pos e, argErr_zero]; simp [e]
  · rw [if_neg e]; simp [e]

/-! ### The document's table of needs -/
def rowN (h : List (List Edt)) (n : Nat) : List Bool := (List.range h.length).map fun k => need h n k
def matN (h : List (List Edt)) : List (List Bool) := (List.range h.length).map fun n => rowN h n
theorem range_map_getD {α : Type} (f : Nat → α) (d : α) (n i : Nat) (hi : i < n) : ((List.range n).map f).getD i d = f i := by
  simp [List.getD_eq_getElem?_getD, hi]
theorem rowN_len (h : List (List Edt)) (n : Nat) : (rowN h n).length = h.length := by simp [rowN]
theorem rowN_get (h : List (List Edt)) {n k : Nat} (hn : n < h.length) : (rowN h n).getD k false = need h n k := by
  by_cases hk : k < h.length
  · exact range_map_getD _ _ _ _ hk
  · rw [List.getD_eq_getElem?_getD, List.getElem?_eq_none (by rw [rowN_len]; omega)]
    cases e : need h n k
    · rfl
    · have := need_lt e; omega
theorem matN_len (h : List (List Edt)) : (matN h).length = h.length := by simp [matN]
theorem matN_row (h : List (List Edt)) {n : Nat} (hn : n < h.length) : (matN h).getD n [] = rowN h n := range_map_getD _ _ _ _ hn
theorem matN_get (h : List (List Edt)) {n k : Nat} (hn : n < h.length) : ((matN h).getD n []).getD k false = need h n k := by
  rw [matN_row h hn, rowN_get h hn]
def outM (h : List (List Edt)) (n : Nat) : List (List Bool) := (List.range h.length).map fun i => if i < n then rowN h i else []
theorem outM_len (h : List (List Edt)) (n : Nat) : (outM h n).length = h.length := by simp [outM]
theorem ext_getD {α : Type} {l k : List α} (d : α) (h : l.length = k.length) (e : ∀ i, i < l.length → l.getD i d = k.getD i d) : l = k := by
  apply List.ext_getElem h
  intro i h1 h2
  have := e i h1
  simpa [List.getD_eq_getElem?_getD, h1, h2] using this
theorem getD_setL {α : Type} {l : List α} {i j : Nat} {a d : α} (hi : i < l.length) : (l.set i a).getD j d = if i = j then a else l.getD j d := by
  simp only [List.getD_eq_getElem?_getD, List.getElem?_set]
  by_cases e : i = j
  · subst e; simp [hi]
  · simp [e]
theorem outM_zero (h : List (List Edt)) : List.replicate h.length ([] : List Bool) = outM h 0 := by
  unfold outM
  apply ext_getD []
  · simp
  · intro i hi
    simp at hi
    rw [range_map_getD _ _ _ _ hi]
    simp [List.getD_eq_getElem?_getD, hi]
theorem outM_succ (h : List (List Edt)) {n : Nat} (hn : n < h.length) : (outM h n).set n (rowN h n) = outM h (n + 1) := by
  apply ext_getD []
  · simp [outM]
  · intro i hi
    simp [outM] at hi
    rw [getD_setL (by simp [outM]; omega)]
    unfold outM
    rw [range_map_getD _ _ _ _ hi, range_map_getD _ _ _ _ hi]
    by_cases e : n = i
    · subst e; simp
    · by_cases g : i < n
      · simp [e, g, show i < n + 1 by omega]
      · simp [e, g, show ¬ i < n + 1 by omega]
theorem outM_end (h : List (List Edt)) : outM h h.length = matN h := by
  unfold outM matN
  apply List.map_congr_left
  intro i hi
  rw [if_pos (List.mem_range.1 hi)]
theorem outM_get (h : List (List Edt)) {n k : Nat} (hn : n < h.length) (hk : k < n) (r : List Bool) : ((outM h n).set n r).getD k [] = rowN h k := by
  rw [getD_setL (by rw [outM_len]; omega), if_neg (by omega)]
  unfold outM
  rw [range_map_getD _ _ _ _ (by omega), if_pos hk]
theorem outM_at (h : List (List Edt)) {n : Nat} (hn : n < h.length) (r : List Bool) : ((outM h n).set n r).getD n [] = r := by
  rw [getD_setL (by rw [outM_len]; omega), if_pos rfl]
def rowP (h : List (List Edt)) (n k j : Nat) : Bool := (decide (j < k) && tch h j n) || (List.range k).any fun i => tch h i n && need h i j
theorem rowP_end (h : List (List Edt)) (n j : Nat) : rowP h n n j = need h n j := by
  rw [Bool.eq_iff_iff, need_iff]
  unfold rowP
  simp only [Bool.or_eq_true, Bool.and_eq_true, decide_eq_true_eq, List.any_eq_true, List.mem_range]
  constructor
  · rintro (⟨h1, h2⟩ | ⟨i, h1, h2, h3⟩)
    · exact ⟨h1, .inl h2⟩
    · exact ⟨by have := need_lt h3; omega, .inr ⟨i, h1, h2, h3⟩⟩
  · rintro ⟨h1, h2 | ⟨i, h3, h4, h5⟩⟩
    · exact .inl ⟨h1, h2⟩
    · exact .inr ⟨i, h3, h4, h5⟩
theorem rowP_skip {h : List (List Edt)} {n k : Nat} (e : tch h k n = false) (j : Nat) : rowP h n (k + 1) j = rowP h n k j := by
  unfold rowP
  rw [List.range_succ, List.any_append]
  simp only [List.any_cons, List.any_nil, e, Bool.false_and, Bool.or_false]
  congr 1
  by_cases g : j = k
  · subst g; simp [e]
  · rw [show decide (j < k + 1) = decide (j < k) by simp; omega]
theorem rowP_take {h : List (List Edt)} {n k : Nat} (e : tch h k n = true) (j : Nat) : rowP h n (k + 1) j = (rowP h n k j || decide (j = k) || (decide (j < k) && need h k j)) := by
  unfold rowP
  rw [List.range_succ, List.any_append]
  simp only [List.any_cons, List.any_nil, e, Bool.true_and, Bool.or_false]
  have hn : (decide (j < k) && need h k j) = need h k j := by
    cases q : need h k j
    · simp
    · have := need_lt q; simp [this]
  rw [hn]
  by_cases g : j = k
  · subst g; simp [e]
  · rw [show decide (j < k + 1) = decide (j < k) by simp; omega]
    simp [g, Bool.or_assoc]
end Go.Tk
set_option linter.unusedSimpArgs false
set_option linter.unusedVariables false
set_option linter.unnecessarySimpa false
namespace Go.Tk
open Go Go.RowKit

abbrev cNeedsG : Con := { A := (.cons (.sl (.sl tEd)) (.cons .int .nil)), R := (.cons (.osl .int) .nil), pre := fun x => 0 ≤ x.2.1 ∧ x.2.1 < (x.1.length : Int) ∧ x.1.length ≤ 8, F := fun x => (needsL x.1 (Int.toNat x.2.1), ()) }
def cNeedsG_0 (Λ1 : (List Bool) → (List Int) → Prop) (Λ2 : (List Bool) → Int → (List Int) → Prop) (h : (List (List Edt))) (n : Int) (y0 : (List Int)) : Prop :=
  mkLen (List.length h : Int) (List.length h : Int) ∧ ((0 ≤ n ∧ n < (h.length : Int) ∧ h.length ≤ 8) ∧ Λ1 (List.replicate (Int.toNat (List.length h : Int)) false) (dirTo h n (Int.toNat n)))
def cNeedsG_1 (Λ1 : (List Bool) → (List Int) → Prop) (Λ2 : (List Bool) → Int → (List Int) → Prop) (h : (List (List Edt))) (n : Int) (y0 : (List Int))  (there_1 : (List Bool)) (open_1 : (List Int)) : Prop :=
  if (decide ((List.length open_1 : Int) > (0 : Int))) = true then (idx (0 : Int) (List.length open_1 : Int) ∧ ((0 ≤ (1 : Int) ∧ (1 : Int) ≤ (List.length open_1 : Int) ∧ (List.length open_1 : Int) ≤ (List.length open_1 : Int) ∧ (List.length open_1 : Int) ≤ (List.length open_1 : Int)) ∧ (idx (List.getD open_1 (Int.toNat (0 : Int)) 0) (List.length there_1 : Int) ∧ (if (!(List.getD there_1 (Int.toNat (List.getD open_1 (Int.toNat (0 : Int)) 0)) false)) = true then (idx (List.getD open_1 (Int.toNat (0 : Int)) 0) (List.length there_1 : Int) ∧ ((0 ≤ (List.getD open_1 (Int.toNat (0 : Int)) 0) ∧ (List.getD open_1 (Int.toNat (0 : Int)) 0) < (h.length : Int) ∧ h.length ≤ 8) ∧ (List.length (List.drop (Int.toNat (1 : Int)) (List.take (Int.toNat (List.length open_1 : Int)) open_1)) + List.length (dirTo h (List.getD open_1 (Int.toNat (0 : Int)) 0) (Int.toNat (List.getD open_1 (Int.toNat (0 : Int)) 0))) ≤ 4294967296 ∧ Λ1 (List.set there_1 (Int.toNat (List.getD open_1 (Int.toNat (0 : Int)) 0)) true) ((List.drop (Int.toNat (1 : Int)) (List.take (Int.toNat (List.length open_1 : Int)) open_1)) ++ (dirTo h (List.getD open_1 (Int.toNat (0 : Int)) 0) (Int.toNat (List.getD open_1 (Int.toNat (0 : Int)) 0))))))) else Λ1 there_1 (List.drop (Int.toNat (1 : Int)) (List.take (Int.toNat (List.length open_1 : Int)) open_1)))))) else Λ2 there_1 (0 : Int) ([] : List Int)
def cNeedsG_2 (Λ1 : (List Bool) → (List Int) → Prop) (Λ2 : (List Bool) → Int → (List Int) → Prop) (h : (List (List Edt))) (n : Int) (y0 : (List Int)) (there_1 : (List Bool)) (t43_2 : Int) (out_2 : (List Int)) : Prop :=
  if (decide (t43_2 < (List.length there_1 : Int))) = true then (idx t43_2 (List.length there_1 : Int) ∧ (if (List.getD there_1 (Int.toNat t43_2) false) = true then (List.length out_2 + List.length [t43_2] ≤ 4294967296 ∧ (inI (t43_2 + (1 : Int)) ∧ Λ2 there_1 (t43_2 + (1 : Int)) (out_2 ++ [t43_2]))) else (inI (t43_2 + (1 : Int)) ∧ Λ2 there_1 (t43_2 + (1 : Int)) out_2))) else out_2 = y0
theorem cNeedsG_law (h : ∀ (h : (List (List Edt))) (n : Int), cNeedsG.A.wf (h, n, ()) → (0 ≤ n ∧ n < (h.length : Int) ∧ h.length ≤ 8) → ∀ (Λ1 : (List Bool) → (List Int) → Prop) (Λ2 : (List Bool) → Int → (List Int) → Prop), (∀ (there_1 : (List Bool)) (open_1 : (List Int)), cNeedsG_1 Λ1 Λ2 h n (needsL h (Int.toNat n)) there_1 open_1 → Λ1 there_1 open_1) → (∀ (there_1 : (List Bool)) (t43_2 : Int) (out_2 : (List Int)), cNeedsG_2 Λ1 Λ2 h n (needsL h (Int.toNat n)) there_1 t43_2 out_2 → Λ2 there_1 t43_2 out_2) → cNeedsG_0 Λ1 Λ2 h n (needsL h (Int.toNat n))) : ConOK Go.Proofs.Try.prog 146 cNeedsG := by
  refine lawL (Γ := [(139, cDirect0)]) (Θ := Th) (n := 55) [([1, 1, 1, 1, 0, 0], ⟨[(5, true), (6, true), (7, true)], [(16, true), (19, true)]⟩), ([1, 1, 1, 1, 1, 1, 0, 1, 0], ⟨[(9, true), (41, true), (42, true), (43, true)], [(9, true), (16, true)]⟩)] ⟨cDirect0_ok, trivial⟩ (by kernel_rfl) th_ok mix_ok Go.Proofs.Try.func146 (by kernel_rfl) ?_
  intro x hw hp Λ hC
  have h0 := h x.1 x.2.1 hw hp (fun there_1 open_1 => Λ [1, 1, 1, 1, 0, 0] ([(5, .bnd 139 (.cons (.sl (.sl tEd)) .nil) (x.1, ())), (6, .own 16 0), (7, .own 19 0)], [(16, .sl true .bool there_1), (19, .sl true .int open_1)])) (fun there_1 t43_2 out_2 => Λ [1, 1, 1, 1, 1, 1, 0, 1, 0] ([(9, .own 9 0), (41, .own 16 0), (42, .d true .int (List.length there_1 : Int)), (43, .d true .int t43_2)], [(9, .sl true .int out_2), (16, .sl true .bool there_1)])) (fun there_1 open_1 hb => hC [1, 1, 1, 1, 0, 0] ([(5, .bnd 139 (.cons (.sl (.sl tEd)) .nil) (x.1, ())), (6, .own 16 0), (7, .own 19 0)], [(16, .sl true .bool there_1), (19, .sl true .int open_1)]) (Eq.mpr (by kernel_rfl) hb)) (fun there_1 t43_2 out_2 hb => hC [1, 1, 1, 1, 1, 1, 0, 1, 0] ([(9, .own 9 0), (41, .own 16 0), (42, .d true .int (List.length there_1 : Int)), (43, .d true .int t43_2)], [(9, .sl true .int out_2), (16, .sl true .bool there_1)]) (Eq.mpr (by kernel_rfl) hb))
  exact Eq.mpr (by kernel_rfl) h0
theorem cNeedsG_ok : ConOK Go.Proofs.Try.prog 146 cNeedsG := by
  refine cNeedsG_law ?_
  intro h n hw hp Λ1 Λ2 h1 h2
  unfold cNeedsG_0
  obtain ⟨p1, p2, p3⟩ := hp
  obtain ⟨N, rfl⟩ := Int.eq_ofNat_of_zero_le p1
  have e2 : ∀ L : List Bool, L.length = h.length → (∀ k, L.getD k false = need h N k) → Λ2 L 0 [] := by
    intro L hL hy
    refine upto (n := h.length) (Q := fun i => Λ2 L (i : Int) (selTo (need h N) i)) ?_ ?_ 0 (Nat.zero_le _)
    · apply h2; unfold cNeedsG_2; rw [if_neg (by rw [hL]; simp)]; rfl
    · intro i hi ih
      have hle := selTo_len (need h N) i
      rw [show selTo (need h N) (i + 1) = selTo (need h N) i ++ if need h N i = true then [(i : Int)] else [] from rfl] at ih
      apply h2; unfold cNeedsG_2; rw [if_pos (by rw [hL]; simp; omega), Int.toNat_natCast, hy i]
      refine ⟨⟨by omega, by omega⟩, ?_⟩
      by_cases g : need h N i = true
      · rw [if_pos g] at ih ⊢
        exact ⟨by simp only [List.length_cons, List.length_nil]; omega, inI_succ hi (by omega), ih⟩
      · rw [if_neg g, List.append_nil] at ih
        rw [if_neg g]
        exact ⟨inI_succ hi (by omega), ih⟩
  have e1 : ∀ m (L : List Bool) (o : List Int), Srch h N L o → offs L * 100 + o.length ≤ m → m ≤ 900 → Λ1 L o := by
    intro m
    induction m with
    | zero =>
      intro L o s hm h9
      cases o with
      | nil => apply h1; unfold cNeedsG_1; rw [if_neg (by simp)]; exact e2 L s.len s.done
      | cons x o => simp only [List.length_cons] at hm; omega
    | succ m ih =>
      intro L o s hm h9
      cases o with
      | nil => apply h1; unfold cNeedsG_1; rw [if_neg (by simp)]; exact e2 L s.len s.done
      | cons x o =>
        obtain ⟨j, rfl, hj⟩ := s.mem x (List.mem_cons_self ..)
        have hjN := need_lt hj
        have hjl : j < L.length := by rw [s.len]; omega
        simp only [List.length_cons] at hm
        apply h1; unfold cNeedsG_1
        have a1 : List.getD ((j : Int) :: o) (Int.toNat 0) 0 = (j : Int) := rfl
        have a2 : List.drop (Int.toNat 1) (List.take (Int.toNat (((j : Int) :: o).length : Int)) ((j : Int) :: o)) = o := by rw [Int.toNat_natCast, List.take_length]; rfl
        have dl : (dirTo h (j : Int) j).length ≤ j := by rw [dirTo_sel]; exact selTo_len _ j
        rw [a1, a2, Int.toNat_natCast, if_pos (by simp)]
        refine ⟨⟨by omega, by simp⟩, ⟨by omega, by simp; omega, by omega, by omega⟩, ⟨by omega, by omega⟩, ?_⟩
        cases hv : L.getD j false
        · rw [if_pos (by rfl)]
          have so := offs_set hjl hv
          exact ⟨⟨by omega, by omega⟩, ⟨by omega, by omega, p3⟩, by omega, ih _ _ (s.new (by omega)) (by rw [List.length_append]; omega) (by omega)⟩
        · rw [if_neg (by simp)]
          exact ih _ _ (s.old hv) (by omega) (by omega)
  have dl : (dirTo h (N : Int) N).length ≤ N := by rw [dirTo_sel]; exact selTo_len _ N
  refine ⟨by unfold mkLen; omega, ⟨by omega, p2, p3⟩, ?_⟩
  rw [Int.toNat_natCast, Int.toNat_natCast]
  have ol := offs_le (List.replicate h.length false)
  rw [List.length_replicate] at ol
  exact e1 (offs (List.replicate h.length false) * 100 + (dirTo h (N : Int) N).length) _ _ Srch.start (Nat.le_refl _) (by omega)
abbrev cNeededG : Con := { A := (.cons (.sl (.sl tEd)) (.cons .int .nil)), R := (.cons (.osl .int) .nil), pre := fun x => 0 ≤ x.2.1 ∧ x.2.1 < (x.1.length : Int) ∧ x.1.length ≤ 8, F := fun x => (neededL x.1 (Int.toNat x.2.1), ()) }
def cNeededG_0 (Λ1 : Int → (List Int) → Prop) (h : (List (List Edt))) (n : Int) (y0 : (List Int)) : Prop :=
  inI (n + (1 : Int)) ∧ Λ1 (n + (1 : Int)) ([] : List Int)
def cNeededG_1 (Λ1 : Int → (List Int) → Prop) (h : (List (List Edt))) (n : Int) (y0 : (List Int))  (k_1 : Int) (out_1 : (List Int)) : Prop :=
  if (decide (k_1 < (List.length h : Int))) = true then ((0 ≤ k_1 ∧ k_1 < (h.length : Int) ∧ h.length ≤ 8) ∧ (True ∧ (if (decide (n ∈ (needsL h (Int.toNat k_1)))) = true then (List.length out_1 + List.length [k_1] ≤ 4294967296 ∧ (inI (k_1 + (1 : Int)) ∧ Λ1 (k_1 + (1 : Int)) (out_1 ++ [k_1]))) else (inI (k_1 + (1 : Int)) ∧ Λ1 (k_1 + (1 : Int)) out_1)))) else out_1 = y0
theorem cNeededG_law (h : ∀ (h : (List (List Edt))) (n : Int), cNeededG.A.wf (h, n, ()) → (0 ≤ n ∧ n < (h.length : Int) ∧ h.length ≤ 8) → ∀ (Λ1 : Int → (List Int) → Prop), (∀ (k_1 : Int) (out_1 : (List Int)), cNeededG_1 Λ1 h n (neededL h (Int.toNat n)) k_1 out_1 → Λ1 k_1 out_1) → cNeededG_0 Λ1 h n (neededL h (Int.toNat n))) : ConOK Go.Proofs.Try.prog 108 cNeededG := by
  refine lawL (Γ := [(110, cContN), (146, cNeedsG)]) (Θ := Th) (n := 25) [([1, 1, 0, 1, 0], ⟨[(0, false), (1, false), (5, true), (6, true)], [(5, true)]⟩)] ⟨cContN_ok, cNeedsG_ok, trivial⟩ (by kernel_rfl) th_ok mix_ok Go.Proofs.Try.func108 (by kernel_rfl) ?_
  intro x hw hp Λ hC
  have h0 := h x.1 x.2.1 hw hp (fun k_1 out_1 => Λ [1, 1, 0, 1, 0] ([(0, .d false (.sl (.sl tEd)) x.1), (1, .d false .int x.2.1), (5, .own 5 0), (6, .d true .int k_1)], [(5, .sl true .int out_1)])) (fun k_1 out_1 hb => hC [1, 1, 0, 1, 0] ([(0, .d false (.sl (.sl tEd)) x.1), (1, .d false .int x.2.1), (5, .own 5 0), (6, .d true .int k_1)], [(5, .sl true .int out_1)]) (Eq.mpr (by kernel_rfl) hb))
  exact Eq.mpr (by kernel_rfl) h0
theorem cNeededG_ok : ConOK Go.Proofs.Try.prog 108 cNeededG := by
  refine cNeededG_law ?_
  intro h n hw hp Λ1 h1
  unfold cNeededG_0
  obtain ⟨p1, p2, p3⟩ := hp
  obtain ⟨N, rfl⟩ := Int.eq_ofNat_of_zero_le p1
  refine ⟨by unfold inI; omega, ?_⟩
  have key := upto (n := h.length) (Q := fun i => N < i → Λ1 (i : Int) (selTo (fun k => need h k N) i)) ?_ ?_ (N + 1) (by omega) (by omega)
  · rw [selTo_none (n := N + 1) (by
      intro k hk
      cases e : need h k N
      · rfl
      · have := need_lt e; omega)] at key
    exact key
  · intro _
    apply h1; unfold cNeededG_1; rw [if_neg (by simp)]; rfl
  · intro i hi ih hN
    have ih := ih (by omega)
    have hle := selTo_len (fun k => need h k N) i
    rw [show selTo (fun k => need h k N) (i + 1) = selTo (fun k => need h k N) i ++ if need h i N = true then [(i : Int)] else [] from rfl] at ih
    apply h1; unfold cNeededG_1; rw [if_pos (by simpa using hi), Int.toNat_natCast]
    refine ⟨⟨by omega, by omega, p3⟩, trivial, ?_⟩
    have hh := needsL_has (h := h) (n := i) (k := N) hi
    by_cases g : need h i N = true
    · rw [if_pos g] at ih
      rw [if_pos (by simpa using hh.2 g)]
      exact ⟨by simp only [List.length_cons, List.length_nil]; omega, inI_succ hi (by omega), ih⟩
    · rw [if_neg g, List.append_nil] at ih
      rw [if_neg (by simpa using fun q => g (hh.1 q))]
      exact ⟨inI_succ hi (by omega), ih⟩
abbrev cNumbG : Con := { A := (.cons (.sl tL) (.cons (.sl (.sl tEd)) (.cons .int .nil))), R := (.cons .int .nil), pre := fun x => True, F := fun x => (nE x.1 x.2.1 x.2.2.1, ()) }
def cNumbG_0  (p : (List Lin)) (h : (List (List Edt))) (n : Int) (y0 : Int) : Prop :=
  True ∧ (if ((err7 p h) != (0 : Int)) = true then ((err7 p h) = y0 ∧ True) else (inI ((List.length h : Int) - (1 : Int)) ∧ (True ∧ (if (!(within n (0 : Int) ((List.length h : Int) - (1 : Int)))) = true then ((4 : Int) = y0 ∧ True) else ((0 : Int) = y0 ∧ True)))))
theorem cNumbG_law (h : ∀ (p : (List Lin)) (h : (List (List Edt))) (n : Int), cNumbG.A.wf (p, h, n, ()) → cNumbG_0  p h n (nE p h n)) : ConOK Go.Proofs.Try.prog 107 cNumbG := by
  refine lawL (Γ := [(36, cVal7), (101, cWithin7)]) (Θ := Th) (n := 20) [] ⟨cVal7_ok, cWithin7_ok, trivial⟩ (by kernel_rfl) th_ok mix_ok Go.Proofs.Try.func107 (by kernel_rfl) ?_
  intro x hw hp Λ hC
  have h0 := h x.1 x.2.1 x.2.2.1 hw  
  exact Eq.mpr (by kernel_rfl) h0
theorem cNumbG_ok : ConOK Go.Proofs.Try.prog 107 cNumbG := by
  refine cNumbG_law ?_
  intro p h n hw
  unfold cNumbG_0
  refine ⟨trivial, ?_⟩
  unfold nE
  by_cases e : err7 p h = 0
  · rw [if_neg (by simp [e]), if_pos e]
    obtain ⟨e1, e2, e3, e4⟩ := err7_ok e
    refine ⟨by unfold inI; omega, trivial, ?_⟩
    by_cases w : within n 0 ((h.length : Int) - 1) = true
    · rw [if_neg (by simp [w]), if_pos w]; exact ⟨rfl, trivial⟩
    · rw [if_pos (by simpa using w), if_neg w]; exact ⟨rfl, trivial⟩
  · rw [if_pos (by simpa using e), if_neg e]; exact ⟨rfl, trivial⟩
abbrev cNeededP : Con := { A := (.cons (.sl tL) (.cons (.sl (.sl tEd)) (.cons .int .nil))), R := (.cons (.sl .int) (.cons .int .nil)), pre := fun x => True, F := fun x => (neededV x.1 x.2.1 x.2.2.1, nE x.1 x.2.1 x.2.2.1, ()) }
def cNeededP_0  (p : (List Lin)) (h : (List (List Edt))) (n : Int) (y0 : (List Int)) (y1 : Int) : Prop :=
  True ∧ (if ((nE p h n) != (0 : Int)) = true then (([] : List Int) = y0 ∧ (nE p h n) = y1 ∧ True) else ((0 ≤ n ∧ n < (h.length : Int) ∧ h.length ≤ 8) ∧ ((neededL h (Int.toNat n)) = y0 ∧ (0 : Int) = y1 ∧ True)))
theorem cNeededP_law (h : ∀ (p : (List Lin)) (h : (List (List Edt))) (n : Int), cNeededP.A.wf (p, h, n, ()) → cNeededP_0  p h n (neededV p h n) (nE p h n)) : ConOK Go.Proofs.Try.prog 43 cNeededP := by
  refine lawL (Γ := [(108, cNeededG), (107, cNumbG)]) (Θ := Th) (n := 19) [] ⟨cNeededG_ok, cNumbG_ok, trivial⟩ (by kernel_rfl) th_ok mix_ok Go.Proofs.Try.func43 (by kernel_rfl) ?_
  intro x hw hp Λ hC
  have h0 := h x.1 x.2.1 x.2.2.1 hw  
  exact Eq.mpr (by kernel_rfl) h0
theorem cNeededP_ok : ConOK Go.Proofs.Try.prog 43 cNeededP := by
  refine cNeededP_law ?_
  intro p h n hw
  unfold cNeededP_0
  refine ⟨trivial, ?_⟩
  unfold neededV
  by_cases e : okN p h n
  · rw [if_neg (by simp [nE_iff.2 e]), if_pos e]
    exact ⟨okN_at e, rfl, (nE_iff.2 e).symm, trivial⟩
  · rw [if_pos (by simpa using fun q => e (nE_iff.1 q)), if_neg e]
    exact ⟨rfl, rfl, trivial⟩
abbrev cIsSetG : Con := { A := (.cons (.sl .int) (.cons .int .nil)), R := (.cons .bool .nil), pre := fun x => x.2.1 ≤ 1000 ∧ 0 ≤ x.2.1, F := fun x => (isSetB x.1 (Int.toNat x.2.1), ()) }
def cIsSetG_0 (Λ1 : Int → Prop) (l : (List Int)) (n : Int) (y0 : Bool) : Prop :=
  Λ1 (0 : Int)
def cIsSetG_1 (Λ1 : Int → Prop) (l : (List Int)) (n : Int) (y0 : Bool)  (t9_1 : Int) : Prop :=
  if (decide (t9_1 < (List.length l : Int))) = true then (idx t9_1 (List.length l : Int) ∧ (inI (n - (1 : Int)) ∧ (True ∧ (if (!(within (List.getD l (Int.toNat t9_1) 0) (0 : Int) (n - (1 : Int)))) = true then (true = true ∧ (false = y0 ∧ True)) else (if (decide (t9_1 > (0 : Int))) = true then (inI (t9_1 - (1 : Int)) ∧ (idx (t9_1 - (1 : Int)) (List.length l : Int) ∧ (True ∧ (True ∧ (if (bif false then true else (bif true then (decide ((List.getD l (Int.toNat t9_1) 0) ≤ (List.getD l (Int.toNat (t9_1 - (1 : Int))) 0))) else false)) = true then (false = y0 ∧ True) else (inI (t9_1 + (1 : Int)) ∧ Λ1 (t9_1 + (1 : Int)))))))) else (false = false ∧ (True ∧ (if (bif false then true else false) = true then (false = y0 ∧ True) else (inI (t9_1 + (1 : Int)) ∧ Λ1 (t9_1 + (1 : Int))))))))))) else (true = y0 ∧ True)
theorem cIsSetG_law (h : ∀ (l : (List Int)) (n : Int), cIsSetG.A.wf (l, n, ()) → (n ≤ 1000 ∧ 0 ≤ n) → ∀ (Λ1 : Int → Prop), (∀ (t9_1 : Int), cIsSetG_1 Λ1 l n (isSetB l (Int.toNat n)) t9_1 → Λ1 t9_1) → cIsSetG_0 Λ1 l n (isSetB l (Int.toNat n))) : ConOK Go.Proofs.Try.prog 109 cIsSetG := by
  refine lawL (Γ := [(101, cWithin7)]) (Θ := Th) (n := 33) [([1, 0, 1, 0], ⟨[(0, false), (1, false), (7, false), (8, true), (9, true)], []⟩)] ⟨cWithin7_ok, trivial⟩ (by kernel_rfl) th_ok mix_ok Go.Proofs.Try.func109 (by kernel_rfl) ?_
  intro x hw hp Λ hC
  have h0 := h x.1 x.2.1 hw hp (fun t9_1 => Λ [1, 0, 1, 0] ([(0, .d false (.sl .int) x.1), (1, .d false .int x.2.1), (7, .d false (.sl .int) x.1), (8, .d true .int (List.length x.1 : Int)), (9, .d true .int t9_1)], [])) (fun t9_1 hb => hC [1, 0, 1, 0] ([(0, .d false (.sl .int) x.1), (1, .d false .int x.2.1), (7, .d false (.sl .int) x.1), (8, .d true .int (List.length x.1 : Int)), (9, .d true .int t9_1)], []) (Eq.mpr (by kernel_rfl) hb))
  exact Eq.mpr (by kernel_rfl) h0
theorem cIsSetG_ok : ConOK Go.Proofs.Try.prog 109 cIsSetG := by
  refine cIsSetG_law ?_
  intro l n hw hp Λ1 h1
  unfold cIsSetG_0
  obtain ⟨p1, p2⟩ := hp
  obtain ⟨N, rfl⟩ := Int.eq_ofNat_of_zero_le p2
  have hll : l.length ≤ 140737488355328 := hw.1.1
  refine upto (n := l.length) (Q := fun i => okSet l N i = true → Λ1 (i : Int)) ?_ ?_ 0 (Nat.zero_le _) rfl
  · intro ha
    apply h1; unfold cIsSetG_1; rw [if_neg (by simp)]
    show true = isSetB l N ∧ True
    exact ⟨by unfold isSetB; rw [ha], trivial⟩
  · intro i hi ih ha
    have bad : (decide (0 ≤ l.getD i 0) && decide (l.getD i 0 < (N : Int)) && !(decide (i > 0) && decide (l.getD i 0 ≤ l.getD (i - 1) 0))) = false → false = isSetB l N := fun e => (okSet_false e _ hi).symm
    have good : (decide (0 ≤ l.getD i 0) && decide (l.getD i 0 < (N : Int)) && !(decide (i > 0) && decide (l.getD i 0 ≤ l.getD (i - 1) 0))) = true → okSet l N (i + 1) = true := fun e => by unfold okSet; rw [ha, e]; rfl
    apply h1; unfold cIsSetG_1; rw [if_pos (by simpa using hi), Int.toNat_natCast]
    refine ⟨idx_nat hi, by unfold inI; omega, trivial, ?_⟩
    by_cases w : within (List.getD l i 0) 0 ((N : Int) - 1) = true
    · rw [if_neg (by rw [w]; simp)]
      have ⟨w1, w2⟩ := within_iff.1 w
      have w3 : decide (0 ≤ l.getD i 0) = true := decide_eq_true w1
      have w4 : decide (l.getD i 0 < (N : Int)) = true := decide_eq_true (by omega)
      rw [w3, w4] at bad good
      by_cases a3 : i > 0
      · rw [if_pos (by simpa using a3)]
        have e1 : ((i : Int) - 1).toNat = i - 1 := by omega
        rw [e1]
        refine ⟨by unfold inI; omega, ⟨by omega, by omega⟩, trivial, trivial, ?_⟩
        by_cases a5 : l.getD i 0 ≤ l.getD (i - 1) 0
        · rw [if_pos (by simpa using a5)]
          exact ⟨bad (by rw [decide_eq_true a3, decide_eq_true a5]; rfl), trivial⟩
        · rw [if_neg (by simpa using a5)]
          exact ⟨inI_succ hi hll, ih (good (by rw [decide_eq_false a5, Bool.and_false]; rfl))⟩
      · rw [if_neg (by simpa using a3)]
        refine ⟨rfl, trivial, ?_⟩
        rw [if_neg (by simp)]
        exact ⟨inI_succ hi hll, ih (good (by rw [decide_eq_false a3]; rfl))⟩
    · rw [if_pos (by simpa using w)]
      refine ⟨rfl, bad ?_, trivial⟩
      cases hb : (decide (0 ≤ l.getD i 0) && decide (l.getD i 0 < (N : Int)))
      · rfl
      · refine absurd (within_iff.2 ?_) w
        rw [Bool.and_eq_true, decide_eq_true_eq, decide_eq_true_eq] at hb
        omega
abbrev cRevertG : Con := { A := (.cons (.sl tL) (.cons (.sl (.sl tEd)) (.cons (.sl .int) .nil))), R := (.cons (.osl tL) (.cons (.sl .int) (.cons .int .nil))), pre := fun x => True, F := fun x => (revP x.1 x.2.1 x.2.2.1, revL x.1 x.2.1 x.2.2.1, revE x.1 x.2.1 x.2.2.1, ()) }
def cRevertG_0 (Λ1 : Int → (List Int) → Prop) (Λ2 : (List Int) → Int → (List Int) → (List (List Edt)) → Prop) (p : (List Lin)) (h : (List (List Edt))) (set_ : (List Int)) (y0 : (List Lin)) (y1 : (List Int)) (y2 : Int) : Prop :=
  True ∧ (if ((err7 p h) != (0 : Int)) = true then (([] : List Int) = y1 ∧ (err7 p h) = y2 ∧ ([] : List Lin) = y0) else (((List.length h : Int) ≤ 1000 ∧ 0 ≤ (List.length h : Int)) ∧ (if (!(isSetB set_ (Int.toNat (List.length h : Int)))) = true then (([] : List Int) = y1 ∧ (1 : Int) = y2 ∧ ([] : List Lin) = y0) else (set_.length ≤ 1000000 ∧ Λ1 (0 : Int) set_))))
def cRevertG_1 (Λ1 : Int → (List Int) → Prop) (Λ2 : (List Int) → Int → (List Int) → (List (List Edt)) → Prop) (p : (List Lin)) (h : (List (List Edt))) (set_ : (List Int)) (y0 : (List Lin)) (y1 : (List Int)) (y2 : Int)  (t32_1 : Int) (gone_1 : (List Int)) : Prop :=
  if (decide (t32_1 < (List.length set_ : Int))) = true then (idx t32_1 (List.length set_ : Int) ∧ ((0 ≤ (List.getD set_ (Int.toNat t32_1) 0) ∧ (List.getD set_ (Int.toNat t32_1) 0) < (h.length : Int) ∧ h.length ≤ 8) ∧ (List.length gone_1 + List.length (neededL h (Int.toNat (List.getD set_ (Int.toNat t32_1) 0))) ≤ 4294967296 ∧ (inI (t32_1 + (1 : Int)) ∧ Λ1 (t32_1 + (1 : Int)) (gone_1 ++ (neededL h (Int.toNat (List.getD set_ (Int.toNat t32_1) 0)))))))) else Λ2 gone_1 (0 : Int) ([] : List Int) ([] : List (List Edt))
def cRevertG_2 (Λ1 : Int → (List Int) → Prop) (Λ2 : (List Int) → Int → (List Int) → (List (List Edt)) → Prop) (p : (List Lin)) (h : (List (List Edt))) (set_ : (List Int)) (y0 : (List Lin)) (y1 : (List Int)) (y2 : Int) (gone_1 : (List Int)) (t44_2 : Int) (left_2 : (List Int)) (l_2 : (List (List Edt))) : Prop :=
  if (decide (t44_2 < (List.length h : Int))) = true then (idx t44_2 (List.length h : Int) ∧ (True ∧ (if (!(decide (t44_2 ∈ gone_1))) = true then (List.length left_2 + List.length [t44_2] ≤ 4294967296 ∧ (List.length l_2 + List.length ([(List.getD h (Int.toNat t44_2) ([] : List Edt))]) ≤ 4294967296 ∧ (inI (t44_2 + (1 : Int)) ∧ Λ2 gone_1 (t44_2 + (1 : Int)) (left_2 ++ [t44_2]) (l_2 ++ [(List.getD h (Int.toNat t44_2) ([] : List Edt))])))) else (inI (t44_2 + (1 : Int)) ∧ Λ2 gone_1 (t44_2 + (1 : Int)) left_2 l_2)))) else ((okH p.length l_2 ∧ p.length ≤ 8) ∧ (left_2 = y1 ∧ (0 : Int) = y2 ∧ (playH p l_2) = y0))
theorem cRevertG_law (h : ∀ (p : (List Lin)) (h : (List (List Edt))) (set_ : (List Int)), cRevertG.A.wf (p, h, set_, ()) → ∀ (Λ1 : Int → (List Int) → Prop) (Λ2 : (List Int) → Int → (List Int) → (List (List Edt)) → Prop), (∀ (t32_1 : Int) (gone_1 : (List Int)), cRevertG_1 Λ1 Λ2 p h set_ (revP p h set_) (revL p h set_) (revE p h set_) t32_1 gone_1 → Λ1 t32_1 gone_1) → (∀ (gone_1 : (List Int)) (t44_2 : Int) (left_2 : (List Int)) (l_2 : (List (List Edt))), cRevertG_2 Λ1 Λ2 p h set_ (revP p h set_) (revL p h set_) (revE p h set_) gone_1 t44_2 left_2 l_2 → Λ2 gone_1 t44_2 left_2 l_2) → cRevertG_0 Λ1 Λ2 p h set_ (revP p h set_) (revL p h set_) (revE p h set_)) : ConOK Go.Proofs.Try.prog 44 cRevertG := by
  refine lawL (Γ := [(71, cCloneI), (110, cContN), (109, cIsSetG), (108, cNeededG), (96, cPlay0), (36, cVal7)]) (Θ := Th) (n := 66) [([1, 1, 1, 1, 0, 1, 0], ⟨[(0, false), (1, false), (10, true), (30, false), (31, true), (32, true)], [(29, true)]⟩), ([1, 1, 1, 1, 1, 1, 1, 0, 1, 0], ⟨[(0, false), (10, true), (13, true), (14, true), (42, false), (43, true), (44, true)], [(13, true), (14, false), (29, true)]⟩)] ⟨cCloneI_ok, cContN_ok, cIsSetG_ok, cNeededG_ok, cPlay0_ok, cVal7_ok, trivial⟩ (by kernel_rfl) th_ok mix_ok Go.Proofs.Try.func44 (by kernel_rfl) ?_
  intro x hw hp Λ hC
  have h0 := h x.1 x.2.1 x.2.2.1 hw (fun t32_1 gone_1 => Λ [1, 1, 1, 1, 0, 1, 0] ([(0, .d false (.sl tL) x.1), (1, .d false (.sl (.sl tEd)) x.2.1), (10, .own 29 0), (30, .d false (.sl .int) x.2.2.1), (31, .d true .int (List.length x.2.2.1 : Int)), (32, .d true .int t32_1)], [(29, .sl true .int gone_1)])) (fun gone_1 t44_2 left_2 l_2 => Λ [1, 1, 1, 1, 1, 1, 1, 0, 1, 0] ([(0, .d false (.sl tL) x.1), (10, .own 29 0), (13, .own 13 0), (14, .own 14 0), (42, .d false (.sl (.sl tEd)) x.2.1), (43, .d true .int (List.length x.2.1 : Int)), (44, .d true .int t44_2)], [(13, .sl true .int left_2), (14, .sl false (.sl tEd) l_2), (29, .sl true .int gone_1)])) (fun t32_1 gone_1 hb => hC [1, 1, 1, 1, 0, 1, 0] ([(0, .d false (.sl tL) x.1), (1, .d false (.sl (.sl tEd)) x.2.1), (10, .own 29 0), (30, .d false (.sl .int) x.2.2.1), (31, .d true .int (List.length x.2.2.1 : Int)), (32, .d true .int t32_1)], [(29, .sl true .int gone_1)]) (Eq.mpr (by kernel_rfl) hb)) (fun gone_1 t44_2 left_2 l_2 hb => hC [1, 1, 1, 1, 1, 1, 1, 0, 1, 0] ([(0, .d false (.sl tL) x.1), (10, .own 29 0), (13, .own 13 0), (14, .own 14 0), (42, .d false (.sl (.sl tEd)) x.2.1), (43, .d true .int (List.length x.2.1 : Int)), (44, .d true .int t44_2)], [(13, .sl true .int left_2), (14, .sl false (.sl tEd) l_2), (29, .sl true .int gone_1)]) (Eq.mpr (by kernel_rfl) hb))
  exact Eq.mpr (by kernel_rfl) h0
theorem cRevertG_ok : ConOK Go.Proofs.Try.prog 44 cRevertG := by
  refine cRevertG_law ?_
  intro p h set_ hw Λ1 Λ2 h1 h2
  unfold cRevertG_0
  refine ⟨trivial, ?_⟩
  by_cases e : err7 p h = 0
  · rw [if_neg (by simp [e])]
    obtain ⟨e1, e2, e3, e4⟩ := err7_ok e
    refine ⟨⟨by omega, by omega⟩, ?_⟩
    rw [Int.toNat_natCast]
    by_cases s : isSetB set_ h.length = true
    · rw [if_neg (by simp [s])]
      have ok : okS7 p h set_ := ⟨e, s⟩
      have hsl : set_.length ≤ 8 := by
        have := isSetB_len s; omega
      have hm := isSetB_mem s
      refine ⟨by omega, ?_⟩
      have last : ∀ g : List Int, (∀ k : Nat, k < h.length → ((k : Int) ∈ g ↔ goneB h set_ k = true)) → Λ2 g 0 [] [] := by
        intro g hg
        refine upto (n := h.length) (Q := fun i => Λ2 g (i : Int) (leftN h set_ i) (leftH h set_ i)) ?_ ?_ 0 (Nat.zero_le _)
        · apply h2; unfold cRevertG_2; rw [if_neg (by simp)]
          refine ⟨⟨fun x hx => e3 x (leftH_mem (Nat.le_refl _) x hx), (validP_ok e1).1⟩, ?_, ?_, ?_⟩
          · unfold revL; rw [if_pos ok]
          · exact (revE_iff.2 ok).symm
          · unfold revP; rw [if_pos ok]
        · intro i hi ih
          have l1 := selTo_len (fun k => !goneB h set_ k) i
          have l2 := leftH_len h set_ i
          unfold leftN at ih ⊢
          unfold selTo leftH at ih
          apply h2; unfold cRevertG_2; rw [if_pos (by simpa using hi), Int.toNat_natCast]
          refine ⟨idx_nat hi, trivial, ?_⟩
          have hgi := hg i hi
          cases hb : goneB h set_ i
          · rw [hb, if_pos (by rfl), if_neg (by simp)] at ih
            rw [if_pos (by simp; intro q; rw [hgi.1 q] at hb; cases hb)]
            exact ⟨by simp only [List.length_cons, List.length_nil]; omega, by simp only [List.length_cons, List.length_nil]; omega, inI_succ hi (by omega), ih⟩
          · rw [hb, if_neg (by simp), if_pos rfl, List.append_nil, List.append_nil] at ih
            rw [if_neg (by simp; exact hgi.2 hb)]
            exact ⟨inI_succ hi (by omega), ih⟩
      rw [show (0 : Int) = ((0 : Nat) : Int) from rfl]
      refine upto (n := set_.length) (Q := fun i => ∀ g : List Int, g.length ≤ 100 * i + 8 → (∀ k : Nat, k < h.length → ((k : Int) ∈ g ↔ (k : Int) ∈ set_ ∨ ∃ j ∈ set_.take i, need h k j.toNat = true)) → Λ1 (i : Int) g) ?_ ?_ 0 (Nat.zero_le _) set_ (by omega) (fun k hk => by simp)
      · intro g hg1 hg2
        apply h1; unfold cRevertG_1; rw [if_neg (by simp)]
        apply last
        intro k hk
        rw [hg2 k hk, List.take_length]
        unfold goneB
        simp only [Bool.or_eq_true, decide_eq_true_eq, List.any_eq_true]
      · intro i hi ih g hg1 hg2
        have hx := hm _ (mem_getD (d := 0) hi)
        apply h1; unfold cRevertG_1; rw [if_pos (by simpa using hi), Int.toNat_natCast]
        obtain ⟨j, ej⟩ := Int.eq_ofNat_of_zero_le hx.1
        have nl := selTo_len (fun k => need h k j) h.length
        rw [ej] at hx ⊢
        rw [Int.toNat_natCast]
        refine ⟨idx_nat hi, ⟨by omega, by omega, by omega⟩, by unfold neededL; omega, inI_succ hi (by omega), ih _ (by rw [List.length_append]; unfold neededL; omega) ?_⟩
        intro k hk
        rw [List.mem_append, hg2 k hk, take_snoc 0 hi, ej]
        unfold neededL
        rw [selTo_has]
        simp only [List.mem_append, List.mem_singleton]
        constructor
        · rintro ((q | ⟨a, q1, q2⟩) | q)
          · exact .inl q
          · exact .inr ⟨a, .inl q1, q2⟩
          · exact .inr ⟨_, .inr rfl, by rw [Int.toNat_natCast]; exact q.2⟩
        · rintro (q | ⟨a, q1 | q1, q2⟩)
          · exact .inl (.inl q)
          · exact .inl (.inr ⟨a, q1, q2⟩)
          · subst q1
            rw [Int.toNat_natCast] at q2
            exact .inr ⟨hk, q2⟩
    · have s' : isSetB set_ h.length = false := by simpa using s
      have no : ¬ okS7 p h set_ := fun q => s q.2
      rw [if_pos (by simp [s'])]
      unfold revP revL revE
      rw [if_neg no, if_neg no, if_pos e, s']
      exact ⟨rfl, rfl, rfl⟩
  · have no : ¬ okS7 p h set_ := fun q => e q.1
    rw [if_pos (by simpa using e)]
    unfold revP revL revE
    rw [if_neg no, if_neg no, if_neg e]
    exact ⟨rfl, rfl, rfl⟩
abbrev cHas4 : Con := { A := (.cons (.sl .int) (.cons .int .nil)), R := (.cons .bool .nil), pre := fun x => True, F := fun x => (decide (x.2.1 ∈ x.1), ()) }
def cHas4_0 (Λ1 : Int → Prop) (l : (List Int)) (n : Int) (y0 : Bool) : Prop :=
  Λ1 (0 : Int)
def cHas4_1 (Λ1 : Int → Prop) (l : (List Int)) (n : Int) (y0 : Bool)  (i_1 : Int) : Prop :=
  if (decide (i_1 < (List.length l : Int))) = true then (idx i_1 (List.length l : Int) ∧ (if ((List.getD l (Int.toNat i_1) 0) == n) = true then (true = y0 ∧ True) else (inI (i_1 + (1 : Int)) ∧ Λ1 (i_1 + (1 : Int))))) else (false = y0 ∧ True)
theorem cHas4_law (h : ∀ (l : (List Int)) (n : Int), cHas4.A.wf (l, n, ()) → ∀ (Λ1 : Int → Prop), (∀ (i_1 : Int), cHas4_1 Λ1 l n (decide (n ∈ l)) i_1 → Λ1 i_1) → cHas4_0 Λ1 l n (decide (n ∈ l))) : ConOK Go.Proofs.Try.prog 45 cHas4 := by
  refine lawL (Γ := []) (Θ := Th) (n := 18) [([1, 0, 1, 0], ⟨[(0, false), (1, false), (5, true)], []⟩)] trivial (by kernel_rfl) th_ok mix_ok Go.Proofs.Try.func45 (by kernel_rfl) ?_
  intro x hw hp Λ hC
  have h0 := h x.1 x.2.1 hw (fun i_1 => Λ [1, 0, 1, 0] ([(0, .d false (.sl .int) x.1), (1, .d false .int x.2.1), (5, .d true .int i_1)], [])) (fun i_1 hb => hC [1, 0, 1, 0] ([(0, .d false (.sl .int) x.1), (1, .d false .int x.2.1), (5, .d true .int i_1)], []) (Eq.mpr (by kernel_rfl) hb))
  exact Eq.mpr (by kernel_rfl) h0
theorem cHas4_ok : ConOK Go.Proofs.Try.prog 45 cHas4 := by
  refine cHas4_law ?_
  intro l n hw Λ1 h1
  unfold cHas4_0
  refine upto (n := l.length) (Q := fun i => (l.take i).any (fun r => r == n) = false → Λ1 (i : Int)) ?_ ?_ 0 (Nat.zero_le _) rfl
  · intro ha
    rw [List.take_length] at ha
    apply h1; unfold cHas4_1; rw [if_neg (by simp)]
    refine ⟨?_, trivial⟩
    rw [List.any_eq_false] at ha
    refine (decide_eq_false fun q => ?_).symm
    exact ha n q (by simp)
  · intro i hi ih ha
    apply h1; unfold cHas4_1; rw [if_pos (by simpa using hi), Int.toNat_natCast]
    refine ⟨idx_nat hi, ?_⟩
    cases hv : (List.getD l i 0 == n)
    · rw [if_neg (by simp)]
      exact ⟨inI_succ hi hw.1.1, ih (any_take_next (p := fun r => r == n) 0 hi ha hv)⟩
    · rw [if_pos rfl]
      refine ⟨(decide_eq_true ?_).symm, trivial⟩
      have : List.getD l i 0 = n := by simpa using hv
      rw [← this]; exact mem_getD hi
end Go.Tk
set_option linter.unusedSimpArgs false
set_option linter.unusedVariables false
set_option linter.unnecessarySimpa false
namespace Go.Tk
open Go Go.RowKit

theorem needV_mem {p : List Lin} {h : List (List Edt)} {n x : Int} : x ∈ needV p h n ↔ okN p h n ∧ ∃ k : Nat, x = (k : Int) ∧ need h n.toNat k = true := by
  unfold needV
  by_cases e : okN p h n
  · rw [if_pos e]
    unfold needsL
    rw [selTo_mem]
    have := okN_at e
    constructor
    · rintro ⟨k, h1, h2, h3⟩; exact ⟨e, k, h2, h3⟩
    · rintro ⟨_, k, h2, h3⟩; exact ⟨k, by have := need_lt h3; omega, h2, h3⟩
  · rw [if_neg e]; simp [e]
theorem neededV_mem {p : List Lin} {h : List (List Edt)} {n x : Int} : x ∈ neededV p h n ↔ okN p h n ∧ ∃ k : Nat, k < h.length ∧ x = (k : Int) ∧ need h k n.toNat = true := by
  unfold neededV
  by_cases e : okN p h n
  · rw [if_pos e]
    unfold neededL
    rw [selTo_mem]
    exact ⟨fun q => ⟨e, q⟩, fun q => q.2⟩
  · rw [if_neg e]; simp [e]
theorem dirV_len (p : List Lin) (h : List (List Edt)) (n : Int) : (dirV p h n).length ≤ 8 := by
  unfold dirV
  split
  · rename_i e
    have := okN_at e
    obtain ⟨N, rfl⟩ := Int.eq_ofNat_of_zero_le this.1
    rw [Int.toNat_natCast, dirTo_sel]
    have := selTo_len (fun k => tch h k N) N
    omega
  · simp
theorem needV_len (p : List Lin) (h : List (List Edt)) (n : Int) : (needV p h n).length ≤ 8 := by
  unfold needV
  split
  · rename_i e
    have := okN_at e
    have := selTo_len (need h n.toNat) h.length
    unfold needsL; omega
  · simp
theorem neededV_len (p : List Lin) (h : List (List Edt)) (n : Int) : (neededV p h n).length ≤ 8 := by
  unfold neededV
  split
  · rename_i e
    have := okN_at e
    have := selTo_len (fun k => need h k n.toNat) h.length
    unfold neededL; omega
  · simp
theorem revP_len (p : List Lin) (h : List (List Edt)) (s : List Int) : (revP p h s).length ≤ 8 := by
  unfold revP
  split
  · rename_i e
    rw [playH_len]
    exact (validP_ok (err7_ok e.1).1).1
  · simp
theorem revL_len (p : List Lin) (h : List (List Edt)) (s : List Int) : (revL p h s).length ≤ 8 := by
  unfold revL
  split
  · rename_i e
    have := (err7_ok e.1).2.1
    have := selTo_len (fun k => !goneB h s k) h.length
    unfold leftN; omega
  · simp
theorem revL_mem {p : List Lin} {h : List (List Edt)} {s : List Int} {x : Int} : x ∈ revL p h s ↔ okS7 p h s ∧ ∃ k : Nat, k < h.length ∧ x = (k : Int) ∧ goneB h s k = false := by
  unfold revL
  by_cases e : okS7 p h s
  · rw [if_pos e]
    unfold leftN
    rw [selTo_mem]
    simp only [Bool.not_eq_true']
    exact ⟨fun q => ⟨e, q⟩, fun q => q.2⟩
  · rw [if_neg e]; simp [e]
theorem goneB_up (h : List (List Edt)) {n k : Nat} (hk : k < n) : goneB h (upI n) k = true := by
  unfold goneB
  rw [Bool.or_eq_true]
  exact .inl (decide_eq_true (upI_mem.2 ⟨by omega, by omega⟩))
theorem leftH_none {h : List (List Edt)} {s : List Int} : ∀ {n}, (∀ k, k < n → goneB h s k = true) → leftH h s n = []
  | 0, _ => rfl
  | n + 1, e => by
    unfold leftH
    rw [leftH_none (n := n) fun k hk => e k (by omega), if_pos (e n (by omega))]; rfl
theorem leftH_nil (h : List (List Edt)) : ∀ n, n ≤ h.length → leftH h [] n = h.take n
  | 0, _ => by simp [leftH]
  | n + 1, hn => by
    have e : goneB h [] n = false := by simp [goneB]
    unfold leftH
    rw [leftH_nil h n (by omega), e, if_neg (by simp), take_snoc [] (by omega)]
theorem rev_all {p : List Lin} {h : List (List Edt)} (e : err7 p h = 0) : revE p h (upI h.length) = 0 ∧ revP p h (upI h.length) = p ∧ revL p h (upI h.length) = [] := by
  have ok : okS7 p h (upI h.length) := ⟨e, isSetB_up _⟩
  refine ⟨revE_iff.2 ok, ?_, ?_⟩
  · unfold revP
    rw [if_pos ok, leftH_none fun k hk => goneB_up h hk]; rfl
  · unfold revL leftN
    rw [if_pos ok, selTo_none fun k hk => by rw [goneB_up h hk]; rfl]
theorem rev_nil {p : List Lin} {h : List (List Edt)} (e : err7 p h = 0) : revE p h [] = 0 ∧ revP p h [] = playH p h ∧ revL p h [] = upI h.length := by
  have ok : okS7 p h [] := ⟨e, rfl⟩
  refine ⟨revE_iff.2 ok, ?_, ?_⟩
  · unfold revP
    rw [if_pos ok, leftH_nil h _ (Nat.le_refl _), List.take_length]
  · unfold revL leftN
    rw [if_pos ok, selTo_all fun k hk => by simp [goneB]]

end Go.Tk
set_option linter.unusedSimpArgs false
set_option linter.unusedVariables false
set_option linter.unnecessarySimpa false
namespace Go.Tk
open Go Go.RowKit

def backL (h : List (List Edt)) : Nat → List (Int × List Edt × Unit)
  | 0 => []
  | n + 1 => ((n : Int), h.getD n [], ()) :: backL h n
theorem backL_len (h : List (List Edt)) : ∀ n, (backL h n).length = n
  | 0 => rfl
  | n + 1 => by unfold backL; rw [List.length_cons, backL_len h n]
theorem backL_get (h : List (List Edt)) : ∀ n k, k < n → (backL h n)[k]? = some (((n - 1 - k : Nat) : Int), h.getD (n - 1 - k) [], ())
  | 0, k, hk => by omega
  | n + 1, 0, hk => by unfold backL; simp
  | n + 1, k + 1, hk => by
    unfold backL
    rw [List.getElem?_cons_succ, backL_get h n k (by omega), show n + 1 - 1 - (k + 1) = n - 1 - k by omega]
def touL (x : List Edt) (line : Int) : Bool := x.any fun e => e.1 == line
def lastT (h : List (List Edt)) (line : Int) : Nat → Option Nat
  | 0 => none
  | n + 1 => if touL (h.getD n []) line = true then some n else lastT h line n
theorem lastT_lt {h : List (List Edt)} {line : Int} : ∀ {n m}, lastT h line n = some m → m < n ∧ touL (h.getD m []) line = true
  | 0, m, e => by simp [lastT] at e
  | n + 1, m, e => by
    unfold lastT at e
    split at e
    · rename_i g
      cases e; exact ⟨by omega, g⟩
    · have := lastT_lt e; exact ⟨by omega, this.2⟩
def okL7 (p : List Lin) (h : List (List Edt)) (line : Int) : Prop := err7 p h = 0 ∧ within line 0 ((p.length : Int) - 1) = true
instance (p : List Lin) (h : List (List Edt)) (line : Int) : Decidable (okL7 p h line) := inferInstanceAs (Decidable (_ ∧ _))
def natO : Option Nat → Int
  | some n => (n : Int)
  | none => 0
def whoN (p : List Lin) (h : List (List Edt)) (line : Int) : Int := if okL7 p h line then natO (lastT h line h.length) else 0
def whoB (p : List Lin) (h : List (List Edt)) (line : Int) : Bool := if okL7 p h line then (lastT h line h.length).isSome else false
def whoE (p : List Lin) (h : List (List Edt)) (line : Int) : Int := if err7 p h = 0 then (if within line 0 ((p.length : Int) - 1) = true then 0 else 4) else err7 p h
theorem whoE_iff {p : List Lin} {h : List (List Edt)} {n : Int} : whoE p h n = 0 ↔ okL7 p h n := by
  unfold whoE okL7
  by_cases e : err7 p h = 0
  · rw [if_pos e]
    by_cases w : within n 0 ((p.length : Int) - 1) = true
    · rw [if_pos w]; simp [e, w]
    · rw [if_neg w]; simp [w]
  · rw [if_neg e]; simp [e]
def wantX (l : List Edt) (line : Int) (w : Lin) : Lin := l.foldl (fun w e => if e.1 = line then e.2.1 else w) w
theorem wantX_none {l : List Edt} {line : Int} : ∀ {w}, touL l line = false → wantX l line w = w := by
  induction l with
  | nil => intro w _; rfl
  | cons e l ih =>
    intro w h
    unfold touL at h ih
    rw [List.any_cons, Bool.or_eq_false_iff] at h
    show wantX l line (if e.1 = line then e.2.1 else w) = w
    rw [ih h.2, if_neg (by simpa using h.1)]
theorem wantX_some {l : List Edt} {line : Int} : ∀ {w u}, touL l line = true → wantX l line w = wantX l line u := by
  induction l with
  | nil => intro w u h; simp [touL] at h
  | cons e l ih =>
    intro w u h
    show wantX l line (if e.1 = line then e.2.1 else w) = wantX l line (if e.1 = line then e.2.1 else u)
    by_cases c : e.1 = line
    · rw [if_pos c, if_pos c]
    · rw [if_neg c, if_neg c]
      unfold touL at h ih
      rw [List.any_cons] at h
      have : (e.1 == line) = false := by simpa using c
      rw [this, Bool.false_or] at h
      exact ih h
theorem wantX_take (l : List Edt) (line : Int) (w : Lin) {i : Nat} (hi : i < l.length) : wantX (l.take (i + 1)) line w = if (l.getD i tEd.dflt).1 = line then (l.getD i tEd.dflt).2.1 else wantX (l.take i) line w := by
  unfold wantX
  rw [take_snoc tEd.dflt hi, List.foldl_append]; rfl
theorem playX_get {l : List Edt} {line : Nat} : ∀ {q : List Lin}, (∀ e ∈ l, 0 ≤ e.1) → line < q.length → (playX q l).getD line tL.dflt = wantX l line (q.getD line tL.dflt) := by
  induction l with
  | nil => intro q _ _; rfl
  | cons e l ih =>
    intro q h hl
    show (playX (q.set e.1.toNat e.2.1) l).getD line tL.dflt = wantX l line (if e.1 = line then e.2.1 else q.getD line tL.dflt)
    rw [ih (fun e he => h e (List.mem_cons_of_mem _ he)) (by simpa using hl)]
    congr 1
    have h0 := h e (List.mem_cons_self ..)
    by_cases c : e.1 = line
    · rw [if_pos c, getD_setL (by omega), if_pos (by omega)]
    · rw [if_neg c]
      simp only [List.getD_eq_getElem?_getD, List.getElem?_set]
      rw [if_neg (by omega)]
theorem playH_get {p : List Lin} {h : List (List Edt)} {line : Nat} (ho : okH p.length h) (hl : line < p.length) : ∀ n, n ≤ h.length → (playH p (h.take n)).getD line tL.dflt = (match lastT h (line : Int) n with | some m => wantX (h.getD m []) line (p.getD line tL.dflt) | none => p.getD line tL.dflt)
  | 0, _ => by simp [lastT, playH]
  | n + 1, hn => by
    rw [playH_take p h (by omega), playX_get (fun e he => (ho _ (mem_getD (by omega)) e he).1) (by rw [playH_len]; exact hl), playH_get ho hl n (by omega)]
    rw [show lastT h (line : Int) (n + 1) = if touL (h.getD n []) (line : Int) = true then some n else lastT h (line : Int) n from rfl]
    by_cases c : touL (h.getD n []) (line : Int) = true
    · rw [if_pos c]
      exact wantX_some c
    · rw [if_neg c]
      exact wantX_none (Bool.eq_false_iff.2 c)

abbrev cBack1 : Con := { A := (.cons (.ref (.sl (.sl tEd))) .nil), R := .seq false (.cons .int (.cons (.sl tEd) .nil)), pre := fun _ => True, F := fun x => ((True, backL x.1 (x.1).length) : Prop × List (Int × (List Edt) × Unit)) }
def cBack1_0 (Λ1 : Int → Nat → Prop) (c0 : (List (List Edt))) (y0 : List (Int × (List Edt) × Unit)) : Prop :=
  inI ((List.length c0 : Int) - (1 : Int)) ∧ Λ1 ((List.length c0 : Int) - (1 : Int)) 0
def cBack1_1 (Λ1 : Int → Nat → Prop) (c0 : (List (List Edt))) (y0 : List (Int × (List Edt) × Unit))  (i_1 : Int) (k_1 : Nat) : Prop :=
  if (decide (i_1 ≥ (0 : Int))) = true then (idx i_1 (List.length c0 : Int) ∧ (y0[k_1]? = some (i_1, (List.getD c0 (Int.toNat i_1) ([] : List Edt)), ()) ∧ (inI (i_1 - (1 : Int)) ∧ Λ1 (i_1 - (1 : Int)) (k_1 + 1)) ∧ True)) else k_1 = List.length y0
theorem cBack1_law (h : ∀ (c0 : (List (List Edt))), cBack1.A.wf (c0, ()) → ((True, backL c0 (c0).length)).1 → ∀ (Λ1 : Int → Nat → Prop), (∀ (i_1 : Int) (k_1 : Nat), cBack1_1 Λ1 c0 ((True, backL c0 (c0).length)).2 i_1 k_1 → Λ1 i_1 k_1) → cBack1_0 Λ1 c0 ((True, backL c0 (c0).length)).2) : ConOK Go.Proofs.Try.prog 143 cBack1 := by
  refine lawIt (X := { subs := [], frz := [], U := [], mul := [], nst := [], nls := [], itf := some false, inp := [], arrs := [] }) (hX := xok0 _ trivial) (Γ := []) (Θ := Th) (n := 19) [([1, 0], ⟨[(0, true), (1, false), (3, true)], [(5000000, true)]⟩)] trivial (by kernel_rfl) th_ok mix_ok Go.Proofs.Try.func143 (by kernel_rfl) ?_
  intro x hw hp Λ hC
  have h0 := h x.1 hw hp (fun i_1 k_1 => Λ [1, 0] ([(0, .yld), (1, .d false (.ref (.sl (.sl tEd))) x.1), (3, .d true .int i_1)], [(5000000, .it (.cons .int (.cons (.sl tEd) .nil)) (cBack1.F x).2 k_1)])) (fun i_1 k_1 hb => hC [1, 0] ([(0, .yld), (1, .d false (.ref (.sl (.sl tEd))) x.1), (3, .d true .int i_1)], [(5000000, .it (.cons .int (.cons (.sl tEd) .nil)) (cBack1.F x).2 k_1)]) (Eq.mpr (by kernel_rfl) hb))
  exact Eq.mpr (by kernel_rfl) h0
theorem cBack1_ok : ConOK Go.Proofs.Try.prog 143 cBack1 := by
  refine cBack1_law ?_
  intro c0 hw hp Λ1 h1
  unfold cBack1_0
  have hlc : c0.length ≤ 140737488355328 := hw.1.1
  refine ⟨by unfold inI; omega, ?_⟩
  have key := upto (n := c0.length) (Q := fun k => Λ1 ((c0.length : Int) - 1 - k) k) ?_ ?_ 0 (Nat.zero_le _)
  · simpa using key
  · apply h1; unfold cBack1_1
    rw [if_neg (by rw [decide_eq_true_eq]; omega), backL_len]
  · intro k hk ih
    apply h1; unfold cBack1_1
    rw [if_pos (by rw [decide_eq_true_eq]; omega), backL_get c0 _ k hk]
    have e : ((c0.length : Int) - 1 - k).toNat = c0.length - 1 - k := by omega
    rw [e]
    refine ⟨⟨by omega, by omega⟩, ?_, ⟨by unfold inI; omega, ?_⟩, trivial⟩
    · congr 2; omega
    · rw [show ((c0.length : Int) - 1 - k - 1) = (c0.length : Int) - 1 - ((k + 1 : Nat) : Int) by omega]; exact ih
abbrev cBack : Con := { A := (.cons (.sl (.sl tEd)) .nil), R := (.cons (.seq false (.cons .int (.cons (.sl tEd) .nil))) .nil), pre := fun x => True, F := fun x => ((True, backL x.1 (x.1).length), ()), al := true }
def cBack_0  (s : (List (List Edt))) (y0 : (Prop × List (Int × (List Edt) × Unit))) : Prop :=
  ((True, backL s (s).length)) = y0 ∧ True
theorem cBack_law (h : ∀ (s : (List (List Edt))), cBack.A.wf (s, ()) → cBack_0  s (True, backL s (s).length)) : ConOK Go.Proofs.Try.prog 102 cBack := by
  refine lawX (X := { subs := [], frz := [1], U := [], mul := [], nst := [], nls := [], itf := none, inp := [], arrs := [] }) (hX := xok0 _ trivial) (Γ := [(143, cBack1)]) (Θ := Th) (n := 4) [] ⟨cBack1_ok, trivial⟩ (by kernel_rfl) th_ok mix_ok Go.Proofs.Try.func102 (by kernel_rfl) ?_
  intro x hw hp Λ hC
  have h0 := h x.1 hw  
  exact Eq.mpr (by kernel_rfl) h0
theorem cBack_ok : ConOK Go.Proofs.Try.prog 102 cBack := by
  refine cBack_law ?_
  intro s hw
  unfold cBack_0
  exact ⟨rfl, trivial⟩
abbrev cWho1 : Con := { A := (.cons tEd (.cons (.ref .int) .nil)), R := (.cons .bool .nil), pre := fun x => True, F := fun x => (x.1.1 == x.2.1, ()) }
def cWho1_0  (e : Edt) (c0 : Int) (y0 : Bool) : Prop :=
  (e.1 == c0) = y0 ∧ True
theorem cWho1_law (h : ∀ (e : Edt) (c0 : Int), cWho1.A.wf (e, c0, ()) → cWho1_0  e c0 (e.1 == c0)) : ConOK Go.Proofs.Try.prog 103 cWho1 := by
  refine lawL (Γ := []) (Θ := Th) (n := 8) [] trivial (by kernel_rfl) th_ok mix_ok Go.Proofs.Try.func103 (by kernel_rfl) ?_
  intro x hw hp Λ hC
  have h0 := h x.1 x.2.1 hw  
  exact Eq.mpr (by kernel_rfl) h0
theorem cWho1_ok : ConOK Go.Proofs.Try.prog 103 cWho1 := by
  refine cWho1_law ?_
  intro e c0 hw
  unfold cWho1_0
  exact ⟨rfl, trivial⟩
abbrev cWho : Con := { A := (.cons (.sl tL) (.cons (.sl (.sl tEd)) (.cons .int .nil))), R := (.cons .int (.cons .bool (.cons .int .nil))), pre := fun x => True, F := fun x => (whoN x.1 x.2.1 x.2.2.1, whoB x.1 x.2.1 x.2.2.1, whoE x.1 x.2.1 x.2.2.1, ()) }
def cWho_0 (Λ1 : Nat → Prop) (p : (List Lin)) (h : (List (List Edt))) (line : Int) (y0 : Int) (y1 : Bool) (y2 : Int) : Prop :=
  True ∧ (if ((err7 p h) != (0 : Int)) = true then ((0 : Int) = y0 ∧ false = y1 ∧ (err7 p h) = y2 ∧ True) else (inI ((List.length p : Int) - (1 : Int)) ∧ (True ∧ (if (!(within line (0 : Int) ((List.length p : Int) - (1 : Int)))) = true then ((0 : Int) = y0 ∧ false = y1 ∧ (4 : Int) = y2 ∧ True) else (True ∧ (((True, backL h (h).length)).1 ∧ Λ1 0))))))
def cWho_1 (Λ1 : Nat → Prop) (p : (List Lin)) (h : (List (List Edt))) (line : Int) (y0 : Int) (y1 : Bool) (y2 : Int)  (k_1 : Nat) : Prop :=
  (∀ e1 : (Int × (List Edt) × Unit), (((True, backL h (h).length)).2)[k_1]? = some e1 → ((∀ r' ∈ e1.2.1, (fun (xx : (Edt × Unit)) => True, fun (xx : (Edt × Unit)) => (xx.1.1 == line, ())).1 (r', ())) ∧ (if (e1.2.1.any (fun r' => ((fun (xx : (Edt × Unit)) => True, fun (xx : (Edt × Unit)) => (xx.1.1 == line, ())).2 (r', ())).1)) = true then (e1.1 = y0 ∧ true = y1 ∧ (0 : Int) = y2 ∧ True) else Λ1 (k_1 + 1)))) ∧ (List.length (((True, backL h (h).length)).2) ≤ k_1 → ((0 : Int) = y0 ∧ false = y1 ∧ (0 : Int) = y2 ∧ True))
theorem cWho_law (h : ∀ (p : (List Lin)) (h : (List (List Edt))) (line : Int), cWho.A.wf (p, h, line, ()) → ∀ (Λ1 : Nat → Prop), (∀ (k_1 : Nat), cWho_1 Λ1 p h line (whoN p h line) (whoB p h line) (whoE p h line) k_1 → Λ1 k_1) → cWho_0 Λ1 p h line (whoN p h line) (whoB p h line) (whoE p h line)) : ConOK Go.Proofs.Try.prog 40 cWho := by
  refine lawX (X := { subs := [], frz := [5], U := [], mul := [], nst := [], nls := [], itf := none, inp := [], arrs := [] }) (hX := xok0 _ trivial) (Γ := [(102, cBack), (98, cContE), (36, cVal7), (103, cWho1), (101, cWithin7)]) (Θ := Th) (n := 32) [([1, 1, 1, 0, 1, 0], ⟨[(5, false), (6, true), (7, true), (8, true)], [(6, true), (7, true), (8, true), (4000000, true)]⟩)] ⟨cBack_ok, cContE_ok, cVal7_ok, cWho1_ok, cWithin7_ok, trivial⟩ (by kernel_rfl) th_ok mix_ok Go.Proofs.Try.func40 (by kernel_rfl) ?_
  intro x hw hp Λ hC
  have h0 := h x.1 x.2.1 x.2.2.1 hw (fun k_1 => Λ [1, 1, 1, 0, 1, 0] ([(5, .ept false .int x.2.2.1), (6, .ptr 6 0 []), (7, .ptr 7 0 []), (8, .ptr 8 0 [])], [(6, .box true .int 0), (7, .box true .bool false), (8, .box true .int 0), (4000000, .rg false (.cons .int (.cons (.sl tEd) .nil)) (((True, backL x.2.1 (x.2.1).length)).2) k_1)])) (fun k_1 hb => hC [1, 1, 1, 0, 1, 0] ([(5, .ept false .int x.2.2.1), (6, .ptr 6 0 []), (7, .ptr 7 0 []), (8, .ptr 8 0 [])], [(6, .box true .int 0), (7, .box true .bool false), (8, .box true .int 0), (4000000, .rg false (.cons .int (.cons (.sl tEd) .nil)) (((True, backL x.2.1 (x.2.1).length)).2) k_1)]) (Eq.mpr (by kernel_rfl) hb))
  exact Eq.mpr (by kernel_rfl) h0
theorem cWho_ok : ConOK Go.Proofs.Try.prog 40 cWho := by
  refine cWho_law ?_
  intro p h line hw Λ1 h1
  unfold cWho_0
  refine ⟨trivial, ?_⟩
  by_cases e : err7 p h = 0
  · rw [if_neg (by simp [e])]
    obtain ⟨e1, e2, e3, e4⟩ := err7_ok e
    have p8 := (validP_ok e1).1
    refine ⟨by unfold inI; omega, trivial, ?_⟩
    by_cases w : within line 0 ((p.length : Int) - 1) = true
    · rw [if_neg (by simp [w])]
      have ok : okL7 p h line := ⟨e, w⟩
      refine ⟨trivial, trivial, ?_⟩
      refine upto (n := h.length) (Q := fun k => lastT h line h.length = lastT h line (h.length - k) → Λ1 k) ?_ ?_ 0 (Nat.zero_le _) rfl
      · intro ha
        rw [Nat.sub_self] at ha
        apply h1; unfold cWho_1
        refine ⟨fun e1 he => ?_, fun _ => ?_⟩
        · rw [List.getElem?_eq_none (by rw [backL_len]; exact Nat.le_refl _)] at he; cases he
        · unfold whoN whoB
          rw [if_pos ok, if_pos ok, ha, whoE_iff.2 ok]
          exact ⟨rfl, rfl, rfl, trivial⟩
      · intro k hk ih ha
        apply h1; unfold cWho_1
        refine ⟨fun e1 he => ⟨fun _ _ => trivial, ?_⟩, fun hl => ?_⟩
        · rw [backL_get h _ k hk] at he
          cases he
          show if touL (h.getD (h.length - 1 - k) []) line = true then _ else _
          have hs : lastT h line (h.length - k) = if touL (h.getD (h.length - 1 - k) []) line = true then some (h.length - 1 - k) else lastT h line (h.length - 1 - k) := by
            rw [show h.length - k = (h.length - 1 - k) + 1 by omega]; rfl
          rw [hs] at ha
          by_cases c : touL (h.getD (h.length - 1 - k) []) line = true
          · rw [if_pos c] at ha ⊢
            unfold whoN whoB
            rw [if_pos ok, if_pos ok, ha, whoE_iff.2 ok]
            exact ⟨rfl, rfl, rfl, trivial⟩
          · rw [if_neg c] at ha ⊢
            exact ih (by rw [show h.length - (k + 1) = h.length - 1 - k by omega]; exact ha)
        · rw [backL_len] at hl; omega
    · have no : ¬ okL7 p h line := fun q => w q.2
      rw [if_pos (by simpa using w)]
      unfold whoN whoB whoE
      rw [if_neg no, if_neg no, if_pos e, if_neg w]
      exact ⟨rfl, rfl, rfl, trivial⟩
  · have no : ¬ okL7 p h line := fun q => e q.1
    rw [if_pos (by simpa using e)]
    unfold whoN whoB whoE
    rw [if_neg no, if_neg no, if_neg e]
    exact ⟨rfl, rfl, rfl, trivial⟩
end Go.Tk
/- Plain facts: repairs done in another order (layer 7). No program in sight. -/
set_option linter.unusedSimpArgs false
set_option linter.unusedVariables false
set_option linter.unnecessarySimpa false
namespace Go.Tk
open Go Go.RowKit

/-! ### Lists with all numbers -/
theorem perm_of_sub {α : Type} [BEq α] [LawfulBEq α] : ∀ {l k : List α}, l.Nodup → (∀ x ∈ l, x ∈ k) → k.length ≤ l.length → l.Perm k
  | [], k, _, _, hl => by
    have : k = [] := List.length_eq_zero_iff.1 (by simpa using hl)
    rw [this]
  | a :: l, k, hn, hs, hl => by
    have ha : a ∈ k := hs a (List.mem_cons_self ..)
    have hp := List.perm_cons_erase ha
    rw [List.nodup_cons] at hn
    refine List.Perm.trans (List.Perm.cons a (perm_of_sub hn.2 (fun x hx => ?_) ?_)) hp.symm
    · have h1 := (hp.mem_iff (a := x)).1 (hs x (List.mem_cons_of_mem _ hx))
      rcases List.mem_cons.1 h1 with rfl | h1
      · exact absurd hx hn.1
      · exact h1
    · have := hp.length_eq
      simp only [List.length_cons] at this hl
      omega
theorem upI_nodup : ∀ n, (upI n).Nodup
  | 0 => List.nodup_nil
  | n + 1 => by
    unfold upI
    rw [List.nodup_append]
    refine ⟨upI_nodup n, by simp, ?_⟩
    intro a ha b hb
    rw [upI_mem] at ha
    simp at hb
    omega
def permB (o : List Int) (n : Nat) : Bool := (upI n).all fun k => decide (k ∈ o)
structure Perm7 (o : List Int) (n : Nat) : Prop where
  nodup : o.Nodup
  mem : ∀ x, x ∈ o ↔ 0 ≤ x ∧ x < n
  len : o.length = n
theorem perm7 {o : List Int} {n : Nat} (hl : o.length = n) (h : permB o n = true) : Perm7 o n := by
  unfold permB at h
  rw [List.all_eq_true] at h
  have p : (upI n).Perm o := perm_of_sub (upI_nodup n) (fun x hx => by simpa using h x hx) (by rw [upI_len, hl]; exact Nat.le_refl _)
  exact ⟨p.nodup_iff.1 (upI_nodup n), fun x => by rw [← p.mem_iff, upI_mem], hl⟩
theorem permB_of {o : List Int} {n : Nat} (h : ∀ k : Nat, k < n → (k : Int) ∈ o) : permB o n = true := by
  unfold permB
  rw [List.all_eq_true]
  intro x hx
  rw [upI_mem] at hx
  obtain ⟨k, rfl⟩ := Int.eq_ofNat_of_zero_le hx.1
  exact decide_eq_true (h k (by omega))

/-! ### Orders that keep the needs -/
def keepsB (h : List (List Edt)) : List Int → Bool
  | [] => true
  | n :: l => !(l.any fun k => decide (k < n) && touchB h k n) && keepsB h l
def keepsR (h : List (List Edt)) : List Int → Bool
  | [] => true
  | n :: l => !(l.any fun k => need h n.toNat k.toNat) && keepsR h l
theorem keepsB_iff {h : List (List Edt)} : ∀ {o : List Int}, keepsB h o = true ↔ o.Pairwise fun n k => ¬ (k < n ∧ touchB h k n = true)
  | [] => by simp [keepsB]
  | n :: l => by
    unfold keepsB
    rw [Bool.and_eq_true, keepsB_iff (o := l), List.pairwise_cons]
    simp
theorem keepsR_iff {h : List (List Edt)} : ∀ {o : List Int}, keepsR h o = true ↔ o.Pairwise fun n k => ¬ need h n.toNat k.toNat = true
  | [] => by simp [keepsR]
  | n :: l => by
    unfold keepsR
    rw [Bool.and_eq_true, keepsR_iff (o := l), List.pairwise_cons]
    simp
theorem pair_at {α : Type} {R : α → α → Prop} {l : List α} (h : l.Pairwise R) {i j : Nat} {a b : α} (hij : i < j) (ha : l[i]? = some a) (hb : l[j]? = some b) : R a b := by
  obtain ⟨h1, rfl⟩ := List.getElem?_eq_some_iff.1 ha
  obtain ⟨h2, rfl⟩ := List.getElem?_eq_some_iff.1 hb
  exact List.pairwise_iff_getElem.1 h i j h1 h2 hij
theorem keeps_same {h : List (List Edt)} {o : List Int} (p : Perm7 o h.length) : keepsB h o = keepsR h o := by
  rw [Bool.eq_iff_iff, keepsB_iff, keepsR_iff]
  constructor
  · intro hk
    have key : ∀ n : Nat, ∀ (m i j : Nat), i < j → o[i]? = some (n : Int) → o[j]? = some (m : Int) → need h n m = true → False := by
      intro n
      induction n using Nat.strongRecOn with
      | ind n ih =>
        intro m i j hij hi hj hn
        have hnl : n < h.length := by
          have := (p.mem n).1 (List.mem_of_getElem? hi); omega
        rcases need_iff.1 hn with ⟨h0, h1 | ⟨k, h1, h2, h3⟩⟩
        · exact pair_at hk hij hi hj ⟨by omega, h1⟩
        · have hkm : (k : Int) ∈ o := (p.mem k).2 ⟨by omega, by omega⟩
          obtain ⟨q, hq⟩ := List.mem_iff_getElem?.1 hkm
          by_cases c : q < i
          · exact ih k h1 m q j (by omega) hq hj h3
          · by_cases c2 : q = i
            · subst c2
              rw [hi] at hq
              have : (n : Int) = k := Option.some.inj hq
              omega
            · exact pair_at hk (show i < q by omega) hi hq ⟨by omega, h2⟩
    rw [List.pairwise_iff_getElem]
    intro i j hi hj hij hn
    have h1 := (p.mem o[i]).1 (List.getElem_mem hi)
    have h2 := (p.mem o[j]).1 (List.getElem_mem hj)
    exact key o[i].toNat o[j].toNat i j hij (by rw [List.getElem?_eq_getElem hi]; congr 1; omega) (by rw [List.getElem?_eq_getElem hj]; congr 1; omega) hn
  · intro hk
    rw [List.pairwise_iff_getElem] at hk ⊢
    intro i j hi hj hij ⟨h1, h2⟩
    have h3 := (p.mem o[i]).1 (List.getElem_mem hi)
    have h4 := (p.mem o[j]).1 (List.getElem_mem hj)
    refine hk i j hi hj hij (need_dir (by omega) ?_)
    unfold tch
    rw [show ((o[j].toNat : Nat) : Int) = o[j] by omega, show ((o[i].toNat : Nat) : Int) = o[i] by omega]
    exact h2

/-! ### The program behind an order -/
theorem touL_tch {h : List (List Edt)} {a b : Nat} {L : Int} (h1 : touL (h.getD a []) L = true) (h2 : touL (h.getD b []) L = true) : touchB h a b = true := by
  unfold touL at h1 h2
  rw [List.any_eq_true] at h1 h2
  obtain ⟨x, x1, x2⟩ := h1
  obtain ⟨y, y1, y2⟩ := h2
  unfold touchB
  rw [List.any_eq_true]
  refine ⟨x, by rw [Int.toNat_natCast]; exact x1, ?_⟩
  rw [List.any_eq_true]
  refine ⟨y, by rw [Int.toNat_natCast]; exact y1, ?_⟩
  rw [beq_iff_eq] at x2 y2 ⊢
  omega
def ordH (h : List (List Edt)) (o : List Int) : List (List Edt) := o.map fun k => h.getD k.toNat []
def foldW (h : List (List Edt)) (L : Int) (o : List Int) (w : Lin) : Lin := o.foldl (fun w n => wantX (h.getD n.toNat []) L w) w
theorem foldW_none {h : List (List Edt)} {L : Int} : ∀ {o : List Int} {w : Lin}, (∀ n ∈ o, touL (h.getD n.toNat []) L = false) → foldW h L o w = w
  | [], _, _ => rfl
  | n :: o, w, e => by
    show foldW h L o (wantX (h.getD n.toNat []) L w) = w
    rw [foldW_none fun k hk => e k (List.mem_cons_of_mem _ hk), wantX_none (e n (List.mem_cons_self ..))]
theorem foldW_some {h : List (List Edt)} {L : Int} {m : Nat} (hm : touL (h.getD m []) L = true) : ∀ {o : List Int} {w : Lin}, (m : Int) ∈ o → o.Nodup → (∀ n ∈ o, 0 ≤ n) → (∀ n ∈ o, touL (h.getD n.toNat []) L = true → n ≤ m) → keepsB h o = true → foldW h L o w = wantX (h.getD m []) L w
  | [], _, hi, _, _, _, _ => by simp at hi
  | n :: o, w, hi, hn, h0, hx, hk => by
    rw [keepsB_iff, List.pairwise_cons] at hk
    rw [List.nodup_cons] at hn
    show foldW h L o (wantX (h.getD n.toNat []) L w) = _
    by_cases c : (m : Int) ∈ o
    · rw [foldW_some hm c hn.2 (fun k hk => h0 k (List.mem_cons_of_mem _ hk)) (fun k hk => hx k (List.mem_cons_of_mem _ hk)) (keepsB_iff.2 hk.2)]
      exact wantX_some hm
    · have e : (m : Int) = n := (List.mem_cons.1 hi).resolve_right c
      subst e
      rw [Int.toNat_natCast]
      apply foldW_none
      intro k hko
      cases t : touL (h.getD k.toNat []) L
      · rfl
      · exfalso
        have k1 := hx k (List.mem_cons_of_mem _ hko) t
        have k2 := h0 k (List.mem_cons_of_mem _ hko)
        refine hk.1 k hko ⟨?_, ?_⟩
        · have : k ≠ (m : Int) := fun q => c (q ▸ hko)
          omega
        · have := touL_tch t hm
          rw [show ((k.toNat : Nat) : Int) = k by omega] at this
          exact this
theorem lastT_max {h : List (List Edt)} {L : Int} : ∀ {n}, (match lastT h L n with | some m => ∀ k, k < n → touL (h.getD k []) L = true → k ≤ m | none => ∀ k, k < n → touL (h.getD k []) L = false)
  | 0 => by simp [lastT]
  | n + 1 => by
    have ih := lastT_max (h := h) (L := L) (n := n)
    unfold lastT
    by_cases c : touL (h.getD n []) L = true
    · rw [if_pos c]
      intro k hk _; omega
    · rw [if_neg c]
      cases e : lastT h L n with
      | none =>
        rw [e] at ih
        intro k hk
        by_cases q : k = n
        · subst q; simpa using c
        · exact ih k (by omega)
      | some m =>
        rw [e] at ih
        intro k hk ht
        by_cases q : k = n
        · subst q; exact absurd ht c
        · exact ih k (by omega) ht
theorem play_fold {p : List Lin} {h : List (List Edt)} {L : Nat} (ho : okH p.length h) (hL : L < p.length) : ∀ (o : List Int), (∀ n ∈ o, 0 ≤ n ∧ n < h.length) → ∀ q : List Lin, q.length = p.length → (playH q (ordH h o)).getD L tL.dflt = foldW h L o (q.getD L tL.dflt)
  | [], _, q, _ => rfl
  | n :: o, hn, q, hq => by
    show (playH (playX q (h.getD n.toNat [])) (ordH h o)).getD L tL.dflt = foldW h L o (wantX (h.getD n.toNat []) L (q.getD L tL.dflt))
    have h1 := hn n (List.mem_cons_self ..)
    rw [play_fold ho hL o (fun k hk => hn k (List.mem_cons_of_mem _ hk)) _ (by rw [playX_len, hq]), playX_get (fun e he => (ho _ (mem_getD (by omega)) e he).1) (by omega)]
theorem play_order {p : List Lin} {h : List (List Edt)} {o : List Int} (ho : okH p.length h) (pm : Perm7 o h.length) (hk : keepsB h o = true) : playH p (ordH h o) = playH p h := by
  refine ext_getD tL.dflt (by rw [playH_len, playH_len]) fun L hL => ?_
  rw [playH_len] at hL
  rw [play_fold ho hL o (fun n hn => (pm.mem n).1 hn) p rfl]
  have hg := playH_get ho hL h.length (Nat.le_refl _)
  rw [List.take_length] at hg
  rw [hg]
  have mx := lastT_max (h := h) (L := (L : Int)) (n := h.length)
  cases e : lastT h (L : Int) h.length with
  | none =>
    rw [e] at mx
    exact foldW_none fun n hn => mx _ (by have := (pm.mem n).1 hn; omega)
  | some m =>
    rw [e] at mx
    have hm := lastT_lt e
    exact foldW_some hm.2 ((pm.mem m).2 ⟨by omega, by omega⟩) pm.nodup (fun n hn => ((pm.mem n).1 hn).1) (fun n hn ht => by have h1 := (pm.mem n).1 hn; have := mx n.toNat (by omega) ht; omega) hk
def ordE (p : List Lin) (h : List (List Edt)) (o : List Int) : Int := if err7 p h = 0 then (if o.length = h.length ∧ permB o h.length = true then (if keepsB h o = true then 0 else 7) else 1) else err7 p h
def ordV (p : List Lin) (h : List (List Edt)) (o : List Int) : List Lin := if ordE p h o = 0 then playH p (ordH h o) else []
theorem ordE_iff {p : List Lin} {h : List (List Edt)} {o : List Int} : ordE p h o = 0 ↔ err7 p h = 0 ∧ Perm7 o h.length ∧ keepsB h o = true := by
  unfold ordE
  by_cases e : err7 p h = 0
  · rw [if_pos e]
    by_cases c : o.length = h.length ∧ permB o h.length = true
    · rw [if_pos c]
      by_cases k : keepsB h o = true
      · rw [if_pos k]; exact ⟨fun _ => ⟨e, perm7 c.1 c.2, k⟩, fun _ => rfl⟩
      · rw [if_neg k]; exact ⟨fun q => absurd q (by decide), fun q => absurd q.2.2 k⟩
    · rw [if_neg c]
      refine ⟨fun q => absurd q (by decide), fun q => absurd ⟨q.2.1.len, permB_of fun k hk => (q.2.1.mem k).2 ⟨by omega, by omega⟩⟩ c⟩
  · rw [if_neg e]; exact ⟨fun q => absurd q e, fun q => absurd q.1 e⟩
end Go.Tk
set_option linter.unusedSimpArgs false
set_option linter.unusedVariables false
set_option linter.unnecessarySimpa false
namespace Go.Tk
open Go Go.RowKit

theorem drop_getD {α : Type} (l : List α) (a j : Nat) (d : α) : (l.drop a).getD j d = l.getD (a + j) d := by
  simp [List.getD_eq_getElem?_getD, List.getElem?_drop]
theorem drop_cons {α : Type} {l : List α} {i : Nat} (d : α) (h : i < l.length) : l.drop i = l.getD i d :: l.drop (i + 1) := by
  rw [List.drop_eq_getElem_cons h]; simp [List.getD_eq_getElem?_getD, h]
theorem keepsB_cons (h : List (List Edt)) (n : Int) (l : List Int) : keepsB h (n :: l) = (!(l.any fun k => decide (k < n) && touchB h k n) && keepsB h l) := rfl
theorem keepsR_cons (h : List (List Edt)) (n : Int) (l : List Int) : keepsR h (n :: l) = (!(l.any fun k => need h n.toNat k.toNat) && keepsR h l) := rfl
theorem ordE_bad {p : List Lin} {h : List (List Edt)} {o : List Int} (e : err7 p h = 0) (c : ¬ (o.length = h.length ∧ permB o h.length = true)) : (1 : Int) = ordE p h o := by
  unfold ordE
  rw [if_pos e, if_neg c]
theorem ordE_good {p : List Lin} {h : List (List Edt)} {o : List Int} (e : err7 p h = 0) (c : Perm7 o h.length) : ordE p h o = if keepsB h o = true then 0 else 7 := by
  unfold ordE
  rw [if_pos e, if_pos ⟨c.len, permB_of fun k hk => (c.mem k).2 ⟨by omega, by omega⟩⟩]

abbrev cKeeps7 : Con := { A := (.cons (.sl (.sl tEd)) (.cons (.sl .int) .nil)), R := (.cons .bool .nil), pre := fun x => ∀ n' ∈ x.2.1, 0 ≤ n' ∧ n' < (x.1.length : Int), F := fun x => (keepsB x.1 x.2.1, ()) }
def cKeeps7_0 (Λ1 : Int → Prop) (Λ2 : Int → Int → Prop) (h : (List (List Edt))) (order : (List Int)) (y0 : Bool) : Prop :=
  Λ1 (0 : Int)
def cKeeps7_1 (Λ1 : Int → Prop) (Λ2 : Int → Int → Prop) (h : (List (List Edt))) (order : (List Int)) (y0 : Bool)  (t11_1 : Int) : Prop :=
  if (decide (t11_1 < (List.length order : Int))) = true then (idx t11_1 (List.length order : Int) ∧ (inI (t11_1 + (1 : Int)) ∧ ((0 ≤ (t11_1 + (1 : Int)) ∧ (t11_1 + (1 : Int)) ≤ (List.length order : Int) ∧ (List.length order : Int) ≤ (List.length order : Int) ∧ (List.length order : Int) ≤ (List.length order : Int)) ∧ Λ2 t11_1 (0 : Int)))) else (true = y0 ∧ True)
def cKeeps7_2 (Λ1 : Int → Prop) (Λ2 : Int → Int → Prop) (h : (List (List Edt))) (order : (List Int)) (y0 : Bool) (t11_1 : Int) (t21_2 : Int) : Prop :=
  if (decide (t21_2 < (List.length (List.drop (Int.toNat (t11_1 + (1 : Int))) (List.take (Int.toNat (List.length order : Int)) order)) : Int))) = true then (idx t21_2 (List.length (List.drop (Int.toNat (t11_1 + (1 : Int))) (List.take (Int.toNat (List.length order : Int)) order)) : Int) ∧ (if (decide ((List.getD (List.drop (Int.toNat (t11_1 + (1 : Int))) (List.take (Int.toNat (List.length order : Int)) order)) (Int.toNat t21_2) 0) < (List.getD order (Int.toNat t11_1) 0))) = true then ((0 ≤ (List.getD (List.drop (Int.toNat (t11_1 + (1 : Int))) (List.take (Int.toNat (List.length order : Int)) order)) (Int.toNat t21_2) 0) ∧ (List.getD (List.drop (Int.toNat (t11_1 + (1 : Int))) (List.take (Int.toNat (List.length order : Int)) order)) (Int.toNat t21_2) 0) < (h.length : Int) ∧ 0 ≤ (List.getD order (Int.toNat t11_1) 0) ∧ (List.getD order (Int.toNat t11_1) 0) < (h.length : Int)) ∧ (True ∧ (if (bif true then (touchB h (List.getD (List.drop (Int.toNat (t11_1 + (1 : Int))) (List.take (Int.toNat (List.length order : Int)) order)) (Int.toNat t21_2) 0) (List.getD order (Int.toNat t11_1) 0)) else false) = true then (false = y0 ∧ True) else (inI (t21_2 + (1 : Int)) ∧ Λ2 t11_1 (t21_2 + (1 : Int)))))) else (false = false ∧ (inI (t21_2 + (1 : Int)) ∧ Λ2 t11_1 (t21_2 + (1 : Int)))))) else (inI (t11_1 + (1 : Int)) ∧ Λ1 (t11_1 + (1 : Int)))
theorem cKeeps7_law (h : ∀ (h : (List (List Edt))) (order : (List Int)), cKeeps7.A.wf (h, order, ()) → (∀ n' ∈ order, 0 ≤ n' ∧ n' < (h.length : Int)) → ∀ (Λ1 : Int → Prop) (Λ2 : Int → Int → Prop), (∀ (t11_1 : Int), cKeeps7_1 Λ1 Λ2 h order (keepsB h order) t11_1 → Λ1 t11_1) → (∀ (t11_1 : Int) (t21_2 : Int), cKeeps7_2 Λ1 Λ2 h order (keepsB h order) t11_1 t21_2 → Λ2 t11_1 t21_2) → cKeeps7_0 Λ1 Λ2 h order (keepsB h order)) : ConOK Go.Proofs.Try.prog 142 cKeeps7 := by
  refine lawL (Γ := [(168, cTouch)]) (Θ := Th) (n := 36) [([1, 0, 1, 0], ⟨[(0, false), (1, false), (9, false), (10, true), (11, true)], []⟩), ([1, 0, 1, 0, 0, 1, 1, 0, 0, 1, 1, 0], ⟨[(0, false), (1, false), (6, false), (9, false), (10, true), (11, true), (19, false), (20, true), (21, true)], []⟩)] ⟨cTouch_ok, trivial⟩ (by kernel_rfl) th_ok mix_ok Go.Proofs.Try.func142 (by kernel_rfl) ?_
  intro x hw hp Λ hC
  have h0 := h x.1 x.2.1 hw hp (fun t11_1 => Λ [1, 0, 1, 0] ([(0, .d false (.sl (.sl tEd)) x.1), (1, .d false (.sl .int) x.2.1), (9, .d false (.sl .int) x.2.1), (10, .d true .int (List.length x.2.1 : Int)), (11, .d true .int t11_1)], [])) (fun t11_1 t21_2 => Λ [1, 0, 1, 0, 0, 1, 1, 0, 0, 1, 1, 0] ([(0, .d false (.sl (.sl tEd)) x.1), (1, .d false (.sl .int) x.2.1), (6, .d false .int (List.getD x.2.1 (Int.toNat t11_1) 0)), (9, .d false (.sl .int) x.2.1), (10, .d true .int (List.length x.2.1 : Int)), (11, .d true .int t11_1), (19, .d false (.sl .int) (List.drop (Int.toNat (t11_1 + (1 : Int))) (List.take (Int.toNat (List.length x.2.1 : Int)) x.2.1))), (20, .d true .int (List.length (List.drop (Int.toNat (t11_1 + (1 : Int))) (List.take (Int.toNat (List.length x.2.1 : Int)) x.2.1)) : Int)), (21, .d true .int t21_2)], [])) (fun t11_1 hb => hC [1, 0, 1, 0] ([(0, .d false (.sl (.sl tEd)) x.1), (1, .d false (.sl .int) x.2.1), (9, .d false (.sl .int) x.2.1), (10, .d true .int (List.length x.2.1 : Int)), (11, .d true .int t11_1)], []) (Eq.mpr (by kernel_rfl) hb)) (fun t11_1 t21_2 hb => hC [1, 0, 1, 0, 0, 1, 1, 0, 0, 1, 1, 0] ([(0, .d false (.sl (.sl tEd)) x.1), (1, .d false (.sl .int) x.2.1), (6, .d false .int (List.getD x.2.1 (Int.toNat t11_1) 0)), (9, .d false (.sl .int) x.2.1), (10, .d true .int (List.length x.2.1 : Int)), (11, .d true .int t11_1), (19, .d false (.sl .int) (List.drop (Int.toNat (t11_1 + (1 : Int))) (List.take (Int.toNat (List.length x.2.1 : Int)) x.2.1))), (20, .d true .int (List.length (List.drop (Int.toNat (t11_1 + (1 : Int))) (List.take (Int.toNat (List.length x.2.1 : Int)) x.2.1)) : Int)), (21, .d true .int t21_2)], []) (Eq.mpr (by kernel_rfl) hb))
  exact Eq.mpr (by kernel_rfl) h0
theorem cKeeps7_ok : ConOK Go.Proofs.Try.prog 142 cKeeps7 := by
  refine cKeeps7_law ?_
  intro h order hw hp Λ1 Λ2 h1 h2
  unfold cKeeps7_0
  have hol : order.length ≤ 140737488355328 := hw.2.1.1
  refine upto (n := order.length) (Q := fun i => keepsB h order = keepsB h (order.drop i) → Λ1 (i : Int)) ?_ ?_ 0 (Nat.zero_le _) rfl
  · intro ha
    rw [List.drop_length] at ha
    apply h1; unfold cKeeps7_1; rw [if_neg (by simp)]
    exact ⟨by rw [ha]; rfl, trivial⟩
  · intro i hi ih ha
    rw [drop_cons 0 hi, keepsB_cons] at ha
    have hn := hp _ (mem_getD (d := 0) hi)
    have e1 : ((i : Int) + 1).toNat = i + 1 := by omega
    apply h1; unfold cKeeps7_1; rw [if_pos (by simpa using hi)]
    refine ⟨idx_nat hi, inI_succ hi hol, ⟨by omega, by omega, by omega, by omega⟩, ?_⟩
    refine upto (n := (order.drop (i + 1)).length) (Q := fun k => (((order.drop (i + 1)).take k).any fun k => decide (k < order.getD i 0) && touchB h k (order.getD i 0)) = false → Λ2 (i : Int) (k : Int)) ?_ ?_ 0 (Nat.zero_le _) rfl
    · intro hb
      rw [List.take_length] at hb
      apply h2; unfold cKeeps7_2
      rw [Int.toNat_natCast, List.take_length, e1, if_neg (by simp)]
      refine ⟨inI_succ hi hol, ih ?_⟩
      rw [ha, hb]; rfl
    · intro k hk ihk hb
      have hk2 := hp _ (List.mem_of_mem_drop (mem_getD (d := 0) hk))
      have hdl : (order.drop (i + 1)).length ≤ 140737488355328 := by rw [List.length_drop]; omega
      have nx := any_take_next (p := fun k => decide (k < order.getD i 0) && touchB h k (order.getD i 0)) 0 hk hb
      apply h2; unfold cKeeps7_2
      rw [Int.toNat_natCast, List.take_length, e1, Int.toNat_natCast, Int.toNat_natCast, if_pos (by rw [decide_eq_true_eq]; omega)]
      refine ⟨idx_nat hk, ?_⟩
      by_cases c : (order.drop (i + 1)).getD k 0 < order.getD i 0
      · rw [if_pos (decide_eq_true c)]
        refine ⟨⟨hk2.1, hk2.2, hn.1, hn.2⟩, trivial, ?_⟩
        cases t : touchB h ((order.drop (i + 1)).getD k 0) (order.getD i 0)
        · rw [if_neg (by simp)]
          exact ⟨inI_succ hk hdl, ihk (nx (by rw [t, Bool.and_false]))⟩
        · rw [if_pos (by rfl)]
          refine ⟨?_, trivial⟩
          rw [ha, List.any_eq_true.2 ⟨_, mem_getD (d := 0) hk, by rw [decide_eq_true c, t]; rfl⟩]; rfl
      · rw [if_neg (by rw [decide_eq_true_eq]; exact c)]
        exact ⟨rfl, inI_succ hk hdl, ihk (nx (by rw [decide_eq_false c, Bool.false_and]))⟩
abbrev cOrdered7 : Con := { A := (.cons (.sl tL) (.cons (.sl (.sl tEd)) (.cons (.sl .int) .nil))), R := (.cons .int .nil), pre := fun x => True, F := fun x => (ordE x.1 x.2.1 x.2.2.1, ()) }
def cOrdered7_0 (Λ1 : Int → Prop) (p : (List Lin)) (h : (List (List Edt))) (order : (List Int)) (y0 : Int) : Prop :=
  True ∧ (if ((err7 p h) != (0 : Int)) = true then ((err7 p h) = y0 ∧ True) else (if ((List.length order : Int) != (List.length h : Int)) = true then ((1 : Int) = y0 ∧ True) else Λ1 (0 : Int)))
def cOrdered7_1 (Λ1 : Int → Prop) (p : (List Lin)) (h : (List (List Edt))) (order : (List Int)) (y0 : Int)  (t22_1 : Int) : Prop :=
  if (decide (t22_1 < (List.length h : Int))) = true then (True ∧ (if (!(decide (t22_1 ∈ order))) = true then ((1 : Int) = y0 ∧ True) else (inI (t22_1 + (1 : Int)) ∧ Λ1 (t22_1 + (1 : Int))))) else ((∀ n' ∈ order, 0 ≤ n' ∧ n' < (h.length : Int)) ∧ (if (!(keepsB h order)) = true then ((7 : Int) = y0 ∧ True) else ((0 : Int) = y0 ∧ True)))
theorem cOrdered7_law (h : ∀ (p : (List Lin)) (h : (List (List Edt))) (order : (List Int)), cOrdered7.A.wf (p, h, order, ()) → ∀ (Λ1 : Int → Prop), (∀ (t22_1 : Int), cOrdered7_1 Λ1 p h order (ordE p h order) t22_1 → Λ1 t22_1) → cOrdered7_0 Λ1 p h order (ordE p h order)) : ConOK Go.Proofs.Try.prog 100 cOrdered7 := by
  refine lawL (Γ := [(110, cContN), (142, cKeeps7), (36, cVal7)]) (Θ := Th) (n := 34) [([1, 1, 1, 0, 1, 0], ⟨[(1, false), (2, false), (21, true), (22, true)], []⟩)] ⟨cContN_ok, cKeeps7_ok, cVal7_ok, trivial⟩ (by kernel_rfl) th_ok mix_ok Go.Proofs.Try.func100 (by kernel_rfl) ?_
  intro x hw hp Λ hC
  have h0 := h x.1 x.2.1 x.2.2.1 hw (fun t22_1 => Λ [1, 1, 1, 0, 1, 0] ([(1, .d false (.sl (.sl tEd)) x.2.1), (2, .d false (.sl .int) x.2.2.1), (21, .d true .int (List.length x.2.1 : Int)), (22, .d true .int t22_1)], [])) (fun t22_1 hb => hC [1, 1, 1, 0, 1, 0] ([(1, .d false (.sl (.sl tEd)) x.2.1), (2, .d false (.sl .int) x.2.2.1), (21, .d true .int (List.length x.2.1 : Int)), (22, .d true .int t22_1)], []) (Eq.mpr (by kernel_rfl) hb))
  exact Eq.mpr (by kernel_rfl) h0
theorem cOrdered7_ok : ConOK Go.Proofs.Try.prog 100 cOrdered7 := by
  refine cOrdered7_law ?_
  intro p h order hw Λ1 h1
  unfold cOrdered7_0
  refine ⟨trivial, ?_⟩
  by_cases e : err7 p h = 0
  · rw [if_neg (by simp [e])]
    have h8 := (err7_ok e).2.1
    by_cases l : order.length = h.length
    · rw [if_neg (by simp [l])]
      refine upto (n := h.length) (Q := fun i => (∀ k : Nat, k < i → (k : Int) ∈ order) → Λ1 (i : Int)) ?_ ?_ 0 (Nat.zero_le _) (fun k hk => by omega)
      · intro ha
        have pm : Perm7 order h.length := perm7 l (permB_of ha)
        apply h1; unfold cOrdered7_1; rw [if_neg (by simp)]
        refine ⟨fun n hn => (pm.mem n).1 hn, ?_⟩
        rw [ordE_good e pm]
        cases k : keepsB h order
        · rw [if_pos (by rfl), if_neg (by simp)]; exact ⟨rfl, trivial⟩
        · rw [if_neg (by simp), if_pos rfl]; exact ⟨rfl, trivial⟩
      · intro i hi ih ha
        apply h1; unfold cOrdered7_1; rw [if_pos (by simpa using hi)]
        refine ⟨trivial, ?_⟩
        by_cases c : (i : Int) ∈ order
        · rw [if_neg (by simp [c])]
          refine ⟨inI_succ hi (by omega), ih fun k hk => ?_⟩
          by_cases q : k = i
          · subst q; exact c
          · exact ha k (by omega)
        · rw [if_pos (by simp [c])]
          refine ⟨ordE_bad e fun q => c ?_, trivial⟩
          exact ((perm7 q.1 q.2).mem i).2 ⟨by omega, by omega⟩
    · rw [if_pos (by simpa using fun q => l (by omega))]
      exact ⟨ordE_bad e fun q => l q.1, trivial⟩
  · rw [if_pos (by simpa using e)]
    refine ⟨?_, trivial⟩
    unfold ordE; rw [if_neg e]
abbrev cPlayOrd : Con := { A := (.cons (.sl tL) (.cons (.sl (.sl tEd)) (.cons (.sl .int) .nil))), R := (.cons (.sl tL) (.cons .int .nil)), pre := fun x => True, F := fun x => (ordV x.1 x.2.1 x.2.2.1, ordE x.1 x.2.1 x.2.2.1, ()) }
def cPlayOrd_0 (Λ1 : Int → (List (List Edt)) → Prop) (p : (List Lin)) (h : (List (List Edt))) (order : (List Int)) (y0 : (List Lin)) (y1 : Int) : Prop :=
  True ∧ (if ((ordE p h order) != (0 : Int)) = true then (([] : List Lin) = y0 ∧ (ordE p h order) = y1 ∧ True) else Λ1 (0 : Int) ([] : List (List Edt)))
def cPlayOrd_1 (Λ1 : Int → (List (List Edt)) → Prop) (p : (List Lin)) (h : (List (List Edt))) (order : (List Int)) (y0 : (List Lin)) (y1 : Int)  (t21_1 : Int) (l_1 : (List (List Edt))) : Prop :=
  if (decide (t21_1 < (List.length order : Int))) = true then (idx t21_1 (List.length order : Int) ∧ (idx (List.getD order (Int.toNat t21_1) 0) (List.length h : Int) ∧ (List.length l_1 + List.length ([(List.getD h (Int.toNat (List.getD order (Int.toNat t21_1) 0)) ([] : List Edt))]) ≤ 4294967296 ∧ (inI (t21_1 + (1 : Int)) ∧ Λ1 (t21_1 + (1 : Int)) (l_1 ++ [(List.getD h (Int.toNat (List.getD order (Int.toNat t21_1) 0)) ([] : List Edt))]))))) else ((okH p.length l_1 ∧ p.length ≤ 8) ∧ ((playH p l_1) = y0 ∧ (0 : Int) = y1 ∧ True))
theorem cPlayOrd_law (h : ∀ (p : (List Lin)) (h : (List (List Edt))) (order : (List Int)), cPlayOrd.A.wf (p, h, order, ()) → ∀ (Λ1 : Int → (List (List Edt)) → Prop), (∀ (t21_1 : Int) (l_1 : (List (List Edt))), cPlayOrd_1 Λ1 p h order (ordV p h order) (ordE p h order) t21_1 l_1 → Λ1 t21_1 l_1) → cPlayOrd_0 Λ1 p h order (ordV p h order) (ordE p h order)) : ConOK Go.Proofs.Try.prog 38 cPlayOrd := by
  refine lawL (Γ := [(100, cOrdered7), (96, cPlay0)]) (Θ := Th) (n := 36) [([1, 1, 1, 0, 1, 0], ⟨[(0, false), (1, false), (9, true), (19, false), (20, true), (21, true)], [(9, false)]⟩)] ⟨cOrdered7_ok, cPlay0_ok, trivial⟩ (by kernel_rfl) th_ok mix_ok Go.Proofs.Try.func38 (by kernel_rfl) ?_
  intro x hw hp Λ hC
  have h0 := h x.1 x.2.1 x.2.2.1 hw (fun t21_1 l_1 => Λ [1, 1, 1, 0, 1, 0] ([(0, .d false (.sl tL) x.1), (1, .d false (.sl (.sl tEd)) x.2.1), (9, .own 9 0), (19, .d false (.sl .int) x.2.2.1), (20, .d true .int (List.length x.2.2.1 : Int)), (21, .d true .int t21_1)], [(9, .sl false (.sl tEd) l_1)])) (fun t21_1 l_1 hb => hC [1, 1, 1, 0, 1, 0] ([(0, .d false (.sl tL) x.1), (1, .d false (.sl (.sl tEd)) x.2.1), (9, .own 9 0), (19, .d false (.sl .int) x.2.2.1), (20, .d true .int (List.length x.2.2.1 : Int)), (21, .d true .int t21_1)], [(9, .sl false (.sl tEd) l_1)]) (Eq.mpr (by kernel_rfl) hb))
  exact Eq.mpr (by kernel_rfl) h0
theorem cPlayOrd_ok : ConOK Go.Proofs.Try.prog 38 cPlayOrd := by
  refine cPlayOrd_law ?_
  intro p h order hw Λ1 h1
  unfold cPlayOrd_0
  refine ⟨trivial, ?_⟩
  by_cases e : ordE p h order = 0
  · rw [if_neg (by simp [e])]
    obtain ⟨e7, pm, kp⟩ := ordE_iff.1 e
    obtain ⟨e1, e2, e3, e4⟩ := err7_ok e7
    refine upto (n := order.length) (Q := fun i => Λ1 (i : Int) (ordH h (order.take i))) ?_ ?_ 0 (Nat.zero_le _)
    · apply h1; unfold cPlayOrd_1; rw [if_neg (by simp), List.take_length]
      refine ⟨⟨fun x hx => ?_, (validP_ok e1).1⟩, ?_, e.symm, trivial⟩
      · unfold ordH at hx
        rw [List.mem_map] at hx
        obtain ⟨n, hn, rfl⟩ := hx
        have := (pm.mem n).1 hn
        exact e3 _ (mem_getD (by omega))
      · unfold ordV; rw [if_pos e]
    · intro i hi ih
      have hx := (pm.mem _).1 (mem_getD (d := 0) hi)
      have hl : (ordH h (order.take i)).length ≤ 8 := by unfold ordH; rw [List.length_map, List.length_take]; have := pm.len; omega
      rw [show ordH h (order.take (i + 1)) = ordH h (order.take i) ++ [h.getD (order.getD i 0).toNat []] by unfold ordH; rw [take_snoc 0 hi, List.map_append]; rfl] at ih
      apply h1; unfold cPlayOrd_1; rw [if_pos (by simpa using hi), Int.toNat_natCast]
      exact ⟨idx_nat hi, ⟨hx.1, hx.2⟩, by simp only [List.length_cons, List.length_nil]; omega, inI_succ hi (by have := pm.len; omega), ih⟩
  · rw [if_pos (by simpa using e)]
    unfold ordV; rw [if_neg e]
    exact ⟨rfl, rfl, trivial⟩
end Go.Tk
/- Plain facts: how many orders keep the needs, and the last of them (layer 7). No program in sight. -/
set_option linter.unusedSimpArgs false
set_option linter.unusedVariables false
set_option linter.unnecessarySimpa false
namespace Go.Tk
open Go Go.RowKit

/-! ### Sums -/
def sumN (f : Nat → Nat) : Nat → Nat
  | 0 => 0
  | n + 1 => sumN f n + f n
theorem sumN_congr {f g : Nat → Nat} : ∀ {N}, (∀ m, m < N → f m = g m) → sumN f N = sumN g N
  | 0, _ => rfl
  | n + 1, h => by unfold sumN; rw [sumN_congr (N := n) fun m hm => h m (by omega), h n (by omega)]
theorem sumN_upd2 {f g : Nat → Nat} {n : Nat} : ∀ {N}, n < N → (∀ m, m < N → m ≠ n → f m = g m) → sumN g N + f n = sumN f N + g n
  | 0, h, _ => by omega
  | N + 1, h, h1 => by
    unfold sumN
    by_cases e : n = N
    · subst e
      rw [sumN_congr (f := g) (g := f) fun m hm => (h1 m (by omega) (by omega)).symm]; omega
    · have := sumN_upd2 (N := N) (by omega) (fun m hm => h1 m (by omega))
      rw [h1 N (by omega) (by omega)]; omega
theorem sumN_le {f : Nat → Nat} {B : Nat} : ∀ {N}, (∀ m, m < N → f m ≤ B) → sumN f N ≤ N * B
  | 0, _ => by simp [sumN]
  | n + 1, h => by
    unfold sumN
    have := sumN_le (N := n) fun m hm => h m (by omega)
    have := h n (by omega)
    rw [Nat.add_mul, Nat.one_mul]; omega
theorem sumN_mono {f g : Nat → Nat} : ∀ {N}, (∀ m, m < N → f m ≤ g m) → sumN f N ≤ sumN g N
  | 0, _ => Nat.le_refl _
  | n + 1, h => by
    unfold sumN
    have := sumN_mono (N := n) fun m hm => h m (by omega)
    have := h n (by omega)
    omega
theorem sumN_one {f : Nat → Nat} {a : Nat} : ∀ {N}, a < N → f a ≤ sumN f N
  | 0, h => by omega
  | n + 1, h => by
    unfold sumN
    by_cases e : a = n
    · subst e; omega
    · have := sumN_one (f := f) (N := n) (a := a) (by omega); omega
theorem sumN_two {f : Nat → Nat} {a b : Nat} (hab : a < b) : ∀ {N}, b < N → f a + f b ≤ sumN f N
  | 0, h => by omega
  | n + 1, h => by
    unfold sumN
    by_cases e : b = n
    · subst e
      have := sumN_one (f := f) (N := b) (a := a) hab; omega
    · have := sumN_two (f := f) hab (N := n) (by omega); omega
theorem sumN_pos {f : Nat → Nat} : ∀ {N}, 0 < sumN f N → ∃ m, m < N ∧ 0 < f m
  | 0, h => by simp [sumN] at h
  | n + 1, h => by
    unfold sumN at h
    by_cases e : 0 < f n
    · exact ⟨n, by omega, e⟩
    · obtain ⟨m, h1, h2⟩ := sumN_pos (f := f) (N := n) (by omega)
      exact ⟨m, by omega, h2⟩
theorem sumN_zero {f : Nat → Nat} : ∀ {N}, (∀ m, m < N → f m = 0) → sumN f N = 0
  | 0, _ => rfl
  | n + 1, h => by unfold sumN; rw [sumN_zero (N := n) fun m hm => h m (by omega), h n (by omega)]
theorem sumN_single {f : Nat → Nat} {a N : Nat} (ha : a < N) (h : ∀ m, m < N → m ≠ a → f m = 0) : sumN f N = f a := by
  have := sumN_upd2 (f := fun _ => 0) (g := f) ha (fun m hm e => (h m hm e).symm)
  rw [sumN_zero (f := fun _ => 0) fun _ _ => rfl] at this; omega

/-! ### Bits -/
def pc8 (t : Nat) : Nat := sumN (fun m => if t.testBit m then 1 else 0) 8
theorem bit_off : ∀ t, t < 256 → ∀ n, n < 8 → t.testBit n = true → t - 2 ^ n < t ∧ (t - 2 ^ n).testBit n = false ∧ (t - 2 ^ n) ||| 2 ^ n = t ∧ pc8 (t - 2 ^ n) + 1 = pc8 t := by decide +kernel
theorem bit_on : ∀ t, t < 256 → ∀ n, n < 8 → t.testBit n = false → (t ||| 2 ^ n) - 2 ^ n = t ∧ t < (t ||| 2 ^ n) ∧ (t ||| 2 ^ n) < 256 := by decide +kernel
theorem pc8_le : ∀ t, t < 256 → pc8 t ≤ 8 := by decide +kernel
theorem bit_or (t n m : Nat) : (t ||| 2 ^ n).testBit m = (t.testBit m || decide (n = m)) := by
  rw [Nat.testBit_or, Nat.testBit_two_pow]
theorem pow_le8 {N : Nat} (h : N ≤ 8) : 2 ^ N ≤ 256 := by
  have := Nat.pow_le_pow_right (n := 2) (by omega) h
  simpa using this
theorem or_lt {t n N : Nat} (ht : t < 2 ^ N) (hn : n < N) : t ||| 2 ^ n < 2 ^ N := Nat.or_lt_two_pow ht (Nat.pow_lt_pow_right (by omega) hn)

/-! ### What can come next -/
def frD (h : List (List Edt)) (t n : Nat) : Bool := !(t.testBit n) && (List.range n).all fun k => !(tch h k n) || t.testBit k
def frA (h : List (List Edt)) (t n : Nat) : Bool := !(t.testBit n) && (List.range h.length).all fun k => !(need h n k) || t.testBit k
def frM (all : List (List Bool)) (t n : Nat) : Bool := !(t.testBit n) && (List.range all.length).all fun k => !((all.getD n []).getD k false) || t.testBit k
theorem frM_mat (h : List (List Edt)) (t : Nat) {n : Nat} (hn : n < h.length) : frM (matN h) t n = frA h t n := by
  unfold frM frA
  rw [matN_len]
  congr 2; funext k
  rw [matN_get h hn]
theorem frD_iff {h : List (List Edt)} {t n : Nat} : frD h t n = true ↔ t.testBit n = false ∧ ∀ k, k < n → tch h k n = true → t.testBit k = true := by
  unfold frD
  simp only [Bool.and_eq_true, Bool.not_eq_true', List.all_eq_true, List.mem_range, Bool.or_eq_true]
  constructor
  · rintro ⟨h1, h2⟩
    exact ⟨h1, fun k hk ht => (h2 k hk).resolve_left (by rw [ht]; simp)⟩
  · rintro ⟨h1, h2⟩
    refine ⟨h1, fun k hk => ?_⟩
    cases e : tch h k n
    · exact .inl rfl
    · exact .inr (h2 k hk e)
theorem frA_iff {h : List (List Edt)} {t n : Nat} (hn : n < h.length) : frA h t n = true ↔ t.testBit n = false ∧ ∀ k, need h n k = true → t.testBit k = true := by
  unfold frA
  simp only [Bool.and_eq_true, Bool.not_eq_true', List.all_eq_true, List.mem_range, Bool.or_eq_true]
  constructor
  · rintro ⟨h1, h2⟩
    exact ⟨h1, fun k ht => (h2 k (by have := need_lt ht; omega)).resolve_left (by rw [ht]; simp)⟩
  · rintro ⟨h1, h2⟩
    refine ⟨h1, fun k hk => ?_⟩
    cases e : need h n k
    · exact .inl rfl
    · exact .inr (h2 k e)
def Clos (h : List (List Edt)) (t : Nat) : Prop := ∀ m, t.testBit m = true → ∀ k, k < m → tch h k m = true → t.testBit k = true
theorem fr_same {h : List (List Edt)} {t n : Nat} (c : Clos h t) (hn : n < h.length) : frD h t n = frA h t n := by
  rw [Bool.eq_iff_iff, frD_iff, frA_iff hn]
  constructor
  · rintro ⟨h1, h2⟩
    exact ⟨h1, fun k hk => need_closed (S := fun k => t.testBit k = true) (fun j hj k hk ht => c j hj k hk ht) hk h2⟩
  · rintro ⟨h1, h2⟩
    exact ⟨h1, fun k hk ht => h2 k (need_dir hk ht)⟩
theorem Clos.on {h : List (List Edt)} {t n : Nat} (c : Clos h t) (f : frD h t n = true) : Clos h (t ||| 2 ^ n) := by
  intro m hm k hk ht
  rw [bit_or, Bool.or_eq_true] at hm ⊢
  rcases hm with hm | hm
  · exact .inl (c m hm k hk ht)
  · simp at hm
    subst hm
    exact .inl ((frD_iff.1 f).2 k hk ht)

/-! ### How many orders -/
def cntF (fr : Nat → Nat → Bool) (N : Nat) : Nat → Nat → Nat
  | 0, _ => 0
  | f + 1, t => if t = 0 then 1 else sumN (fun n => if t.testBit n = true ∧ fr (t - 2 ^ n) n = true then cntF fr N f (t - 2 ^ n) else 0) N
def cnt (fr : Nat → Nat → Bool) (N t : Nat) : Nat := cntF fr N (t + 1) t
theorem cntF_any {fr : Nat → Nat → Bool} {N : Nat} (hN : N ≤ 8) : ∀ f g t, t < 256 → t < f → t < g → cntF fr N f t = cntF fr N g t
  | 0, _, _, _, hf, _ => by omega
  | _ + 1, 0, _, _, _, hg => by omega
  | f + 1, g + 1, t, ht, hf, hg => by
    unfold cntF
    by_cases e : t = 0
    · rw [if_pos e, if_pos e]
    · rw [if_neg e, if_neg e]
      refine sumN_congr fun n hn => ?_
      by_cases c : t.testBit n = true ∧ fr (t - 2 ^ n) n = true
      · have := bit_off t ht n (by omega) c.1
        rw [if_pos c, if_pos c]
        exact cntF_any hN f g _ (by omega) (by omega) (by omega)
      · rw [if_neg c, if_neg c]
theorem cnt_eq {fr : Nat → Nat → Bool} {N t : Nat} (hN : N ≤ 8) (ht : t < 256) (h0 : t ≠ 0) : cnt fr N t = sumN (fun n => if t.testBit n = true ∧ fr (t - 2 ^ n) n = true then cnt fr N (t - 2 ^ n) else 0) N := by
  show cntF fr N (t + 1) t = _
  rw [cntF, if_neg h0]
  refine sumN_congr fun n hn => ?_
  by_cases c : t.testBit n = true ∧ fr (t - 2 ^ n) n = true
  · have := bit_off t ht n (by omega) c.1
    rw [if_pos c, if_pos c]
    exact cntF_any hN _ _ _ (by omega) (by omega) (by omega)
  · rw [if_neg c, if_neg c]
theorem cnt_zero (fr : Nat → Nat → Bool) (N : Nat) : cnt fr N 0 = 1 := by
  show cntF fr N 1 0 = 1
  rw [cntF, if_pos rfl]
theorem cnt_le {fr : Nat → Nat → Bool} {N : Nat} (hN : N ≤ 8) : ∀ t, t < 256 → cnt fr N t ≤ 8 ^ pc8 t := by
  intro t
  induction t using Nat.strongRecOn with
  | ind t ih =>
    intro ht
    by_cases e : t = 0
    · subst e; rw [cnt_zero]; exact Nat.one_le_pow _ _ (by omega)
    · rw [cnt_eq hN ht e]
      by_cases z : pc8 t = 0
      · rw [sumN_zero]
        · exact Nat.zero_le _
        · intro m hm
          rw [if_neg]
          rintro ⟨c, _⟩
          have := bit_off t ht m (by omega) c
          omega
      · have : sumN (fun n => if t.testBit n = true ∧ fr (t - 2 ^ n) n = true then cnt fr N (t - 2 ^ n) else 0) N ≤ N * 8 ^ (pc8 t - 1) := by
          refine sumN_le fun m hm => ?_
          split
          · rename_i c
            have b := bit_off t ht m (by omega) c.1
            have := ih _ b.1 (by omega)
            rw [show pc8 t - 1 = pc8 (t - 2 ^ m) by omega]; exact this
          · exact Nat.zero_le _
        have e2 : 8 ^ pc8 t = 8 * 8 ^ (pc8 t - 1) := by
          obtain ⟨k, hk⟩ : ∃ k, pc8 t = k + 1 := ⟨pc8 t - 1, by omega⟩
          rw [hk, Nat.pow_succ, Nat.mul_comm]; rfl
        rw [e2]
        exact Nat.le_trans this (Nat.mul_le_mul_right _ hN)
theorem cnt_small {fr : Nat → Nat → Bool} {N t : Nat} (hN : N ≤ 8) (ht : t < 256) : cnt fr N t ≤ 16777216 := by
  have h1 := cnt_le (fr := fr) hN t ht
  have h2 := Nat.pow_le_pow_right (n := 8) (by omega) (pc8_le t ht)
  have h3 : 8 ^ 8 = 16777216 := by decide
  omega
theorem cnt_clos {h : List (List Edt)} (hN : h.length ≤ 8) : ∀ t, t < 256 → 0 < cnt (frD h) h.length t → Clos h t := by
  intro t
  induction t using Nat.strongRecOn with
  | ind t ih =>
    intro ht hp
    by_cases e : t = 0
    · subst e; intro m hm; simp at hm
    · rw [cnt_eq hN ht e] at hp
      obtain ⟨n, hn, hp⟩ := sumN_pos hp
      split at hp
      · rename_i c
        obtain ⟨b1, b2, b3, _⟩ := bit_off t ht n (by omega) c.1
        have := (ih _ b1 (by omega) hp).on c.2
        rwa [b3] at this
      · omega
theorem cnt_same {h : List (List Edt)} (hN : h.length ≤ 8) : ∀ t, t < 256 → cnt (frD h) h.length t = cnt (frA h) h.length t := by
  intro t
  induction t using Nat.strongRecOn with
  | ind t ih =>
    intro ht
    by_cases e : t = 0
    · subst e; rw [cnt_zero, cnt_zero]
    · rw [cnt_eq hN ht e, cnt_eq hN ht e]
      refine sumN_congr fun n hn => ?_
      by_cases c : t.testBit n = true
      · obtain ⟨b1, _⟩ := bit_off t ht n (by omega) c
        have i := ih _ b1 (by omega)
        by_cases z : 0 < cnt (frD h) h.length (t - 2 ^ n)
        · rw [fr_same (cnt_clos hN _ (by omega) z) hn, i]
        · have z1 : cnt (frD h) h.length (t - 2 ^ n) = 0 := by omega
          have z2 : cnt (frA h) h.length (t - 2 ^ n) = 0 := by omega
          rw [z1, z2]; split <;> split <;> rfl
      · rw [if_neg (fun q => c q.1), if_neg (fun q => c q.1)]
theorem cnt_step {fr : Nat → Nat → Bool} {N t n : Nat} (hN : N ≤ 8) (ht : t < 256) (hn : n < N) (hb : t.testBit n = false) (hf : fr t n = true) : cnt fr N t ≤ cnt fr N (t ||| 2 ^ n) := by
  obtain ⟨b1, b2, b3⟩ := bit_on t ht n (by omega) hb
  rw [cnt_eq hN b3 (by omega)]
  have := sumN_one (f := fun m => if (t ||| 2 ^ n).testBit m = true ∧ fr ((t ||| 2 ^ n) - 2 ^ m) m = true then cnt fr N ((t ||| 2 ^ n) - 2 ^ m) else 0) hn
  rw [b1, if_pos ⟨by rw [bit_or]; simp, hf⟩] at this
  exact this

/-! ### What the table holds on the way -/
def part (fr : Nat → Nat → Bool) (N t n s : Nat) : Nat := (if s = 0 then 1 else 0) + sumN (fun m => if s.testBit m = true ∧ fr (s - 2 ^ m) m = true ∧ (s - 2 ^ m < t ∨ (s - 2 ^ m = t ∧ m < n)) then cnt fr N (s - 2 ^ m) else 0) N
theorem part_full {fr : Nat → Nat → Bool} {N t s : Nat} (hN : N ≤ 8) (hs : s < 256) (h : s ≤ t) (n : Nat) : part fr N t n s = cnt fr N s := by
  unfold part
  by_cases e : s = 0
  · subst e
    rw [if_pos rfl, cnt_zero, sumN_zero]
    intro m hm; rw [if_neg (by simp)]
  · rw [if_neg e, Nat.zero_add, cnt_eq hN hs e]
    refine sumN_congr fun m hm => ?_
    by_cases c : s.testBit m = true
    · have b := bit_off s hs m (by omega) c
      by_cases g : fr (s - 2 ^ m) m = true
      · rw [if_pos ⟨c, g, .inl (by omega)⟩, if_pos ⟨c, g⟩]
      · rw [if_neg (fun q => g q.2.1), if_neg (fun q => g q.2)]
    · rw [if_neg (fun q => c q.1), if_neg (fun q => c q.1)]
theorem part_next (fr : Nat → Nat → Bool) (N t s : Nat) : part fr N t N s = part fr N (t + 1) 0 s := by
  unfold part
  congr 1
  refine sumN_congr fun m hm => ?_
  have : (s - 2 ^ m < t ∨ (s - 2 ^ m = t ∧ m < N)) ↔ (s - 2 ^ m < t + 1 ∨ (s - 2 ^ m = t + 1 ∧ m < 0)) := by omega
  simp only [this]
theorem part_step {fr : Nat → Nat → Bool} {N t n s : Nat} (hN : N ≤ 8) (hn : n < N) (hs : s < 256) (ht : t < 256) (hfr : fr t n = true → t.testBit n = false) : part fr N t (n + 1) s = part fr N t n s + (if s = t ||| 2 ^ n ∧ fr t n = true then cnt fr N t else 0) := by
  unfold part
  have key := sumN_upd2 (f := fun m => if s.testBit m = true ∧ fr (s - 2 ^ m) m = true ∧ (s - 2 ^ m < t ∨ (s - 2 ^ m = t ∧ m < n)) then cnt fr N (s - 2 ^ m) else 0) (g := fun m => if s.testBit m = true ∧ fr (s - 2 ^ m) m = true ∧ (s - 2 ^ m < t ∨ (s - 2 ^ m = t ∧ m < n + 1)) then cnt fr N (s - 2 ^ m) else 0) hn (fun m hm e => by
    have : (s - 2 ^ m < t ∨ (s - 2 ^ m = t ∧ m < n)) ↔ (s - 2 ^ m < t ∨ (s - 2 ^ m = t ∧ m < n + 1)) := by omega
    simp only [this])
  have at_n : (if s.testBit n = true ∧ fr (s - 2 ^ n) n = true ∧ (s - 2 ^ n < t ∨ (s - 2 ^ n = t ∧ n < n + 1)) then cnt fr N (s - 2 ^ n) else 0) = (if s.testBit n = true ∧ fr (s - 2 ^ n) n = true ∧ (s - 2 ^ n < t ∨ (s - 2 ^ n = t ∧ n < n)) then cnt fr N (s - 2 ^ n) else 0) + (if s = t ||| 2 ^ n ∧ fr t n = true then cnt fr N t else 0) := by
    by_cases c : s.testBit n = true
    · obtain ⟨b1, b2, b3, _⟩ := bit_off s hs n (by omega) c
      by_cases q : s = t ||| 2 ^ n ∧ fr t n = true
      · have b := bit_on t ht n (by omega) (hfr q.2)
        rw [← q.1] at b
        rw [if_pos q, b.1, if_pos ⟨c, q.2, .inr ⟨rfl, by omega⟩⟩, if_neg (by rintro ⟨_, _, h | h⟩ <;> omega)]; omega
      · rw [if_neg q, Nat.add_zero]
        by_cases u : s - 2 ^ n = t
        · rw [u] at b3 ⊢
          rw [if_neg (fun w => q ⟨b3.symm, w.2.1⟩), if_neg (fun w => q ⟨b3.symm, w.2.1⟩)]
        · by_cases v : s - 2 ^ n < t
          · by_cases g : fr (s - 2 ^ n) n = true
            · simp only [c, g, v, true_and, true_or, if_true]; rfl
            · rw [if_neg (fun w => g w.2.1), if_neg (fun w => g w.2.1)]
          · rw [if_neg (by rintro ⟨_, _, h | h⟩ <;> omega), if_neg (by rintro ⟨_, _, h | h⟩ <;> omega)]
    · rw [if_neg (fun q => c q.1), if_neg (fun q => c q.1), if_neg (fun q => c (by rw [q.1, bit_or]; simp))]
  omega
theorem part_zero (fr : Nat → Nat → Bool) (N s : Nat) : part fr N 0 0 s = if s = 0 then 1 else 0 := by
  unfold part
  rw [sumN_zero]
  · rfl
  · intro m hm; rw [if_neg (by rintro ⟨_, _, h | h⟩ <;> omega)]
theorem part_le {fr : Nat → Nat → Bool} {N s : Nat} (hN : N ≤ 8) (hs : s < 256) (t n : Nat) : part fr N t n s ≤ cnt fr N s := by
  rw [← part_full (fr := fr) hN hs (Nat.le_refl s) 0]
  unfold part
  refine Nat.add_le_add_left (sumN_mono fun m hm => ?_) _
  by_cases c : s.testBit m = true ∧ fr (s - 2 ^ m) m = true
  · have b := bit_off s hs m (by omega) c.1
    rw [if_pos (show s.testBit m = true ∧ fr (s - 2 ^ m) m = true ∧ (s - 2 ^ m < s ∨ (s - 2 ^ m = s ∧ m < 0)) from ⟨c.1, c.2, .inl b.1⟩)]
    split <;> omega
  · rw [if_neg (fun q => c ⟨q.1, q.2.1⟩)]; exact Nat.zero_le _

/-! ### The last order -/
def pick (fr : Nat → Nat → Bool) (t : Nat) : Nat → Option Nat
  | 0 => none
  | n + 1 => if fr t n = true then some n else pick fr t n
theorem pick_some {fr : Nat → Nat → Bool} {t : Nat} : ∀ {N n}, pick fr t N = some n → n < N ∧ fr t n = true ∧ ∀ k, k < N → fr t k = true → k ≤ n
  | 0, n, h => by simp [pick] at h
  | N + 1, n, h => by
    unfold pick at h
    split at h
    · rename_i c
      cases h
      exact ⟨by omega, c, fun k hk _ => by omega⟩
    · rename_i c
      obtain ⟨h1, h2, h3⟩ := pick_some h
      refine ⟨by omega, h2, fun k hk hf => ?_⟩
      by_cases e : k = N
      · subst e; exact absurd hf c
      · exact h3 k (by omega) hf
theorem pick_none {fr : Nat → Nat → Bool} {t : Nat} : ∀ {N}, pick fr t N = none → ∀ k, k < N → fr t k = false
  | 0, _, k, hk => by omega
  | N + 1, h, k, hk => by
    unfold pick at h
    split at h
    · cases h
    · rename_i c
      by_cases e : k = N
      · subst e; simpa using c
      · exact pick_none h k (by omega)
def lastF (fr : Nat → Nat → Bool) (N : Nat) : Nat → List Int × Nat
  | 0 => ([], 0)
  | i + 1 => match pick fr (lastF fr N i).2 N with
    | some n => ((lastF fr N i).1 ++ [(n : Int)], (lastF fr N i).2 ||| 2 ^ n)
    | none => lastF fr N i
theorem least_free {h : List (List Edt)} {t n : Nat} (hn : t.testBit n = false) : ∃ k, k ≤ n ∧ frD h t k = true := by
  induction n using Nat.strongRecOn with
  | ind n ih =>
    by_cases c : ∀ k, k < n → t.testBit k = true
    · exact ⟨n, Nat.le_refl _, frD_iff.2 ⟨hn, fun k hk _ => c k hk⟩⟩
    · have ⟨k, hk⟩ := Classical.not_forall.1 c
      have ⟨hk1, hk2⟩ := Classical.not_imp.1 hk
      obtain ⟨j, j1, j2⟩ := ih k hk1 (by simpa using hk2)
      exact ⟨j, by omega, j2⟩
structure Lst7 (h : List (List Edt)) (i : Nat) (o : List Int) (t : Nat) : Prop where
  len : o.length = i
  lt : t < 2 ^ h.length
  bits : ∀ m, t.testBit m = true ↔ (m : Int) ∈ o
  mem : ∀ x ∈ o, 0 ≤ x ∧ x < h.length
  nodup : o.Nodup
  clos : Clos h t
  keeps : keepsB h o = true
theorem Lst7.has {h : List (List Edt)} {i : Nat} {o : List Int} {t : Nat} (s : Lst7 h i o t) (hi : i < h.length) : ∃ n, pick (frD h) t h.length = some n := by
  cases e : pick (frD h) t h.length with
  | some n => exact ⟨n, rfl⟩
  | none =>
    exfalso
    have p := pick_none e
    have all : ∀ n, n < h.length → t.testBit n = true := by
      intro n hn
      cases b : t.testBit n
      · obtain ⟨k, k1, k2⟩ := least_free (h := h) b
        rw [p k (by omega)] at k2; cases k2
      · rfl
    have := (perm_of_sub (upI_nodup h.length) (fun x hx => by
      rw [upI_mem] at hx
      obtain ⟨k, rfl⟩ := Int.eq_ofNat_of_zero_le hx.1
      exact (s.bits k).1 (all k (by omega))) (by rw [s.len, upI_len]; omega)).length_eq
    rw [upI_len, s.len] at this
    omega
theorem Lst7.next {h : List (List Edt)} {i : Nat} {o : List Int} {t n : Nat} (s : Lst7 h i o t) (e : pick (frD h) t h.length = some n) : Lst7 h (i + 1) (o ++ [(n : Int)]) (t ||| 2 ^ n) := by
  obtain ⟨h1, h2, _⟩ := pick_some e
  have hb := (frD_iff.1 h2).1
  have hno : (n : Int) ∉ o := fun q => by rw [(s.bits n).2 q] at hb; cases hb
  refine ⟨by simp [s.len], or_lt s.lt h1, fun m => ?_, fun x hx => ?_, ?_, s.clos.on h2, ?_⟩
  · rw [bit_or, Bool.or_eq_true, s.bits m, List.mem_append, List.mem_singleton, decide_eq_true_eq]
    constructor
    · rintro (q | q)
      · exact .inl q
      · exact .inr (by omega)
    · rintro (q | q)
      · exact .inl q
      · exact .inr (by omega)
  · rcases List.mem_append.1 hx with g | g
    · exact s.mem x g
    · simp at g; subst g; omega
  · rw [List.nodup_append]
    refine ⟨s.nodup, by simp, fun a ha b hb => ?_⟩
    simp at hb; subst hb
    exact fun q => hno (q ▸ ha)
  · rw [keepsB_iff, List.pairwise_append]
    refine ⟨keepsB_iff.1 s.keeps, by simp, fun a ha b hb => ?_⟩
    simp at hb; subst hb
    rintro ⟨q1, q2⟩
    obtain ⟨a', rfl⟩ := Int.eq_ofNat_of_zero_le (s.mem a ha).1
    have := s.clos a' ((s.bits a').2 ha) n (by omega) q2
    rw [this] at hb; cases hb
theorem lastF_ok (h : List (List Edt)) : ∀ i, i ≤ h.length → Lst7 h i (lastF (frD h) h.length i).1 (lastF (frD h) h.length i).2
  | 0, _ => ⟨rfl, Nat.two_pow_pos _, by simp [lastF], by simp [lastF], by simp [lastF], (by intro m hm; simp [lastF] at hm), rfl⟩
  | i + 1, hi => by
    have s := lastF_ok h i (by omega)
    obtain ⟨n, e⟩ := s.has (by omega)
    have := s.next e
    rw [lastF, e]; exact this
def lastL (h : List (List Edt)) : List Int := (lastF (frD h) h.length h.length).1
theorem lastL_perm (h : List (List Edt)) : Perm7 (lastL h) h.length := by
  have s := lastF_ok h h.length (Nat.le_refl _)
  have p := perm_of_sub s.nodup (k := upI h.length) (fun x hx => upI_mem.2 (s.mem x hx)) (by rw [s.len, upI_len]; exact Nat.le_refl _)
  exact ⟨s.nodup, fun x => by rw [← upI_mem]; exact p.mem_iff, s.len⟩
theorem lastL_ok {p : List Lin} {h : List (List Edt)} (e : err7 p h = 0) : ordE p h (lastL h) = 0 := ordE_iff.2 ⟨e, lastL_perm h, (lastF_ok h h.length (Nat.le_refl _)).keeps⟩

/-! ### One order, or more -/
def seg (j : Nat) : Nat := 2 ^ j - 1
theorem seg_bit (j m : Nat) : (seg j).testBit m = decide (m < j) := Nat.testBit_two_pow_sub_one ..
theorem seg_lt {j N : Nat} (h : j ≤ N) : seg j < 2 ^ N := by
  have := Nat.pow_le_pow_right (n := 2) (by omega) h
  have := Nat.two_pow_pos j
  unfold seg; omega
theorem seg_on (j : Nat) : seg j ||| 2 ^ j = seg (j + 1) := by
  apply Nat.eq_of_testBit_eq
  intro m
  rw [bit_or, seg_bit, seg_bit, Bool.eq_iff_iff]
  simp; omega
theorem frD_seg (h : List (List Edt)) (j : Nat) : frD h (seg j) j = true := frD_iff.2 ⟨by rw [seg_bit]; simp, fun k hk _ => by rw [seg_bit]; simpa using hk⟩
theorem full_ge {h : List (List Edt)} (hN : h.length ≤ 8) : ∀ d t, t < 2 ^ h.length → 2 ^ h.length - t ≤ d → cnt (frD h) h.length t ≤ cnt (frD h) h.length (seg h.length)
  | 0, t, ht, hd => by omega
  | d + 1, t, ht, hd => by
    have p8 := pow_le8 hN
    by_cases c : ∃ n, n < h.length ∧ t.testBit n = false
    · obtain ⟨n, n1, n2⟩ := c
      obtain ⟨k, k1, k2⟩ := least_free (h := h) n2
      have kb := (frD_iff.1 k2).1
      have b := bit_on t (by omega) k (by omega) kb
      have h1 := cnt_step (fr := frD h) hN (by omega) (show k < h.length by omega) kb k2
      have h2 := full_ge hN d (t ||| 2 ^ k) (or_lt ht (by omega)) (by omega)
      omega
    · have e : t = seg h.length := by
        apply Nat.eq_of_testBit_eq
        intro m
        rw [seg_bit]
        by_cases q : m < h.length
        · rw [decide_eq_true q]
          cases b : t.testBit m
          · exact absurd ⟨m, q, b⟩ c
          · rfl
        · rw [decide_eq_false q, Nat.testBit_lt_two_pow (Nat.lt_of_lt_of_le ht (Nat.pow_le_pow_right (by omega) (by omega)))]
      rw [e]; exact Nat.le_refl _
def cntL (h : List (List Edt)) : Nat := cnt (frD h) h.length (seg h.length)
theorem cntL_pos {h : List (List Edt)} (hN : h.length ≤ 8) : 1 ≤ cntL h := by
  have := full_ge hN _ 0 (Nat.two_pow_pos _) (Nat.le_refl _)
  rw [cnt_zero] at this
  exact this
theorem cntL_two {h : List (List Edt)} (hN : h.length ≤ 8) {j m : Nat} (hjm : j < m) (hm : m < h.length) (hf : frD h (seg j) m = true) (hs : 1 ≤ cnt (frD h) h.length (seg j)) : 2 ≤ cntL h := by
  have p8 := pow_le8 hN
  have sl := seg_lt (show j ≤ h.length by omega)
  have fj := frD_seg h j
  have bj := (frD_iff.1 fj).1
  have bm := (frD_iff.1 hf).1
  -- both, in either order
  have lj := or_lt sl (show j < h.length by omega)
  have lm := or_lt sl hm
  have fm2 : frD h (seg j ||| 2 ^ j) m = true := frD_iff.2 ⟨by rw [bit_or, bm]; simp; omega, fun k hk ht => by rw [bit_or, (frD_iff.1 hf).2 k hk ht]; rfl⟩
  have fj2 : frD h (seg j ||| 2 ^ m) j = true := frD_iff.2 ⟨by rw [bit_or, bj]; simp; omega, fun k hk ht => by rw [bit_or, (frD_iff.1 fj).2 k hk ht]; rfl⟩
  have h1 := cnt_step (fr := frD h) hN (by omega) (show j < h.length by omega) bj fj
  have h2 := cnt_step (fr := frD h) hN (by omega) hm bm hf
  have e : (seg j ||| 2 ^ j) ||| 2 ^ m = (seg j ||| 2 ^ m) ||| 2 ^ j := by rw [Nat.or_assoc, Nat.or_assoc, Nat.or_comm (2 ^ j)]
  have g1 := bit_on (seg j ||| 2 ^ j) (by omega) m (by omega) (frD_iff.1 fm2).1
  have g2 := bit_on (seg j ||| 2 ^ m) (by omega) j (by omega) (frD_iff.1 fj2).1
  rw [← e] at g2
  have ge := full_ge hN _ ((seg j ||| 2 ^ j) ||| 2 ^ m) (or_lt lj hm) (Nat.le_refl _)
  rw [cnt_eq hN (by omega) (by omega)] at ge
  have two := sumN_two (f := fun n => if ((seg j ||| 2 ^ j) ||| 2 ^ m).testBit n = true ∧ frD h (((seg j ||| 2 ^ j) ||| 2 ^ m) - 2 ^ n) n = true then cnt (frD h) h.length (((seg j ||| 2 ^ j) ||| 2 ^ m) - 2 ^ n) else 0) hjm hm
  rw [g1.1, g2.1, if_pos ⟨by rw [bit_or, bit_or]; simp, fj2⟩, if_pos ⟨by rw [bit_or]; simp, fm2⟩] at two
  unfold cntL
  omega
theorem cnt_seg {h : List (List Edt)} (hN : h.length ≤ 8) : ∀ j, j ≤ h.length → 1 ≤ cnt (frD h) h.length (seg j)
  | 0, _ => by rw [show seg 0 = 0 from rfl, cnt_zero]; exact Nat.le_refl _
  | j + 1, hj => by
    have p8 := pow_le8 hN
    have := seg_lt (show j ≤ h.length by omega)
    have f := frD_seg h j
    have := cnt_step (fr := frD h) hN (t := seg j) (by omega) (show j < h.length by omega) (frD_iff.1 f).1 f
    rw [seg_on] at this
    have := cnt_seg hN j (by omega)
    omega
/-- Just one order: at each beginning of the history just the next repair is free. -/
def Only (h : List (List Edt)) : Prop := ∀ j, j < h.length → ∀ m, m < h.length → frD h (seg j) m = true → m = j
theorem only_one {h : List (List Edt)} (hN : h.length ≤ 8) (o : Only h) : ∀ t, t < 2 ^ h.length → 0 < cnt (frD h) h.length t → ∃ j, j ≤ h.length ∧ t = seg j ∧ cnt (frD h) h.length t = 1 := by
  have p8 := pow_le8 hN
  intro t
  induction t using Nat.strongRecOn with
  | ind t ih =>
    intro ht hp
    by_cases e : t = 0
    · subst e
      exact ⟨0, Nat.zero_le _, rfl, cnt_zero ..⟩
    · have he := cnt_eq (fr := frD h) hN (t := t) (by omega) e
      have term : ∀ n, n < h.length → 0 < (if t.testBit n = true ∧ frD h (t - 2 ^ n) n = true then cnt (frD h) h.length (t - 2 ^ n) else 0) → t = seg (n + 1) ∧ (if t.testBit n = true ∧ frD h (t - 2 ^ n) n = true then cnt (frD h) h.length (t - 2 ^ n) else 0) = 1 := by
        intro n hn hq
        by_cases c : t.testBit n = true ∧ frD h (t - 2 ^ n) n = true
        · rw [if_pos c] at hq ⊢
          obtain ⟨b1, b2, b3, _⟩ := bit_off t (by omega) n (by omega) c.1
          obtain ⟨j, j1, j2, j3⟩ := ih _ b1 (by omega) hq
          have hj : j < h.length := by
            have := c.2
            rw [j2] at this
            have nb := (frD_iff.1 this).1
            rw [seg_bit] at nb
            simp at nb; omega
          have := o j hj n hn (by rw [← j2]; exact c.2)
          subst this
          rw [j2, seg_on] at b3
          exact ⟨b3.symm, j3⟩
        · rw [if_neg c] at hq; omega
      rw [he] at hp
      obtain ⟨n, n1, n2⟩ := sumN_pos hp
      obtain ⟨t1, t2⟩ := term n n1 n2
      refine ⟨n + 1, by omega, t1, ?_⟩
      rw [he, sumN_single n1, t2]
      intro m hm hmn
      by_cases z : 0 < (if t.testBit m = true ∧ frD h (t - 2 ^ m) m = true then cnt (frD h) h.length (t - 2 ^ m) else 0)
      · exfalso
        have t3 := (term m hm z).1
        rw [t1] at t3
        have h3 := seg_bit (n + 1) (max m n)
        rw [t3, seg_bit] at h3
        simp at h3; omega
      · omega
theorem last_up {h : List (List Edt)} (o : Only h) : ∀ i, i ≤ h.length → lastF (frD h) h.length i = (upI i, seg i)
  | 0, _ => rfl
  | i + 1, hi => by
    have ih := last_up o i (by omega)
    have s := lastF_ok h i (by omega)
    obtain ⟨n, e⟩ := s.has (by omega)
    rw [lastF, e, ih]
    rw [ih] at e
    obtain ⟨e1, e2, _⟩ := pick_some e
    have := o i (by omega) n e1 e2
    subst this
    show (upI n ++ [(n : Int)], seg n ||| 2 ^ n) = (upI (n + 1), seg (n + 1))
    rw [seg_on]; rfl
theorem only_iff {h : List (List Edt)} (hN : h.length ≤ 8) : lastL h = upI h.length ↔ cntL h = 1 := by
  constructor
  · intro e
    have pre : ∀ d i, i + d = h.length → (lastF (frD h) h.length i).1 = upI i := by
      intro d
      induction d with
      | zero => intro i hi; rw [show i = h.length by omega]; exact e
      | succ d ih =>
        intro i hi
        have s := lastF_ok h i (by omega)
        obtain ⟨n, en⟩ := s.has (by omega)
        have := ih (i + 1) (by omega)
        rw [lastF, en] at this
        exact (List.append_inj' this rfl).1
    have only : Only h := by
      intro j hj m hm hf
      have s := lastF_ok h j (by omega)
      obtain ⟨n, en⟩ := s.has hj
      have p1 := pre (h.length - j) j (by omega)
      have p2 := pre (h.length - (j + 1)) (j + 1) (by omega)
      have ht : (lastF (frD h) h.length j).2 = seg j := by
        apply Nat.eq_of_testBit_eq
        intro m
        rw [seg_bit, Bool.eq_iff_iff, s.bits m, p1, upI_mem, decide_eq_true_eq]
        omega
      rw [lastF, en, p1] at p2
      have hn : n = j := by
        have := (List.append_inj' p2 rfl).2
        simp at this; omega
      subst hn
      rw [ht] at en
      have := (pick_some en).2.2 m hm hf
      have nb := (frD_iff.1 hf).1
      rw [seg_bit] at nb
      simp at nb; omega
    obtain ⟨j, _, _, h3⟩ := only_one hN only (seg h.length) (seg_lt (Nat.le_refl _)) (cntL_pos hN)
    exact h3
  · intro e
    have only : Only h := by
      intro j hj m hm hf
      have nb := (frD_iff.1 hf).1
      rw [seg_bit] at nb
      simp at nb
      by_cases q : m = j
      · exact q
      · exfalso
        have := cntL_two hN (show j < m by omega) hm hf (cnt_seg hN j (by omega))
        omega
    unfold lastL
    rw [last_up only _ (Nat.le_refl _)]
end Go.Tk
