import Derived.Test.YtmedjckknalpbaaC8f
import Derived.Test.YtmedjckknalpbaaC8g
set_option linter.unusedSimpArgs false
set_option linter.unusedVariables false
set_option linter.unnecessarySimpa false
namespace Go.Tk
open Go Go.RowKit
abbrev cSameI8 : Con := { A := (.cons (.sl .int) (.cons (.sl .int) .nil)), R := (.cons .bool .nil), pre := fun x => True, F := fun x => (decide (x.1 = x.2.1), ()) }
def cSameI8_0 (Λ1 : Int → Prop) (a : (List Int)) (b : (List Int)) (y0 : Bool) : Prop :=
  if ((List.length a : Int) != (List.length b : Int)) = true then (false = y0 ∧ True) else Λ1 (0 : Int)
def cSameI8_1 (Λ1 : Int → Prop) (a : (List Int)) (b : (List Int)) (y0 : Bool)  (i_1 : Int) : Prop :=
  if (decide (i_1 < (List.length a : Int))) = true then (idx i_1 (List.length a : Int) ∧ (idx i_1 (List.length b : Int) ∧ (if ((List.getD a (Int.toNat i_1) 0) != (List.getD b (Int.toNat i_1) 0)) = true then (false = y0 ∧ True) else (inI (i_1 + (1 : Int)) ∧ Λ1 (i_1 + (1 : Int)))))) else (true = y0 ∧ True)
theorem cSameI8_law (h : ∀ (a : (List Int)) (b : (List Int)), cSameI8.A.wf (a, b, ()) → ∀ (Λ1 : Int → Prop), (∀ (i_1 : Int), cSameI8_1 Λ1 a b (decide (a = b)) i_1 → Λ1 i_1) → cSameI8_0 Λ1 a b (decide (a = b))) : ConOK Go.Proofs.Try.prog 21 cSameI8 := by
  refine lawL (Γ := []) (Θ := Th) (n := 26) [([1, 1, 0, 1, 0], ⟨[(0, false), (1, false), (5, true)], []⟩)] trivial (by kernel_rfl) th_ok mix_ok Go.Proofs.Try.func21 (by kernel_rfl) ?_
  intro x hw hp Λ hC
  have h0 := h x.1 x.2.1 hw (fun i_1 => Λ [1, 1, 0, 1, 0] ([(0, .d false (.sl .int) x.1), (1, .d false (.sl .int) x.2.1), (5, .d true .int i_1)], [])) (fun i_1 hb => hC [1, 1, 0, 1, 0] ([(0, .d false (.sl .int) x.1), (1, .d false (.sl .int) x.2.1), (5, .d true .int i_1)], []) (Eq.mpr (by kernel_rfl) hb))
  exact Eq.mpr (by kernel_rfl) h0
theorem cSameI8_ok : ConOK Go.Proofs.Try.prog 21 cSameI8 := by
  refine cSameI8_law ?_
  intro a b hw Λ1 h1
  unfold cSameI8_0
  have hla : a.length ≤ 140737488355328 := hw.1.1
  by_cases hl : a.length = b.length
  · rw [if_neg (by simp [hl])]
    refine upto (n := a.length) (Q := fun i => a.take i = b.take i → Λ1 i) ?_ ?_ 0 (Nat.zero_le _) rfl
    · intro ha
      rw [List.take_length, List.take_of_length_le (by omega)] at ha
      apply h1; unfold cSameI8_1; rw [if_neg (by simp)]
      exact ⟨by simp [ha], trivial⟩
    · intro i hi ih ha
      apply h1; unfold cSameI8_1; rw [if_pos (by simpa using hi), Int.toNat_natCast]
      refine ⟨idx_nat hi, idx_nat (by omega), ?_⟩
      by_cases hv : List.getD a i 0 = List.getD b i 0
      · rw [hv, if_neg (by simp)]
        exact ⟨inI_succ hi hla, ih (take_eq_next 0 hi hl ha hv)⟩
      · rw [if_pos (by rw [bne_iff_ne]; exact hv)]
        exact ⟨by simp [ne_at 0 hv], trivial⟩
  · rw [if_pos (by simp; omega)]
    exact ⟨by simp; exact fun e => hl (by rw [e]), trivial⟩
def longT (t : Ste) : Bool := (t.any fun r => decide (r.length > 50)) || decide (t.length > 50)
theorem longT_no {t : Ste} (h : longT t = false) : t.length ≤ 50 ∧ ∀ r ∈ t, r.length ≤ 50 := by
  unfold longT at h
  rw [Bool.or_eq_false_iff, decide_eq_false_iff_not, List.any_eq_false] at h
  refine ⟨by omega, fun r hr => ?_⟩
  have := h.1 r hr
  simpa using this
abbrev cLong8 : Con := { A := (.cons (.sl (.sl .int)) .nil), R := (.cons .bool .nil), pre := fun x => True, F := fun x => (longT x.1, ()) }
def cLong8_0 (Λ1 : Int → Prop) (t : (List (List Int))) (y0 : Bool) : Prop :=
  Λ1 (0 : Int)
def cLong8_1 (Λ1 : Int → Prop) (t : (List (List Int))) (y0 : Bool)  (i_1 : Int) : Prop :=
  if (decide (i_1 < (List.length t : Int))) = true then (idx i_1 (List.length t : Int) ∧ (if (decide ((List.length (List.getD t (Int.toNat i_1) ([] : List Int)) : Int) > (50 : Int))) = true then (true = y0 ∧ True) else (inI (i_1 + (1 : Int)) ∧ Λ1 (i_1 + (1 : Int))))) else ((decide ((List.length t : Int) > (50 : Int))) = y0 ∧ True)
theorem cLong8_law (h : ∀ (t : (List (List Int))), cLong8.A.wf (t, ()) → ∀ (Λ1 : Int → Prop), (∀ (i_1 : Int), cLong8_1 Λ1 t (longT t) i_1 → Λ1 i_1) → cLong8_0 Λ1 t (longT t)) : ConOK Go.Proofs.Try.prog 17 cLong8 := by
  refine lawL (Γ := []) (Θ := Th) (n := 19) [([1, 0, 1, 0], ⟨[(0, false), (3, true)], []⟩)] trivial (by kernel_rfl) th_ok mix_ok Go.Proofs.Try.func17 (by kernel_rfl) ?_
  intro x hw hp Λ hC
  have h0 := h x.1 hw (fun i_1 => Λ [1, 0, 1, 0] ([(0, .d false (.sl (.sl .int)) x.1), (3, .d true .int i_1)], [])) (fun i_1 hb => hC [1, 0, 1, 0] ([(0, .d false (.sl (.sl .int)) x.1), (3, .d true .int i_1)], []) (Eq.mpr (by kernel_rfl) hb))
  exact Eq.mpr (by kernel_rfl) h0
theorem cLong8_ok : ConOK Go.Proofs.Try.prog 17 cLong8 := by
  refine cLong8_law ?_
  intro t hw Λ1 h1
  unfold cLong8_0
  have hl : t.length ≤ 140737488355328 := hw.1.1
  unfold longT at h1
  refine upto (n := t.length) (Q := fun i => (t.take i).any (fun r => decide (r.length > 50)) = false → Λ1 i) ?_ ?_ 0 (Nat.zero_le _) rfl
  · intro ha
    rw [List.take_length] at ha
    apply h1; unfold cLong8_1; rw [if_neg (by simp), ha]
    refine ⟨?_, trivial⟩
    rw [Bool.false_or, decide_eq_decide]; omega
  · intro i hi ih ha
    apply h1; unfold cLong8_1; rw [if_pos (by simpa using hi), Int.toNat_natCast]
    refine ⟨idx_nat hi, ?_⟩
    have hnx : decide ((t.getD i []).length > 50) = false → Λ1 ((i : Int) + 1) := fun hv => ih (any_take_next (p := fun r => decide (r.length > 50)) [] hi ha hv)
    have hyes : decide ((t.getD i []).length > 50) = true → (t.any fun r => decide (r.length > 50)) = true := fun hv => List.any_eq_true.2 ⟨_, mem_getD hi, hv⟩
    generalize t.getD i [] = r at hnx hyes ⊢
    by_cases hr : r.length > 50
    · rw [if_pos (by simp; omega), hyes (by simpa using hr)]
      exact ⟨rfl, trivial⟩
    · rw [if_neg (by simp; omega)]
      exact ⟨inI_succ hi hl, hnx (by simpa using hr)⟩
abbrev cHasL8 : Con := { A := (.cons (.sl .int) (.cons .int .nil)), R := (.cons .bool .nil), pre := fun x => True, F := fun x => (decide (x.2.1 ∈ x.1), ()) }
def cHasL8_0 (Λ1 : Int → Prop) (l : (List Int)) (n : Int) (y0 : Bool) : Prop :=
  Λ1 (0 : Int)
def cHasL8_1 (Λ1 : Int → Prop) (l : (List Int)) (n : Int) (y0 : Bool)  (i_1 : Int) : Prop :=
  if (decide (i_1 < (List.length l : Int))) = true then (idx i_1 (List.length l : Int) ∧ (if ((List.getD l (Int.toNat i_1) 0) == n) = true then (true = y0 ∧ True) else (inI (i_1 + (1 : Int)) ∧ Λ1 (i_1 + (1 : Int))))) else (false = y0 ∧ True)
theorem cHasL8_law (h : ∀ (l : (List Int)) (n : Int), cHasL8.A.wf (l, n, ()) → ∀ (Λ1 : Int → Prop), (∀ (i_1 : Int), cHasL8_1 Λ1 l n (decide (n ∈ l)) i_1 → Λ1 i_1) → cHasL8_0 Λ1 l n (decide (n ∈ l))) : ConOK Go.Proofs.Try.prog 26 cHasL8 := by
  refine lawL (Γ := []) (Θ := Th) (n := 18) [([1, 0, 1, 0], ⟨[(0, false), (1, false), (5, true)], []⟩)] trivial (by kernel_rfl) th_ok mix_ok Go.Proofs.Try.func26 (by kernel_rfl) ?_
  intro x hw hp Λ hC
  have h0 := h x.1 x.2.1 hw (fun i_1 => Λ [1, 0, 1, 0] ([(0, .d false (.sl .int) x.1), (1, .d false .int x.2.1), (5, .d true .int i_1)], [])) (fun i_1 hb => hC [1, 0, 1, 0] ([(0, .d false (.sl .int) x.1), (1, .d false .int x.2.1), (5, .d true .int i_1)], []) (Eq.mpr (by kernel_rfl) hb))
  exact Eq.mpr (by kernel_rfl) h0
theorem cHasL8_ok : ConOK Go.Proofs.Try.prog 26 cHasL8 := by
  refine cHasL8_law ?_
  intro l n hw Λ1 h1
  unfold cHasL8_0
  have hla : l.length ≤ 140737488355328 := hw.1.1
  refine upto (n := l.length) (Q := fun i => (l.take i).any (fun r => r == n) = false → Λ1 i) ?_ ?_ 0 (Nat.zero_le _) rfl
  · intro ha
    rw [List.take_length] at ha
    apply h1; unfold cHasL8_1; rw [if_neg (by simp)]
    refine ⟨?_, trivial⟩
    have : ¬ n ∈ l := fun h => by
      have := List.any_eq_false.1 ha n h
      simp at this
    simp [this]
  · intro i hi ih ha
    apply h1; unfold cHasL8_1; rw [if_pos (by simpa using hi), Int.toNat_natCast]
    refine ⟨idx_nat hi, ?_⟩
    cases hv : (List.getD l i 0 == n)
    · rw [if_neg (by simp)]
      exact ⟨inI_succ hi hla, ih (any_take_next (p := fun r => r == n) 0 hi ha hv)⟩
    · rw [if_pos (by rfl)]
      have : n ∈ l := by
        have e := eq_of_beq hv
        rw [← e]; exact mem_getD hi
      exact ⟨by simp [this], trivial⟩
abbrev saneT : Ste := [[1, 1, 0], [0, 1, 1], [0, 0, 1]]
theorem sane_sort : sortL [0, 1, 2] = [0, 1, 2] := by
  unfold sortL
  exact List.mergeSort_of_pairwise (by decide)
theorem sane1 : validT saneT = 0 := by decide +kernel
theorem sane2 : coverS saneT = [0, 1] := by decide +kernel
theorem sane3 : exclT saneT = [0, 2] := by decide +kernel
theorem sane4 : essT saneT = [0] := by decide +kernel
theorem sane5 : needT saneT = [2] := by decide +kernel
theorem sane6 : ordT saneT [0, 1, 2] = 0 := by
  unfold ordT
  rw [if_pos sane1, sane_sort]
  decide +kernel
theorem sane7 : waitL saneT [0, 1, 2] = 4 := by decide +kernel
abbrev cSane8 : Con := { A := .nil, R := (.cons .bool .nil), pre := fun x => True, F := fun x => (true, ()) }
def cSane8_0   (y0 : Bool) : Prop :=
  True ∧ (True ∧ (True ∧ (True ∧ ([(0 : Int), (1 : Int), (2 : Int)].length ≤ 1000000 ∧ (if ((validT ([[(1 : Int), (1 : Int), (0 : Int)], [(0 : Int), (1 : Int), (1 : Int)], [(0 : Int), (0 : Int), (1 : Int)]])) == (0 : Int)) = true then (True ∧ (True ∧ (if (bif true then (decide (((if validT ([[(1 : Int), (1 : Int), (0 : Int)], [(0 : Int), (1 : Int), (1 : Int)], [(0 : Int), (0 : Int), (1 : Int)]]) = 0 then coverS ([[(1 : Int), (1 : Int), (0 : Int)], [(0 : Int), (1 : Int), (1 : Int)], [(0 : Int), (0 : Int), (1 : Int)]]) else [])) = [(0 : Int), (1 : Int)])) else false) = true then (True ∧ (if (bif true then ((validT ([[(1 : Int), (1 : Int), (0 : Int)], [(0 : Int), (1 : Int), (1 : Int)], [(0 : Int), (0 : Int), (1 : Int)]])) == (0 : Int)) else false) = true then (True ∧ (True ∧ (if (bif true then (decide (((if validT ([[(1 : Int), (1 : Int), (0 : Int)], [(0 : Int), (1 : Int), (1 : Int)], [(0 : Int), (0 : Int), (1 : Int)]]) = 0 then exclT ([[(1 : Int), (1 : Int), (0 : Int)], [(0 : Int), (1 : Int), (1 : Int)], [(0 : Int), (0 : Int), (1 : Int)]]) else [])) = [(0 : Int), (2 : Int)])) else false) = true then (True ∧ (if (bif true then ((validT ([[(1 : Int), (1 : Int), (0 : Int)], [(0 : Int), (1 : Int), (1 : Int)], [(0 : Int), (0 : Int), (1 : Int)]])) == (0 : Int)) else false) = true then (True ∧ (True ∧ (if (bif true then (decide (((if validT ([[(1 : Int), (1 : Int), (0 : Int)], [(0 : Int), (1 : Int), (1 : Int)], [(0 : Int), (0 : Int), (1 : Int)]]) = 0 then essT ([[(1 : Int), (1 : Int), (0 : Int)], [(0 : Int), (1 : Int), (1 : Int)], [(0 : Int), (0 : Int), (1 : Int)]]) else [])) = [(0 : Int)])) else false) = true then (True ∧ (if (bif true then ((validT ([[(1 : Int), (1 : Int), (0 : Int)], [(0 : Int), (1 : Int), (1 : Int)], [(0 : Int), (0 : Int), (1 : Int)]])) == (0 : Int)) else false) = true then (True ∧ (True ∧ (if (bif true then (decide (((if validT ([[(1 : Int), (1 : Int), (0 : Int)], [(0 : Int), (1 : Int), (1 : Int)], [(0 : Int), (0 : Int), (1 : Int)]]) = 0 then needT ([[(1 : Int), (1 : Int), (0 : Int)], [(0 : Int), (1 : Int), (1 : Int)], [(0 : Int), (0 : Int), (1 : Int)]]) else [])) = [(2 : Int)])) else false) = true then (True ∧ (if (bif true then ((ordT ([[(1 : Int), (1 : Int), (0 : Int)], [(0 : Int), (1 : Int), (1 : Int)], [(0 : Int), (0 : Int), (1 : Int)]]) [(0 : Int), (1 : Int), (2 : Int)]) == (0 : Int)) else false) = true then (True ∧ ((bif true then (((if ordT ([[(1 : Int), (1 : Int), (0 : Int)], [(0 : Int), (1 : Int), (1 : Int)], [(0 : Int), (0 : Int), (1 : Int)]]) [(0 : Int), (1 : Int), (2 : Int)] = 0 then waitL ([[(1 : Int), (1 : Int), (0 : Int)], [(0 : Int), (1 : Int), (1 : Int)], [(0 : Int), (0 : Int), (1 : Int)]]) [(0 : Int), (1 : Int), (2 : Int)] else 0)) == (4 : Int)) else false) = y0 ∧ True)) else (false = false ∧ (false = y0 ∧ True)))) else (false = false ∧ (false = false ∧ (false = y0 ∧ True)))))) else (false = false ∧ (false = false ∧ (false = false ∧ (false = y0 ∧ True)))))) else (false = false ∧ (false = false ∧ (false = false ∧ (false = false ∧ (false = y0 ∧ True)))))))) else (false = false ∧ (false = false ∧ (false = false ∧ (false = false ∧ (false = false ∧ (false = y0 ∧ True)))))))) else (false = false ∧ (false = false ∧ (false = false ∧ (false = false ∧ (false = false ∧ (false = false ∧ (false = y0 ∧ True)))))))))) else (false = false ∧ (false = false ∧ (false = false ∧ (false = false ∧ (false = false ∧ (false = false ∧ (false = false ∧ (false = y0 ∧ True)))))))))) else (false = false ∧ (false = false ∧ (false = false ∧ (false = false ∧ (false = false ∧ (false = false ∧ (false = false ∧ (false = false ∧ (false = y0 ∧ True)))))))))))) else (false = false ∧ (false = false ∧ (false = false ∧ (false = false ∧ (false = false ∧ (false = false ∧ (false = false ∧ (false = false ∧ (false = false ∧ (false = y0 ∧ True)))))))))))))))
theorem cSane8_law (h : cSane8.A.wf (()) → cSane8_0   true) : ConOK Go.Proofs.Try.prog 18 cSane8 := by
  refine lawL (Γ := [(27, cCover), (22, cEssential), (19, cExcluding), (24, cNeedless), (21, cSameI8), (45, cWaitS)]) (Θ := Th) (n := 84) [] ⟨cCover_ok, cEssential_ok, cExcluding_ok, cNeedless_ok, cSameI8_ok, cWaitS_ok, trivial⟩ (by kernel_rfl) th_ok mix_ok Go.Proofs.Try.func18 (by kernel_rfl) ?_
  intro x hw hp Λ hC
  have h0 := h  hw  
  exact Eq.mpr (by kernel_rfl) h0
theorem cSane8_ok : ConOK Go.Proofs.Try.prog 18 cSane8 := by
  refine cSane8_law ?_
  intro hw
  unfold cSane8_0
  simp only [sane1, sane2, sane3, sane4, sane5, sane6, sane7]
  simp
abbrev cGoals8r : Con := { A := (.cons (.sl (.sl .int)) .nil), R := (.cons .int .nil), pre := fun x => True, F := fun x => ((goals8 x.1 : Int), ()) }
def cGoals8r_0  (t : (List (List Int))) (y0 : Int) : Prop :=
  if ((List.length t : Int) == (0 : Int)) = true then ((0 : Int) = y0 ∧ True) else (idx (0 : Int) (List.length t : Int) ∧ ((List.length (List.getD t (Int.toNat (0 : Int)) ([] : List Int)) : Int) = y0 ∧ True))
theorem cGoals8r_law (h : ∀ (t : (List (List Int))), cGoals8r.A.wf (t, ()) → cGoals8r_0  t (goals8 t : Int)) : ConOK Go.Proofs.Try.prog 62 cGoals8r := by
  refine lawL (Γ := []) (Θ := Th) (n := 10) [] trivial (by kernel_rfl) th_ok mix_ok Go.Proofs.Try.func62 (by kernel_rfl) ?_
  intro x hw hp Λ hC
  have h0 := h x.1 hw  
  exact Eq.mpr (by kernel_rfl) h0
theorem cGoals8r_ok : ConOK Go.Proofs.Try.prog 62 cGoals8r := by
  refine cGoals8r_law ?_
  intro t hw
  unfold cGoals8r_0
  unfold goals8
  cases t with
  | nil => exact ⟨rfl, trivial⟩
  | cons r t =>
    rw [if_neg (by simp; omega)]
    exact ⟨⟨by omega, by simp⟩, rfl, trivial⟩
def row01 (r : List Int) (k : Nat) : Prop := ∀ g, g < k → is01 (r.getD g 0) = true
theorem row01_all {r : List Int} (h : row01 r r.length) : r.all is01 = true := by
  rw [List.all_eq_true]
  intro x hx
  obtain ⟨i, hi, e⟩ := List.mem_iff_getElem.1 hx
  have := h i hi
  rw [List.getD_eq_getElem?_getD, List.getElem?_eq_getElem hi, Option.getD_some, e] at this
  exact this
theorem row01_bad {r : List Int} {g : Nat} (hg : g < r.length) (h : is01 (r.getD g 0) = false) : r.all is01 = false := by
  rw [Bool.eq_false_iff]
  intro ha
  rw [List.all_eq_true] at ha
  rw [ha _ (mem_getD hg)] at h
  cases h
abbrev cVal8r : Con := { A := (.cons (.sl (.sl .int)) .nil), R := (.cons .int .nil), pre := fun x => True, F := fun x => (validT x.1, ()) }
def cVal8r_0 (Λ1 : Int → Prop) (Λ2 : Int → Int → Prop) (t : (List (List Int))) (y0 : Int) : Prop :=
  if (decide ((List.length t : Int) > (8 : Int))) = true then (true = true ∧ ((3 : Int) = y0 ∧ True)) else (if (decide ((List.length t : Int) > (0 : Int))) = true then (idx (0 : Int) (List.length t : Int) ∧ (True ∧ (True ∧ (if (bif false then true else (bif true then (decide ((List.length (List.getD t (Int.toNat (0 : Int)) ([] : List Int)) : Int) > (10 : Int))) else false)) = true then ((3 : Int) = y0 ∧ True) else Λ1 (0 : Int))))) else (false = false ∧ (True ∧ (if (bif false then true else false) = true then ((3 : Int) = y0 ∧ True) else Λ1 (0 : Int)))))
def cVal8r_1 (Λ1 : Int → Prop) (Λ2 : Int → Int → Prop) (t : (List (List Int))) (y0 : Int)  (i_1 : Int) : Prop :=
  if (decide (i_1 < (List.length t : Int))) = true then (idx i_1 (List.length t : Int) ∧ (idx (0 : Int) (List.length t : Int) ∧ (if ((List.length (List.getD t (Int.toNat i_1) ([] : List Int)) : Int) != (List.length (List.getD t (Int.toNat (0 : Int)) ([] : List Int)) : Int)) = true then ((1 : Int) = y0 ∧ True) else Λ2 i_1 (0 : Int)))) else ((0 : Int) = y0 ∧ True)
def cVal8r_2 (Λ1 : Int → Prop) (Λ2 : Int → Int → Prop) (t : (List (List Int))) (y0 : Int) (i_1 : Int) (g_2 : Int) : Prop :=
  idx i_1 (List.length t : Int) ∧ (if (decide (g_2 < (List.length (List.getD t (Int.toNat i_1) ([] : List Int)) : Int))) = true then (idx i_1 (List.length t : Int) ∧ (idx g_2 (List.length (List.getD t (Int.toNat i_1) ([] : List Int)) : Int) ∧ (if ((List.getD (List.getD t (Int.toNat i_1) ([] : List Int)) (Int.toNat g_2) 0) != (0 : Int)) = true then (idx i_1 (List.length t : Int) ∧ (idx g_2 (List.length (List.getD t (Int.toNat i_1) ([] : List Int)) : Int) ∧ (True ∧ (if (bif true then ((List.getD (List.getD t (Int.toNat i_1) ([] : List Int)) (Int.toNat g_2) 0) != (1 : Int)) else false) = true then ((1 : Int) = y0 ∧ True) else (inI (g_2 + (1 : Int)) ∧ Λ2 i_1 (g_2 + (1 : Int))))))) else (false = false ∧ (inI (g_2 + (1 : Int)) ∧ Λ2 i_1 (g_2 + (1 : Int))))))) else (inI (i_1 + (1 : Int)) ∧ Λ1 (i_1 + (1 : Int))))
theorem cVal8r_law (h : ∀ (t : (List (List Int))), cVal8r.A.wf (t, ()) → ∀ (Λ1 : Int → Prop) (Λ2 : Int → Int → Prop), (∀ (i_1 : Int), cVal8r_1 Λ1 Λ2 t (validT t) i_1 → Λ1 i_1) → (∀ (i_1 : Int) (g_2 : Int), cVal8r_2 Λ1 Λ2 t (validT t) i_1 g_2 → Λ2 i_1 g_2) → cVal8r_0 Λ1 Λ2 t (validT t)) : ConOK Go.Proofs.Try.prog 36 cVal8r := by
  refine lawL (Γ := []) (Θ := Th) (n := 63) [([1, 1, 0, 1, 0], ⟨[(0, false), (3, true)], []⟩), ([1, 1, 0, 1, 0, 0, 1, 0, 0, 1, 1, 0], ⟨[(0, false), (3, true), (4, true)], []⟩)] trivial (by kernel_rfl) th_ok mix_ok Go.Proofs.Try.func36 (by kernel_rfl) ?_
  intro x hw hp Λ hC
  have h0 := h x.1 hw (fun i_1 => Λ [1, 1, 0, 1, 0] ([(0, .d false (.sl (.sl .int)) x.1), (3, .d true .int i_1)], [])) (fun i_1 g_2 => Λ [1, 1, 0, 1, 0, 0, 1, 0, 0, 1, 1, 0] ([(0, .d false (.sl (.sl .int)) x.1), (3, .d true .int i_1), (4, .d true .int g_2)], [])) (fun i_1 hb => hC [1, 1, 0, 1, 0] ([(0, .d false (.sl (.sl .int)) x.1), (3, .d true .int i_1)], []) (Eq.mpr (by kernel_rfl) hb)) (fun i_1 g_2 hb => hC [1, 1, 0, 1, 0, 0, 1, 0, 0, 1, 1, 0] ([(0, .d false (.sl (.sl .int)) x.1), (3, .d true .int i_1), (4, .d true .int g_2)], []) (Eq.mpr (by kernel_rfl) hb))
  exact Eq.mpr (by kernel_rfl) h0
theorem cVal8r_ok : ConOK Go.Proofs.Try.prog 36 cVal8r := by
  refine cVal8r_law ?_
  intro t hw Λ1 Λ2 h1 h2
  unfold cVal8r_0
  have hl : t.length ≤ 140737488355328 := hw.1.1
  have hlr : ∀ i, i < t.length → (t.getD i []).length ≤ 140737488355328 := fun i hi => (hw.1.2 _ (mem_getD hi)).1
  have hgo : ∀ (hno : ¬ (t.length > 8 ∨ goals8 t > 10)), Λ1 (0 : Int) := by
    intro hno
    have hv0 : validT t = argErr (t.all (rowOk t)) := by unfold validT; rw [if_neg hno]
    rw [hv0] at h1 h2
    refine upto (n := t.length) (Q := fun i => (t.take i).all (rowOk t) = true → Λ1 i) ?_ ?_ 0 (Nat.zero_le _) rfl
    · intro ha
      rw [List.take_length] at ha
      apply h1; unfold cVal8r_1; rw [if_neg (by simp), ha]
      exact ⟨rfl, trivial⟩
    · intro i hi ih ha
      apply h1; unfold cVal8r_1; rw [if_pos (by simpa using hi)]
      refine ⟨idx_nat hi, ⟨by omega, by omega⟩, ?_⟩
      rw [Int.toNat_natCast, show (Int.toNat 0) = 0 from rfl]
      have hbad : rowOk t (t.getD i []) = false → (1 : Int) = argErr (t.all (rowOk t)) := fun hv => by rw [all_false_at (p := rowOk t) [] hi hv]; rfl
      have hnext : rowOk t (t.getD i []) = true → Λ1 ((i : Int) + 1) := fun hv => ih (all_take_next [] hi ha hv)
      have hin := inI_succ hi hl
      have hr8 := hlr i hi
      obtain ⟨r, hr⟩ : ∃ r, r = t.getD i [] := ⟨_, rfl⟩
      rw [← hr] at hbad hnext hr8 ⊢
      by_cases hg : r.length = goals8 t
      · rw [if_neg (by unfold goals8 at hg; simp only [bne_iff_ne, ne_eq, Decidable.not_not]; omega)]
        refine upto (n := r.length) (Q := fun g => row01 r g → Λ2 (i : Int) (g : Int)) ?_ ?_ 0 (Nat.zero_le _) (fun g hg => by omega)
        · intro ha2
          apply h2; unfold cVal8r_2
          rw [Int.toNat_natCast, ← hr]
          refine ⟨idx_nat hi, ?_⟩
          rw [if_neg (by simp)]
          exact ⟨hin, hnext (by unfold rowOk; rw [row01_all ha2]; simp [hg])⟩
        · intro g hg2 ih2 ha2
          apply h2; unfold cVal8r_2
          rw [Int.toNat_natCast, Int.toNat_natCast, ← hr]
          refine ⟨idx_nat hi, ?_⟩
          rw [if_pos (by simpa using hg2)]
          refine ⟨idx_nat hi, idx_nat hg2, ?_⟩
          have hb2 : is01 (r.getD g 0) = false → (1 : Int) = argErr (t.all (rowOk t)) := fun h => hbad (by unfold rowOk; rw [row01_bad hg2 h]; simp)
          have hn2 : is01 (r.getD g 0) = true → Λ2 (i : Int) ((g : Int) + 1) := fun h => ih2 fun k hk => by
            rcases Nat.lt_or_ge k g with q | q
            · exact ha2 k q
            · obtain rfl : k = g := by omega
              exact h
          have hin2 : inI ((g : Int) + 1) := by unfold inI; omega
          generalize r.getD g 0 = x at hb2 hn2 ⊢
          by_cases x0 : x = 0
          · rw [if_neg (by simp [x0])]
            exact ⟨rfl, hin2, hn2 (is01_iff.2 (.inl x0))⟩
          · rw [if_pos (by simpa using x0)]
            refine ⟨idx_nat hi, idx_nat hg2, trivial, ?_⟩
            by_cases x1 : x = 1
            · rw [if_neg (by simp [x1])]
              exact ⟨hin2, hn2 (is01_iff.2 (.inr x1))⟩
            · rw [if_pos (by simpa using x1)]
              refine ⟨hb2 ?_, trivial⟩
              rw [Bool.eq_false_iff]
              intro h
              rcases is01_iff.1 h with h | h
              · exact x0 h
              · exact x1 h
      · rw [if_pos (by unfold goals8 at hg; simp only [bne_iff_ne, ne_eq]; omega)]
        exact ⟨hbad (by unfold rowOk; simp [hg]), trivial⟩
  have hbig : (t.length > 8 ∨ goals8 t > 10) → (3 : Int) = validT t := fun h => by unfold validT; rw [if_pos h]
  unfold goals8 at hgo hbig
  by_cases h8 : t.length > 8
  · rw [if_pos (by simp; omega)]
    exact ⟨rfl, hbig (.inl h8), trivial⟩
  · rw [if_neg (by simp; omega)]
    by_cases h0 : t.length > 0
    · rw [if_pos (by simp; omega)]
      refine ⟨⟨by omega, by omega⟩, trivial, trivial, ?_⟩
      rw [show (Int.toNat 0) = 0 from rfl]
      generalize (t.getD 0 []).length = k at hbig hgo ⊢
      by_cases h10 : k > 10
      · rw [if_pos (by simp; omega)]
        exact ⟨hbig (.inr h10), trivial⟩
      · rw [if_neg (by simp; omega)]
        exact hgo (fun h => h.elim h8 h10)
    · rw [if_neg (by simp only [decide_eq_true_eq]; omega)]
      refine ⟨rfl, trivial, ?_⟩
      rw [if_neg (by simp)]
      refine hgo ?_
      have : t = [] := List.eq_nil_of_length_eq_zero (by omega)
      subst this
      simp
abbrev cIsSet8r : Con := { A := (.cons (.sl .int) (.cons .int .nil)), R := (.cons .bool .nil), pre := fun x => 0 ≤ x.2.1 ∧ x.2.1 ≤ 1000000 ∧ x.1.length ≤ 1000000, F := fun x => (isSet8 x.1 x.2.1.toNat, ()) }
def cIsSet8r_0 (Λ1 : Int → Prop) (l : (List Int)) (n : Int) (y0 : Bool) : Prop :=
  Λ1 (0 : Int)
def cIsSet8r_1 (Λ1 : Int → Prop) (l : (List Int)) (n : Int) (y0 : Bool)  (i_1 : Int) : Prop :=
  if (decide (i_1 < (List.length l : Int))) = true then (idx i_1 (List.length l : Int) ∧ (if (decide ((List.getD l (Int.toNat i_1) 0) < (0 : Int))) = true then (true = true ∧ (true = true ∧ (false = y0 ∧ True))) else (idx i_1 (List.length l : Int) ∧ (True ∧ (if (bif false then true else (decide ((List.getD l (Int.toNat i_1) 0) ≥ n))) = true then (true = true ∧ (false = y0 ∧ True)) else (if (decide (i_1 > (0 : Int))) = true then (inI (i_1 - (1 : Int)) ∧ (idx (i_1 - (1 : Int)) (List.length l : Int) ∧ (idx i_1 (List.length l : Int) ∧ (True ∧ (True ∧ (if (bif false then true else (bif true then (decide ((List.getD l (Int.toNat (i_1 - (1 : Int))) 0) ≥ (List.getD l (Int.toNat i_1) 0))) else false)) = true then (false = y0 ∧ True) else (inI (i_1 + (1 : Int)) ∧ Λ1 (i_1 + (1 : Int))))))))) else (false = false ∧ (True ∧ (if (bif false then true else false) = true then (false = y0 ∧ True) else (inI (i_1 + (1 : Int)) ∧ Λ1 (i_1 + (1 : Int)))))))))))) else (true = y0 ∧ True)
theorem cIsSet8r_law (h : ∀ (l : (List Int)) (n : Int), cIsSet8r.A.wf (l, n, ()) → (0 ≤ n ∧ n ≤ 1000000 ∧ l.length ≤ 1000000) → ∀ (Λ1 : Int → Prop), (∀ (i_1 : Int), cIsSet8r_1 Λ1 l n (isSet8 l n.toNat) i_1 → Λ1 i_1) → cIsSet8r_0 Λ1 l n (isSet8 l n.toNat)) : ConOK Go.Proofs.Try.prog 107 cIsSet8r := by
  refine lawL (Γ := []) (Θ := Th) (n := 41) [([1, 0, 1, 0], ⟨[(0, false), (1, false), (5, true)], []⟩)] trivial (by kernel_rfl) th_ok mix_ok Go.Proofs.Try.func107 (by kernel_rfl) ?_
  intro x hw hp Λ hC
  have h0 := h x.1 x.2.1 hw hp (fun i_1 => Λ [1, 0, 1, 0] ([(0, .d false (.sl .int) x.1), (1, .d false .int x.2.1), (5, .d true .int i_1)], [])) (fun i_1 hb => hC [1, 0, 1, 0] ([(0, .d false (.sl .int) x.1), (1, .d false .int x.2.1), (5, .d true .int i_1)], []) (Eq.mpr (by kernel_rfl) hb))
  exact Eq.mpr (by kernel_rfl) h0
theorem cIsSet8r_ok : ConOK Go.Proofs.Try.prog 107 cIsSet8r := by
  refine cIsSet8r_law ?_
  intro l n hw hp Λ1 h1
  unfold cIsSet8r_0
  obtain ⟨p1, p2, p3⟩ := hp
  obtain ⟨m, rfl⟩ : ∃ m : Nat, n = m := ⟨n.toNat, by omega⟩
  rw [Int.toNat_natCast] at h1
  refine upto (n := l.length) (Q := fun i => (∀ k, k < i → setAt l m k = true) → Λ1 i) ?_ ?_ 0 (Nat.zero_le _) (fun k h => by omega)
  · intro ha
    apply h1; unfold cIsSet8r_1; rw [if_neg (by simp)]
    rw [isSet8_all ha]
    exact ⟨rfl, trivial⟩
  · intro i hi ih ha
    apply h1; unfold cIsSet8r_1; rw [if_pos (by simpa using hi)]
    have hbad : setAt l m i = false → false = isSet8 l m := fun h => by rw [isSet8_bad hi h]
    have hnext : setAt l m i = true → Λ1 ((i : Int) + 1) := fun h => ih (isSet8_upto ha h)
    have hin : inI ((i : Int) + 1) := by unfold inI; omega
    unfold setAt at hbad hnext
    refine ⟨idx_nat hi, ?_⟩
    rw [Int.toNat_natCast]
    by_cases hi0 : i = 0
    · subst hi0
      simp only [Nat.zero_sub] at hbad hnext
      generalize l.getD 0 0 = x at hbad hnext ⊢
      by_cases x0 : x < 0
      · rw [if_pos (by simpa using x0)]
        exact ⟨rfl, rfl, hbad (by simp; omega), trivial⟩
      · rw [if_neg (by simpa using x0)]
        refine ⟨idx_nat hi, trivial, ?_⟩
        by_cases xm : x ≥ m
        · rw [if_pos (by simpa using xm)]
          exact ⟨rfl, hbad (by simp; omega), trivial⟩
        · rw [if_neg (by simpa using xm), if_neg (by simp)]
          refine ⟨rfl, trivial, ?_⟩
          rw [if_neg (by simp)]
          exact ⟨hin, hnext (by simp; omega)⟩
    · generalize hx : l.getD i 0 = x at hbad hnext ⊢
      by_cases x0 : x < 0
      · rw [if_pos (by simpa using x0)]
        exact ⟨rfl, rfl, hbad (by simp; omega), trivial⟩
      · rw [if_neg (by simpa using x0)]
        refine ⟨idx_nat hi, trivial, ?_⟩
        by_cases xm : x ≥ m
        · rw [if_pos (by simpa using xm)]
          exact ⟨rfl, hbad (by simp; omega), trivial⟩
        · rw [if_neg (by simpa using xm), if_pos (by simp; omega)]
          refine ⟨by unfold inI; omega, ⟨by omega, by omega⟩, idx_nat hi, trivial, trivial, ?_⟩
          rw [show ((i : Int) - 1).toNat = i - 1 by omega]
          generalize l.getD (i - 1) 0 = y at hbad hnext ⊢
          by_cases hlt : y < x
          · rw [if_neg (by simp; omega)]
            exact ⟨hin, hnext (by simp; omega)⟩
          · rw [if_pos (by simp; omega)]
            exact ⟨hbad (by simp; omega), trivial⟩
abbrev cMet8r : Con := { A := (.cons (.sl (.sl .int)) (.cons (.sl .int) .nil)), R := (.cons (.osl .int) .nil), pre := fun x => okT x.1 ∧ inT x.1 x.2.1 ∧ x.2.1.length ≤ 1000000, F := fun x => (metL x.1 x.2.1, ()) }
def cMet8r_0 (Λ1 : Int → (List Int) → Prop) (Λ2 : Int → (List Int) → Int → Prop) (t : (List (List Int))) (rows : (List Int)) (y0 : (List Int)) : Prop :=
  Λ1 (0 : Int) ([] : List Int)
def cMet8r_1 (Λ1 : Int → (List Int) → Prop) (Λ2 : Int → (List Int) → Int → Prop) (t : (List (List Int))) (rows : (List Int)) (y0 : (List Int))  (g_1 : Int) (out_1 : (List Int)) : Prop :=
  True ∧ (if (decide (g_1 < ((goals8 t : Int)))) = true then Λ2 g_1 out_1 (0 : Int) else out_1 = y0)
def cMet8r_2 (Λ1 : Int → (List Int) → Prop) (Λ2 : Int → (List Int) → Int → Prop) (t : (List (List Int))) (rows : (List Int)) (y0 : (List Int)) (g_1 : Int) (out_1 : (List Int)) (i_2 : Int) : Prop :=
  if (decide (i_2 < (List.length rows : Int))) = true then (idx i_2 (List.length rows : Int) ∧ (idx (List.getD rows (Int.toNat i_2) 0) (List.length t : Int) ∧ (idx g_1 (List.length (List.getD t (Int.toNat (List.getD rows (Int.toNat i_2) 0)) ([] : List Int)) : Int) ∧ (if ((List.getD (List.getD t (Int.toNat (List.getD rows (Int.toNat i_2) 0)) ([] : List Int)) (Int.toNat g_1) 0) == (1 : Int)) = true then (List.length out_1 + List.length [g_1] ≤ 4294967296 ∧ (inI (g_1 + (1 : Int)) ∧ Λ1 (g_1 + (1 : Int)) (out_1 ++ [g_1]))) else (inI (i_2 + (1 : Int)) ∧ Λ2 g_1 out_1 (i_2 + (1 : Int))))))) else (inI (g_1 + (1 : Int)) ∧ Λ1 (g_1 + (1 : Int)) out_1)
theorem cMet8r_law (h : ∀ (t : (List (List Int))) (rows : (List Int)), cMet8r.A.wf (t, rows, ()) → (okT t ∧ inT t rows ∧ rows.length ≤ 1000000) → ∀ (Λ1 : Int → (List Int) → Prop) (Λ2 : Int → (List Int) → Int → Prop), (∀ (g_1 : Int) (out_1 : (List Int)), cMet8r_1 Λ1 Λ2 t rows (metL t rows) g_1 out_1 → Λ1 g_1 out_1) → (∀ (g_1 : Int) (out_1 : (List Int)) (i_2 : Int), cMet8r_2 Λ1 Λ2 t rows (metL t rows) g_1 out_1 i_2 → Λ2 g_1 out_1 i_2) → cMet8r_0 Λ1 Λ2 t rows (metL t rows)) : ConOK Go.Proofs.Try.prog 71 cMet8r := by
  refine lawL (Γ := [(62, cGoals8r)]) (Θ := Th) (n := 36) [([1, 1, 0, 1, 0], ⟨[(0, false), (1, false), (5, true), (6, true)], [(5, true)]⟩), ([1, 1, 0, 1, 0, 0, 1, 0, 0, 1, 0], ⟨[(0, false), (1, false), (5, true), (6, true), (7, true)], [(5, true)]⟩)] ⟨cGoals8r_ok, trivial⟩ (by kernel_rfl) th_ok mix_ok Go.Proofs.Try.func71 (by kernel_rfl) ?_
  intro x hw hp Λ hC
  have h0 := h x.1 x.2.1 hw hp (fun g_1 out_1 => Λ [1, 1, 0, 1, 0] ([(0, .d false (.sl (.sl .int)) x.1), (1, .d false (.sl .int) x.2.1), (5, .own 5 0), (6, .d true .int g_1)], [(5, .sl true .int out_1)])) (fun g_1 out_1 i_2 => Λ [1, 1, 0, 1, 0, 0, 1, 0, 0, 1, 0] ([(0, .d false (.sl (.sl .int)) x.1), (1, .d false (.sl .int) x.2.1), (5, .own 5 0), (6, .d true .int g_1), (7, .d true .int i_2)], [(5, .sl true .int out_1)])) (fun g_1 out_1 hb => hC [1, 1, 0, 1, 0] ([(0, .d false (.sl (.sl .int)) x.1), (1, .d false (.sl .int) x.2.1), (5, .own 5 0), (6, .d true .int g_1)], [(5, .sl true .int out_1)]) (Eq.mpr (by kernel_rfl) hb)) (fun g_1 out_1 i_2 hb => hC [1, 1, 0, 1, 0, 0, 1, 0, 0, 1, 0] ([(0, .d false (.sl (.sl .int)) x.1), (1, .d false (.sl .int) x.2.1), (5, .own 5 0), (6, .d true .int g_1), (7, .d true .int i_2)], [(5, .sl true .int out_1)]) (Eq.mpr (by kernel_rfl) hb))
  exact Eq.mpr (by kernel_rfl) h0
theorem cMet8r_ok : ConOK Go.Proofs.Try.prog 71 cMet8r := by
  refine cMet8r_law ?_
  intro t rows hw hp Λ1 Λ2 h1 h2
  unfold cMet8r_0
  obtain ⟨p1, p2, p3⟩ := hp
  have hg := p1.2.1
  refine upto (n := goals8 t) (Q := fun i => Λ1 i (metK t rows i)) ?_ ?_ 0 (Nat.zero_le _)
  · apply h1; unfold cMet8r_1; rw [if_neg (by simp)]
    exact ⟨trivial, rfl⟩
  · intro i hi ih
    apply h1; unfold cMet8r_1; rw [if_pos (by simpa using hi)]
    refine ⟨trivial, ?_⟩
    have hml := metK_len t rows i
    rw [metK_succ] at ih
    have hin : inI ((i : Int) + 1) := by unfold inI; omega
    refine upto (n := rows.length) (Q := fun j => (rows.take j).any (fun r => hits t r i) = false → Λ2 (i : Int) (metK t rows i) (j : Int)) ?_ ?_ 0 (Nat.zero_le _) rfl
    · intro ha
      rw [List.take_length] at ha
      rw [ha] at ih
      apply h2; unfold cMet8r_2
      rw [if_neg (by simp)]
      exact ⟨hin, by simpa using ih⟩
    · intro j hj ihj ha
      apply h2; unfold cMet8r_2
      rw [Int.toNat_natCast, Int.toNat_natCast, if_pos (by simpa using hj)]
      have hr := p2 _ (mem_getD (d := 0) hj)
      have hyes : hits t (rows.getD j 0) i = true → (rows.any fun r => hits t r i) = true := fun h => List.any_eq_true.2 ⟨_, mem_getD hj, h⟩
      have hno : hits t (rows.getD j 0) i = false → Λ2 (i : Int) (metK t rows i) ((j : Int) + 1) := fun h => ihj (any_take_next (p := fun r => hits t r i) 0 hj ha h)
      generalize rows.getD j 0 = r at hr hyes hno ⊢
      have hrow := okT_row p1 (i := r.toNat) (by omega)
      refine ⟨idx_nat hj, ⟨hr.1, hr.2⟩, ⟨by omega, by rw [hrow]; omega⟩, ?_⟩
      unfold hits at hyes hno
      cases hv : ((t.getD r.toNat []).getD i 0 == 1)
      · rw [if_neg (by simp)]
        exact ⟨by unfold inI; omega, hno hv⟩
      · rw [if_pos rfl]
        have ha2 := hyes hv
        have ih2 : Λ1 ((i + 1 : Nat) : Int) (metK t rows i ++ [(i : Int)]) := by
          rw [if_pos (by unfold hits; exact ha2)] at ih; exact ih
        exact ⟨by simp; omega, hin, ih2⟩
abbrev cAll8r : Con := { A := (.cons .int .nil), R := (.cons (.osl .int) .nil), pre := fun x => 0 ≤ x.1 ∧ x.1 ≤ 1000000, F := fun x => (nums x.1.toNat, ()) }
def cAll8r_0 (Λ1 : Int → (List Int) → Prop) (n : Int) (y0 : (List Int)) : Prop :=
  Λ1 (0 : Int) ([] : List Int)
def cAll8r_1 (Λ1 : Int → (List Int) → Prop) (n : Int) (y0 : (List Int))  (i_1 : Int) (out_1 : (List Int)) : Prop :=
  if (decide (i_1 < n)) = true then (List.length out_1 + List.length [i_1] ≤ 4294967296 ∧ (inI (i_1 + (1 : Int)) ∧ Λ1 (i_1 + (1 : Int)) (out_1 ++ [i_1]))) else out_1 = y0
theorem cAll8r_law (h : ∀ (n : Int), cAll8r.A.wf (n, ()) → (0 ≤ n ∧ n ≤ 1000000) → ∀ (Λ1 : Int → (List Int) → Prop), (∀ (i_1 : Int) (out_1 : (List Int)), cAll8r_1 Λ1 n (nums n.toNat) i_1 out_1 → Λ1 i_1 out_1) → cAll8r_0 Λ1 n (nums n.toNat)) : ConOK Go.Proofs.Try.prog 105 cAll8r := by
  refine lawL (Γ := []) (Θ := Th) (n := 15) [([1, 1, 0, 1, 0], ⟨[(0, false), (3, true), (4, true)], [(3, true)]⟩)] trivial (by kernel_rfl) th_ok mix_ok Go.Proofs.Try.func105 (by kernel_rfl) ?_
  intro x hw hp Λ hC
  have h0 := h x.1 hw hp (fun i_1 out_1 => Λ [1, 1, 0, 1, 0] ([(0, .d false .int x.1), (3, .own 3 0), (4, .d true .int i_1)], [(3, .sl true .int out_1)])) (fun i_1 out_1 hb => hC [1, 1, 0, 1, 0] ([(0, .d false .int x.1), (3, .own 3 0), (4, .d true .int i_1)], [(3, .sl true .int out_1)]) (Eq.mpr (by kernel_rfl) hb))
  exact Eq.mpr (by kernel_rfl) h0
theorem cAll8r_ok : ConOK Go.Proofs.Try.prog 105 cAll8r := by
  refine cAll8r_law ?_
  intro n hw hp Λ1 h1
  unfold cAll8r_0
  obtain ⟨m, rfl⟩ : ∃ m : Nat, n = m := ⟨n.toNat, by omega⟩
  rw [Int.toNat_natCast] at h1
  refine upto (n := m) (Q := fun i => Λ1 i (nums i)) ?_ ?_ 0 (Nat.zero_le _)
  · apply h1; unfold cAll8r_1; rw [if_neg (by simp)]
  · intro i hi ih
    apply h1; unfold cAll8r_1; rw [if_pos (by simpa using hi)]
    refine ⟨by rw [nums_len]; simp; omega, by unfold inI; omega, ?_⟩
    rw [← nums_succ]
    exact ih
abbrev cOpen8r : Con := { A := (.cons (.sl (.sl .int)) .nil), R := (.cons (.osl .int) .nil), pre := fun x => okT x.1, F := fun x => (openL x.1, ()) }
def cOpen8r_0  (t : (List (List Int))) (y0 : (List Int)) : Prop :=
  (0 ≤ (List.length t : Int) ∧ (List.length t : Int) ≤ 1000000) ∧ ((okT t ∧ inT t (nums (List.length t : Int).toNat) ∧ (nums (List.length t : Int).toNat).length ≤ 1000000) ∧ (metL t (nums (List.length t : Int).toNat)) = y0)
theorem cOpen8r_law (h : ∀ (t : (List (List Int))), cOpen8r.A.wf (t, ()) → (okT t) → cOpen8r_0  t (openL t)) : ConOK Go.Proofs.Try.prog 61 cOpen8r := by
  refine lawL (Γ := [(105, cAll8r), (71, cMet8r)]) (Θ := Th) (n := 8) [] ⟨cAll8r_ok, cMet8r_ok, trivial⟩ (by kernel_rfl) th_ok mix_ok Go.Proofs.Try.func61 (by kernel_rfl) ?_
  intro x hw hp Λ hC
  have h0 := h x.1 hw hp  
  exact Eq.mpr (by kernel_rfl) h0
theorem cOpen8r_ok : ConOK Go.Proofs.Try.prog 61 cOpen8r := by
  refine cOpen8r_law ?_
  intro t hw hp
  unfold cOpen8r_0
  have := hp.1
  exact ⟨⟨by omega, by omega⟩, ⟨hp, nums_in t, by rw [nums_len]; omega⟩, rfl⟩
abbrev cOpenR : Con := { A := (.cons (.sl (.sl .int)) .nil), R := (.cons (.osl .int) (.cons .int .nil)), pre := fun x => True, F := fun x => ((if validT x.1 = 0 then openL x.1 else []), validT x.1, ()) }
def cOpenR_0  (t : (List (List Int))) (y0 : (List Int)) (y1 : Int) : Prop :=
  True ∧ (if ((validT t) != (0 : Int)) = true then ((validT t) = y1 ∧ ([] : List Int) = y0) else (okT t ∧ ((0 : Int) = y1 ∧ (openL t) = y0)))
theorem cOpenR_law (h : ∀ (t : (List (List Int))), cOpenR.A.wf (t, ()) → cOpenR_0  t (if validT t = 0 then openL t else []) (validT t)) : ConOK Go.Proofs.Try.prog 32 cOpenR := by
  refine lawL (Γ := [(61, cOpen8r), (36, cVal8r)]) (Θ := Th) (n := 12) [] ⟨cOpen8r_ok, cVal8r_ok, trivial⟩ (by kernel_rfl) th_ok mix_ok Go.Proofs.Try.func32 (by kernel_rfl) ?_
  intro x hw hp Λ hC
  have h0 := h x.1 hw  
  exact Eq.mpr (by kernel_rfl) h0
theorem cOpenR_ok : ConOK Go.Proofs.Try.prog 32 cOpenR := by
  refine cOpenR_law ?_
  intro t hw
  unfold cOpenR_0
  refine ⟨trivial, ?_⟩
  by_cases h : validT t = 0
  · rw [if_neg (by simp [h]), if_pos h, h]
    exact ⟨validT_ok.1 h, rfl, rfl⟩
  · rw [if_pos (by simp [h]), if_neg h]
    exact ⟨rfl, rfl⟩
abbrev cRowed8 : Con := { A := (.cons (.sl (.sl .int)) (.cons (.sl .int) .nil)), R := (.cons .int .nil), pre := fun x => x.2.1.length ≤ 1000000, F := fun x => (rowsT x.1 x.2.1, ()) }
def cRowed8_0  (t : (List (List Int))) (rows : (List Int)) (y0 : Int) : Prop :=
  True ∧ (if ((validT t) != (0 : Int)) = true then ((validT t) = y0 ∧ True) else ((0 ≤ (List.length t : Int) ∧ (List.length t : Int) ≤ 1000000 ∧ rows.length ≤ 1000000) ∧ (if (!(isSet8 rows (List.length t : Int).toNat)) = true then ((1 : Int) = y0 ∧ True) else ((0 : Int) = y0 ∧ True))))
theorem cRowed8_law (h : ∀ (t : (List (List Int))) (rows : (List Int)), cRowed8.A.wf (t, rows, ()) → (rows.length ≤ 1000000) → cRowed8_0  t rows (rowsT t rows)) : ConOK Go.Proofs.Try.prog 79 cRowed8 := by
  refine lawL (Γ := [(107, cIsSet8r), (36, cVal8r)]) (Θ := Th) (n := 16) [] ⟨cIsSet8r_ok, cVal8r_ok, trivial⟩ (by kernel_rfl) th_ok mix_ok Go.Proofs.Try.func79 (by kernel_rfl) ?_
  intro x hw hp Λ hC
  have h0 := h x.1 x.2.1 hw hp  
  exact Eq.mpr (by kernel_rfl) h0
theorem cRowed8_ok : ConOK Go.Proofs.Try.prog 79 cRowed8 := by
  refine cRowed8_law ?_
  intro t rows hw hp
  unfold cRowed8_0
  refine ⟨trivial, ?_⟩
  by_cases h : validT t = 0
  · rw [if_neg (by simp [h])]
    have := (validT_ok.1 h).1
    refine ⟨⟨by omega, by omega, hp⟩, ?_⟩
    have hr : rowsT t rows = argErr (isSet8 rows t.length) := by unfold rowsT; rw [if_pos h]
    rw [hr, Int.toNat_natCast]
    cases isSet8 rows t.length
    · rw [if_pos (by rfl)]; exact ⟨rfl, trivial⟩
    · rw [if_neg (by simp)]; exact ⟨rfl, trivial⟩
  · rw [if_pos (by simp [h])]
    refine ⟨?_, trivial⟩
    unfold rowsT; rw [if_neg h]
abbrev cMetR : Con := { A := (.cons (.sl (.sl .int)) (.cons (.sl .int) .nil)), R := (.cons (.osl .int) (.cons .int .nil)), pre := fun x => x.2.1.length ≤ 1000000, F := fun x => ((if rowsT x.1 x.2.1 = 0 then metL x.1 x.2.1 else []), rowsT x.1 x.2.1, ()) }
def cMetR_0  (t : (List (List Int))) (rows : (List Int)) (y0 : (List Int)) (y1 : Int) : Prop :=
  rows.length ≤ 1000000 ∧ (if ((rowsT t rows) != (0 : Int)) = true then ((rowsT t rows) = y1 ∧ ([] : List Int) = y0) else ((okT t ∧ inT t rows ∧ rows.length ≤ 1000000) ∧ ((0 : Int) = y1 ∧ (metL t rows) = y0)))
theorem cMetR_law (h : ∀ (t : (List (List Int))) (rows : (List Int)), cMetR.A.wf (t, rows, ()) → (rows.length ≤ 1000000) → cMetR_0  t rows (if rowsT t rows = 0 then metL t rows else []) (rowsT t rows)) : ConOK Go.Proofs.Try.prog 34 cMetR := by
  refine lawL (Γ := [(71, cMet8r), (79, cRowed8)]) (Θ := Th) (n := 16) [] ⟨cMet8r_ok, cRowed8_ok, trivial⟩ (by kernel_rfl) th_ok mix_ok Go.Proofs.Try.func34 (by kernel_rfl) ?_
  intro x hw hp Λ hC
  have h0 := h x.1 x.2.1 hw hp  
  exact Eq.mpr (by kernel_rfl) h0
theorem cMetR_ok : ConOK Go.Proofs.Try.prog 34 cMetR := by
  refine cMetR_law ?_
  intro t rows hw hp
  unfold cMetR_0
  refine ⟨hp, ?_⟩
  by_cases h : rowsT t rows = 0
  · rw [if_neg (by simp [h]), if_pos h, h]
    exact ⟨⟨(rowsT_ok h).1, (rowsT_ok h).2.1, hp⟩, rfl, rfl⟩
  · rw [if_pos (by simp [h]), if_neg h]
    exact ⟨rfl, rfl⟩
abbrev cCheckCovR : Con := { A := (.cons (.sl (.sl .int)) (.cons (.sl .int) .nil)), R := (.cons .int .nil), pre := fun x => x.2.1.length ≤ 1000000, F := fun x => ((if rowsT x.1 x.2.1 = 0 then (if coverB x.1 x.2.1 then 0 else 7) else rowsT x.1 x.2.1), ()) }
def cCheckCovR_0  (t : (List (List Int))) (rows : (List Int)) (y0 : Int) : Prop :=
  rows.length ≤ 1000000 ∧ (if ((rowsT t rows) != (0 : Int)) = true then ((rowsT t rows) = y0 ∧ True) else ((okT t ∧ inT t rows ∧ rows.length ≤ 1000000) ∧ (okT t ∧ (if ((List.length (metL t rows) : Int) != (List.length (openL t) : Int)) = true then ((7 : Int) = y0 ∧ True) else ((0 : Int) = y0 ∧ True)))))
theorem cCheckCovR_law (h : ∀ (t : (List (List Int))) (rows : (List Int)), cCheckCovR.A.wf (t, rows, ()) → (rows.length ≤ 1000000) → cCheckCovR_0  t rows (if rowsT t rows = 0 then (if coverB t rows then 0 else 7) else rowsT t rows)) : ConOK Go.Proofs.Try.prog 30 cCheckCovR := by
  refine lawL (Γ := [(71, cMet8r), (61, cOpen8r), (79, cRowed8)]) (Θ := Th) (n := 20) [] ⟨cMet8r_ok, cOpen8r_ok, cRowed8_ok, trivial⟩ (by kernel_rfl) th_ok mix_ok Go.Proofs.Try.func30 (by kernel_rfl) ?_
  intro x hw hp Λ hC
  have h0 := h x.1 x.2.1 hw hp  
  exact Eq.mpr (by kernel_rfl) h0
theorem cCheckCovR_ok : ConOK Go.Proofs.Try.prog 30 cCheckCovR := by
  refine cCheckCovR_law ?_
  intro t rows hw hp
  unfold cCheckCovR_0
  refine ⟨hp, ?_⟩
  by_cases h : rowsT t rows = 0
  · rw [if_neg (by simp [h]), if_pos h]
    refine ⟨⟨(rowsT_ok h).1, (rowsT_ok h).2.1, hp⟩, (rowsT_ok h).1, ?_⟩
    unfold coverB
    by_cases hc : (metL t rows).length = (openL t).length
    · rw [if_neg (by simp [hc]), if_pos (by simpa using hc)]
      exact ⟨rfl, trivial⟩
    · rw [if_pos (by simp; omega), if_neg (by simpa using hc)]
      exact ⟨rfl, trivial⟩
  · rw [if_pos (by simp [h]), if_neg h]
    exact ⟨rfl, trivial⟩
abbrev cMeetsL : Con := { A := (.cons (.sl (.sl .int)) (.cons (.sl .int) .nil)), R := (.cons .bool .nil), pre := fun x => True, F := fun x => (true, ()) }
def cMeetsL_0  (t : (List (List Int))) (rows : (List Int)) (y0 : Bool) : Prop :=
  True ∧ (if (longT t) = true then (true = true ∧ (True ∧ (true = y0 ∧ True))) else (True ∧ (if (bif false then true else (decide ((List.length rows : Int) > (50 : Int)))) = true then (True ∧ (true = y0 ∧ True)) else (True ∧ (True ∧ (True ∧ (rows.length ≤ 1000000 ∧ (True ∧ (True ∧ (if ((validT t) == (validT t)) = true then (True ∧ (True ∧ (if (bif true then (decide (((if validT t = 0 then openL t else [])) = ((if validT t = 0 then openL t else [])))) else false) = true then (True ∧ (if (bif true then ((validT t) == (validT t)) else false) = true then (True ∧ (True ∧ (if (bif true then (decide (((if rowsT t rows = 0 then metL t rows else [])) = ((if rowsT t rows = 0 then metL t rows else [])))) else false) = true then (True ∧ (if (bif true then ((rowsT t rows) == (rowsT t rows)) else false) = true then (True ∧ (True ∧ ((bif true then true else false) = y0 ∧ True))) else (false = false ∧ (false = y0 ∧ True)))) else (false = false ∧ (false = false ∧ (false = y0 ∧ True)))))) else (false = false ∧ (false = false ∧ (false = false ∧ (false = y0 ∧ True)))))) else (false = false ∧ (false = false ∧ (false = false ∧ (false = false ∧ (false = y0 ∧ True)))))))) else (false = false ∧ (false = false ∧ (false = false ∧ (false = false ∧ (false = false ∧ (false = y0 ∧ True))))))))))))))))
theorem cMeetsL_law (h : ∀ (t : (List (List Int))) (rows : (List Int)), cMeetsL.A.wf (t, rows, ()) → cMeetsL_0  t rows true) : ConOK Go.Proofs.Try.prog 8 cMeetsL := by
  refine lawL (Γ := [(17, cLong8), (34, cMetR), (33, cMetS), (32, cOpenR), (28, cOpenS), (21, cSameI8), (18, cSane8), (35, cVal8), (36, cVal8r)]) (Θ := Th) (n := 71) [] ⟨cLong8_ok, cMetR_ok, cMetS_ok, cOpenR_ok, cOpenS_ok, cSameI8_ok, cSane8_ok, cVal8_ok, cVal8r_ok, trivial⟩ (by kernel_rfl) th_ok mix_ok Go.Proofs.Try.func8 (by kernel_rfl) ?_
  intro x hw hp Λ hC
  have h0 := h x.1 x.2.1 hw  
  exact Eq.mpr (by kernel_rfl) h0
theorem cMeetsL_ok : ConOK Go.Proofs.Try.prog 8 cMeetsL := by
  refine cMeetsL_law ?_
  intro t rows hw
  unfold cMeetsL_0
  refine ⟨trivial, ?_⟩
  cases hL : longT t
  · rw [if_neg (by simp)]
    refine ⟨trivial, ?_⟩
    by_cases h50 : rows.length > 50
    · rw [if_pos (by simp; omega)]
      exact ⟨trivial, rfl, trivial⟩
    · rw [if_neg (by simp; omega)]
      have h6 : rows.length ≤ 1000000 := by omega
      simp [h6]
  · rw [if_pos rfl]
    exact ⟨rfl, trivial, rfl, trivial⟩
end Go.Tk
