import Derived.Test.YthjkkjnnkkekeaaC7b
set_option linter.unusedSimpArgs false
set_option linter.unusedVariables false
set_option linter.unnecessarySimpa false
namespace Go.Tk
open Go Go.RowKit

def lossV (p : List Lin) (h : List (List Edt)) (l : List Tst) : List (List Int) := if err7t p h l = 0 then lossTo p h l h.length else []
theorem lossV_len (p : List Lin) (h : List (List Edt)) (l : List Tst) : (lossV p h l).length ≤ 64 := by
  unfold lossV
  split
  · rename_i e
    obtain ⟨g1, g2⟩ := err7t_ok e
    exact lossTo_small (err7_ok g1).2.1 (validT_ok g2).1 (Nat.le_refl _)
  · simp
theorem two_eq {x y : List Int} (hx : x.length = 2) (hy : y.length = 2) : (x.getD 0 0 == y.getD 0 0 && x.getD 1 0 == y.getD 1 0) = true ↔ x = y := by
  match x, y, hx, hy with
  | [a, b], [c, d], _, _ => simp
abbrev cLossesV : Con := { A := (.cons (.sl tL) (.cons (.sl (.sl tEd)) (.cons (.sl tTs) .nil))), R := (.cons (.sl (.arr 2 .int)) (.cons .int .nil)), pre := fun x => True, F := fun x => (lossV x.1 x.2.1 x.2.2.1, err7t x.1 x.2.1 x.2.2.1, ()) }
theorem cLossesV_ok : ConOK Go.Proofs.Try.prog 47 cLossesV := cLosses7_ok
abbrev cLossesVR : Con := { A := (.cons (.sl tL) (.cons (.sl (.sl tEd)) (.cons (.sl tTs) .nil))), R := (.cons (.sl (.arr 2 .int)) (.cons .int .nil)), pre := fun x => True, F := fun x => (lossV x.1 x.2.1 x.2.2.1, err7t x.1 x.2.1 x.2.2.1, ()) }
theorem cLossesVR_ok : ConOK Go.Proofs.Try.prog 48 cLossesVR := cLosses7R_ok
abbrev cSamePairs : Con := { A := (.cons (.sl (.arr 2 .int)) (.cons (.sl (.arr 2 .int)) .nil)), R := (.cons .bool .nil), pre := fun x => x.1.length ≤ 1000000, F := fun x => (decide (x.1 = x.2.1), ()) }
def cSamePairs_0 (Λ1 : Int → Prop) (a : (List (List Int))) (b : (List (List Int))) (y0 : Bool) : Prop :=
  if ((List.length a : Int) != (List.length b : Int)) = true then (false = y0 ∧ True) else Λ1 (0 : Int)
def cSamePairs_1 (Λ1 : Int → Prop) (a : (List (List Int))) (b : (List (List Int))) (y0 : Bool)  (i_1 : Int) : Prop :=
  if (decide (i_1 < (List.length a : Int))) = true then (idx i_1 (List.length a : Int) ∧ (idx i_1 (List.length b : Int) ∧ (if (!(List.getD (List.getD a (Int.toNat i_1) (List.replicate 2 0)) 0 0 == List.getD (List.getD b (Int.toNat i_1) (List.replicate 2 0)) 0 0 && List.getD (List.getD a (Int.toNat i_1) (List.replicate 2 0)) 1 0 == List.getD (List.getD b (Int.toNat i_1) (List.replicate 2 0)) 1 0)) = true then (false = y0 ∧ True) else (inI (i_1 + (1 : Int)) ∧ Λ1 (i_1 + (1 : Int)))))) else (true = y0 ∧ True)
theorem cSamePairs_law (h : ∀ (a : (List (List Int))) (b : (List (List Int))), cSamePairs.A.wf (a, b, ()) → (a.length ≤ 1000000) → ∀ (Λ1 : Int → Prop), (∀ (i_1 : Int), cSamePairs_1 Λ1 a b (decide (a = b)) i_1 → Λ1 i_1) → cSamePairs_0 Λ1 a b (decide (a = b))) : ConOK Go.Proofs.Try.prog 49 cSamePairs := by
  refine lawX (X := { subs := [], frz := [], U := [], mul := [], nst := [], nls := [], itf := none, inp := [], arrs := [96] }) (hX := xok0 _ trivial) (Γ := []) (Θ := Th) (n := 26) [([1, 1, 0, 1, 0], ⟨[(0, false), (1, false), (5, true)], []⟩)] trivial (by kernel_rfl) th_ok mix_ok Go.Proofs.Try.func49 (by kernel_rfl) ?_
  intro x hw hp Λ hC
  have h0 := h x.1 x.2.1 hw hp (fun i_1 => Λ [1, 1, 0, 1, 0] ([(0, .d false (.sl (.arr 2 .int)) x.1), (1, .d false (.sl (.arr 2 .int)) x.2.1), (5, .d true .int i_1)], [])) (fun i_1 hb => hC [1, 1, 0, 1, 0] ([(0, .d false (.sl (.arr 2 .int)) x.1), (1, .d false (.sl (.arr 2 .int)) x.2.1), (5, .d true .int i_1)], []) (Eq.mpr (by kernel_rfl) hb))
  exact Eq.mpr (by kernel_rfl) h0
theorem cSamePairs_ok : ConOK Go.Proofs.Try.prog 49 cSamePairs := by
  refine cSamePairs_law ?_
  intro a b hw hp Λ1 h1
  unfold cSamePairs_0
  have w1 := hw.1.2
  have w2 := hw.2.1.2
  by_cases hl : a.length = b.length
  · rw [if_neg (by simp [hl])]
    refine upto (n := a.length) (Q := fun i => a.take i = b.take i → Λ1 i) ?_ ?_ 0 (Nat.zero_le _) rfl
    · intro ha
      rw [List.take_length, List.take_of_length_le (by omega)] at ha
      apply h1; unfold cSamePairs_1; rw [if_neg (by simp)]
      exact ⟨by simp [ha], trivial⟩
    · intro i hi ih ha
      apply h1; unfold cSamePairs_1; rw [if_pos (by simpa using hi), Int.toNat_natCast]
      refine ⟨idx_nat hi, idx_nat (by omega), ?_⟩
      have m1 := mem_getD (d := (T.arr 2 .int).dflt) hi
      have m2 := mem_getD (d := (T.arr 2 .int).dflt) (show i < b.length by omega)
      have heq := two_eq (w1 _ m1).1 (w2 _ m2).1
      by_cases hv : List.getD a i (T.arr 2 .int).dflt = List.getD b i (T.arr 2 .int).dflt
      · rw [if_neg (by have := heq.2 hv; intro q; rw [Bool.not_eq_true'] at q; exact absurd (this.symm.trans q) (by simp))]
        exact ⟨inI_succ hi (by omega), ih (take_eq_next (T.arr 2 .int).dflt hi hl ha hv)⟩
      · rw [if_pos (by rw [Bool.not_eq_true']; exact Bool.eq_false_iff.2 fun q => hv (heq.1 q))]
        exact ⟨by simp [ne_at (T.arr 2 .int).dflt hv], trivial⟩
  · rw [if_pos (by simp; omega)]
    exact ⟨by simp; exact fun e => hl (by rw [e]), trivial⟩
abbrev cMany4 : Con := { A := (.cons (.sl tTs) .nil), R := (.cons .bool .nil), pre := fun x => True, F := fun x => (decide (x.1.length > 50) || x.1.any (fun t' => decide (50 < t'.1.length)), ()) }
def cMany4_0 (Λ1 : Int → Prop) (l : (List Tst)) (y0 : Bool) : Prop :=
  Λ1 (0 : Int)
def cMany4_1 (Λ1 : Int → Prop) (l : (List Tst)) (y0 : Bool)  (i_1 : Int) : Prop :=
  if (decide (i_1 < (List.length l : Int))) = true then (idx i_1 (List.length l : Int) ∧ (if (decide ((List.length ((List.getD l (Int.toNat i_1) tTs.dflt).1) : Int) > (50 : Int))) = true then (true = y0 ∧ True) else (inI (i_1 + (1 : Int)) ∧ Λ1 (i_1 + (1 : Int))))) else ((decide ((List.length l : Int) > (50 : Int))) = y0 ∧ True)
theorem cMany4_law (h : ∀ (l : (List Tst)), cMany4.A.wf (l, ()) → ∀ (Λ1 : Int → Prop), (∀ (i_1 : Int), cMany4_1 Λ1 l (decide (l.length > 50) || l.any (fun t' => decide (50 < t'.1.length))) i_1 → Λ1 i_1) → cMany4_0 Λ1 l (decide (l.length > 50) || l.any (fun t' => decide (50 < t'.1.length)))) : ConOK Go.Proofs.Try.prog 46 cMany4 := by
  refine lawL (Γ := []) (Θ := Th) (n := 20) [([1, 0, 1, 0], ⟨[(0, false), (3, true)], []⟩)] trivial (by kernel_rfl) th_ok mix_ok Go.Proofs.Try.func46 (by kernel_rfl) ?_
  intro x hw hp Λ hC
  have h0 := h x.1 hw (fun i_1 => Λ [1, 0, 1, 0] ([(0, .d false (.sl tTs) x.1), (3, .d true .int i_1)], [])) (fun i_1 hb => hC [1, 0, 1, 0] ([(0, .d false (.sl tTs) x.1), (3, .d true .int i_1)], []) (Eq.mpr (by kernel_rfl) hb))
  exact Eq.mpr (by kernel_rfl) h0
theorem cMany4_ok : ConOK Go.Proofs.Try.prog 46 cMany4 := by
  refine cMany4_law ?_
  intro l hw Λ1 h1
  unfold cMany4_0
  have hll : l.length ≤ 140737488355328 := hw.1.1
  refine upto (n := l.length) (Q := fun i => (l.take i).any (fun t => decide (50 < t.1.length)) = false → Λ1 (i : Int)) ?_ ?_ 0 (Nat.zero_le _) rfl
  · intro ha
    rw [List.take_length] at ha
    apply h1; unfold cMany4_1; rw [if_neg (by simp), ha]
    exact ⟨by simp; omega, trivial⟩
  · intro i hi ih ha
    apply h1; unfold cMany4_1; rw [if_pos (by simpa using hi), Int.toNat_natCast]
    refine ⟨idx_nat hi, ?_⟩
    by_cases hv : 50 < (List.getD l i tTs.dflt).1.length
    · rw [if_pos (by rw [decide_eq_true_eq]; omega)]
      have : l.any (fun t => decide (50 < t.1.length)) = true := List.any_eq_true.2 ⟨_, mem_getD hi, decide_eq_true hv⟩
      rw [this]
      exact ⟨by simp, trivial⟩
    · rw [if_neg (by rw [decide_eq_true_eq]; omega)]
      exact ⟨inI_succ hi hll, ih (any_take_next (p := fun t : Tst => decide (50 < t.1.length)) tTs.dflt hi ha (decide_eq_false hv))⟩
abbrev cStoryLosses : Con := { A := (.cons (.sl tL) (.cons (.sl (.sl tEd)) (.cons (.sl tTs) .nil))), R := (.cons .bool .nil), pre := fun x => True, F := fun x => (true, ()) }
def cStoryLosses_0  (p : (List Lin)) (h : (List (List Edt))) (l : (List Tst)) (y0 : Bool) : Prop :=
  True ∧ (if (decide (∃ x' ∈ h, 50 < x'.length) || decide (100 < p.length) || decide (50 < h.length)) = true then (true = true ∧ (True ∧ (true = y0 ∧ True))) else (True ∧ (True ∧ (if (bif false then true else (decide (l.length > 50) || l.any (fun t' => decide (50 < t'.1.length)))) = true then (True ∧ (true = y0 ∧ True)) else (True ∧ (True ∧ ((lossV p h l).length ≤ 1000000 ∧ (if (decide ((lossV p h l) = (lossV p h l))) = true then (True ∧ (if (bif true then ((err7t p h l) == (err7t p h l)) else false) = true then (True ∧ (True ∧ ((bif true then true else false) = y0 ∧ True))) else (false = false ∧ (false = y0 ∧ True)))) else (false = false ∧ (false = false ∧ (false = y0 ∧ True)))))))))))
theorem cStoryLosses_law (h : ∀ (p : (List Lin)) (h : (List (List Edt))) (l : (List Tst)), cStoryLosses.A.wf (p, h, l, ()) → cStoryLosses_0  p h l true) : ConOK Go.Proofs.Try.prog 12 cStoryLosses := by
  refine lawL (Γ := [(15, cLong7), (47, cLossesV), (48, cLossesVR), (46, cMany4), (49, cSamePairs), (16, cSane7)]) (Θ := Th) (n := 44) [] ⟨cLong7_ok, cLossesV_ok, cLossesVR_ok, cMany4_ok, cSamePairs_ok, cSane7_ok, trivial⟩ (by kernel_rfl) th_ok mix_ok Go.Proofs.Try.func12 (by kernel_rfl) ?_
  intro x hw hp Λ hC
  have h0 := h x.1 x.2.1 x.2.2.1 hw  
  exact Eq.mpr (by kernel_rfl) h0
theorem cStoryLosses_ok : ConOK Go.Proofs.Try.prog 12 cStoryLosses := by
  refine cStoryLosses_law ?_
  intro p h l hw
  unfold cStoryLosses_0
  have lv : (lossV p h l).length ≤ 1000000 := by have := lossV_len p h l; omega
  refine ⟨trivial, ?_⟩
  split
  · exact ⟨rfl, trivial, rfl, trivial⟩
  · refine ⟨trivial, trivial, ?_⟩
    split
    · exact ⟨trivial, rfl, trivial⟩
    · simp [lv]
end Go.Tk
