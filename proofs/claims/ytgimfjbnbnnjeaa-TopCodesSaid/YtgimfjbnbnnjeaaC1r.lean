import Derived.Test.YtgimfjbnbnnjeaaC1
import Derived.Test.YtgimfjbnbnnjeaaP1r
set_option linter.unusedSimpArgs false
set_option linter.unusedVariables false
namespace Go.Tk
open Go Go.RowKit

def allOps : List Opn := [tOpn.dflt, (0, (fun (x : (Int × Int × Int × Unit)) => True, fun (x : (Int × Int × Int × Unit)) => (x.2.2.1, ())), ()), (1, (fun (x : (Int × Int × Int × Unit)) => True, fun (x : (Int × Int × Int × Unit)) => (x.1, ())), ()), (2, (fun (x : (Int × Int × Int × Unit)) => inI (x.1 + x.2.1), fun (x : (Int × Int × Int × Unit)) => (x.1 + x.2.1, ())), ()), (2, (fun (x : (Int × Int × Int × Unit)) => inI (x.1 - x.2.1), fun (x : (Int × Int × Int × Unit)) => (x.1 - x.2.1, ())), ()), (2, (fun (x : (Int × Int × Int × Unit)) => True, fun (x : (Int × Int × Int × Unit)) => (min x.1 x.2.1, ())), ()), (2, (fun (x : (Int × Int × Int × Unit)) => True, fun (x : (Int × Int × Int × Unit)) => (max x.1 x.2.1, ())), ()), (2, (T.fn (.cons .int (.cons .int (.cons .int .nil))) (.cons .int .nil)).dflt, ())]
abbrev cOp1 : Con := { A := (.cons .int (.cons .int (.cons .int .nil))), R := (.cons .int .nil), pre := fun x => True, F := fun x => (x.2.2.1, ()) }
def cOp1_0  (a : Int) (b : Int) (number : Int) (y0 : Int) : Prop :=
  number = y0 ∧ True
theorem cOp1_law (h : ∀ (a : Int) (b : Int) (number : Int), cOp1.A.wf (a, b, number, ()) → cOp1_0  a b number number) : ConOK Go.Proofs.Try.prog 48 cOp1 := by
  refine lawL (Γ := []) (Θ := Th) (n := 8) [] trivial (by kernel_rfl) th_ok mix_ok Go.Proofs.Try.func48 (by kernel_rfl) ?_
  intro x hw hp Λ hC
  have h0 := h x.1 x.2.1 x.2.2.1 hw  
  exact Eq.mpr (by kernel_rfl) h0
theorem cOp1_ok : ConOK Go.Proofs.Try.prog 48 cOp1 := by
  refine cOp1_law ?_
  intro a b number hw
  unfold cOp1_0
  exact ⟨rfl, trivial⟩
abbrev cOp2 : Con := { A := (.cons .int (.cons .int (.cons .int .nil))), R := (.cons .int .nil), pre := fun x => True, F := fun x => (x.1, ()) }
def cOp2_0  (a : Int) (b : Int) (number : Int) (y0 : Int) : Prop :=
  a = y0 ∧ True
theorem cOp2_law (h : ∀ (a : Int) (b : Int) (number : Int), cOp2.A.wf (a, b, number, ()) → cOp2_0  a b number a) : ConOK Go.Proofs.Try.prog 49 cOp2 := by
  refine lawL (Γ := []) (Θ := Th) (n := 8) [] trivial (by kernel_rfl) th_ok mix_ok Go.Proofs.Try.func49 (by kernel_rfl) ?_
  intro x hw hp Λ hC
  have h0 := h x.1 x.2.1 x.2.2.1 hw  
  exact Eq.mpr (by kernel_rfl) h0
theorem cOp2_ok : ConOK Go.Proofs.Try.prog 49 cOp2 := by
  refine cOp2_law ?_
  intro a b number hw
  unfold cOp2_0
  exact ⟨rfl, trivial⟩
abbrev cOp3 : Con := { A := (.cons .int (.cons .int (.cons .int .nil))), R := (.cons .int .nil), pre := fun x => inI (x.1 + x.2.1), F := fun x => (x.1 + x.2.1, ()) }
def cOp3_0  (a : Int) (b : Int) (number : Int) (y0 : Int) : Prop :=
  inI (a + b) ∧ ((a + b) = y0 ∧ True)
theorem cOp3_law (h : ∀ (a : Int) (b : Int) (number : Int), cOp3.A.wf (a, b, number, ()) → (inI (a + b)) → cOp3_0  a b number (a + b)) : ConOK Go.Proofs.Try.prog 50 cOp3 := by
  refine lawL (Γ := []) (Θ := Th) (n := 10) [] trivial (by kernel_rfl) th_ok mix_ok Go.Proofs.Try.func50 (by kernel_rfl) ?_
  intro x hw hp Λ hC
  have h0 := h x.1 x.2.1 x.2.2.1 hw hp  
  exact Eq.mpr (by kernel_rfl) h0
theorem cOp3_ok : ConOK Go.Proofs.Try.prog 50 cOp3 := by
  refine cOp3_law ?_
  intro a b number hw hp
  unfold cOp3_0
  exact ⟨hp, rfl, trivial⟩
abbrev cOp4 : Con := { A := (.cons .int (.cons .int (.cons .int .nil))), R := (.cons .int .nil), pre := fun x => inI (x.1 - x.2.1), F := fun x => (x.1 - x.2.1, ()) }
def cOp4_0  (a : Int) (b : Int) (number : Int) (y0 : Int) : Prop :=
  inI (a - b) ∧ ((a - b) = y0 ∧ True)
theorem cOp4_law (h : ∀ (a : Int) (b : Int) (number : Int), cOp4.A.wf (a, b, number, ()) → (inI (a - b)) → cOp4_0  a b number (a - b)) : ConOK Go.Proofs.Try.prog 51 cOp4 := by
  refine lawL (Γ := []) (Θ := Th) (n := 10) [] trivial (by kernel_rfl) th_ok mix_ok Go.Proofs.Try.func51 (by kernel_rfl) ?_
  intro x hw hp Λ hC
  have h0 := h x.1 x.2.1 x.2.2.1 hw hp  
  exact Eq.mpr (by kernel_rfl) h0
theorem cOp4_ok : ConOK Go.Proofs.Try.prog 51 cOp4 := by
  refine cOp4_law ?_
  intro a b number hw hp
  unfold cOp4_0
  exact ⟨hp, rfl, trivial⟩
abbrev cOp5 : Con := { A := (.cons .int (.cons .int (.cons .int .nil))), R := (.cons .int .nil), pre := fun x => True, F := fun x => (min x.1 x.2.1, ()) }
def cOp5_0  (a : Int) (b : Int) (number : Int) (y0 : Int) : Prop :=
  (min a b) = y0 ∧ True
theorem cOp5_law (h : ∀ (a : Int) (b : Int) (number : Int), cOp5.A.wf (a, b, number, ()) → cOp5_0  a b number (min a b)) : ConOK Go.Proofs.Try.prog 52 cOp5 := by
  refine lawL (Γ := []) (Θ := Th) (n := 10) [] trivial (by kernel_rfl) th_ok mix_ok Go.Proofs.Try.func52 (by kernel_rfl) ?_
  intro x hw hp Λ hC
  have h0 := h x.1 x.2.1 x.2.2.1 hw  
  exact Eq.mpr (by kernel_rfl) h0
theorem cOp5_ok : ConOK Go.Proofs.Try.prog 52 cOp5 := by
  refine cOp5_law ?_
  intro a b number hw
  unfold cOp5_0
  exact ⟨rfl, trivial⟩
abbrev cOp6 : Con := { A := (.cons .int (.cons .int (.cons .int .nil))), R := (.cons .int .nil), pre := fun x => True, F := fun x => (max x.1 x.2.1, ()) }
def cOp6_0  (a : Int) (b : Int) (number : Int) (y0 : Int) : Prop :=
  (max a b) = y0 ∧ True
theorem cOp6_law (h : ∀ (a : Int) (b : Int) (number : Int), cOp6.A.wf (a, b, number, ()) → cOp6_0  a b number (max a b)) : ConOK Go.Proofs.Try.prog 53 cOp6 := by
  refine lawL (Γ := []) (Θ := Th) (n := 10) [] trivial (by kernel_rfl) th_ok mix_ok Go.Proofs.Try.func53 (by kernel_rfl) ?_
  intro x hw hp Λ hC
  have h0 := h x.1 x.2.1 x.2.2.1 hw  
  exact Eq.mpr (by kernel_rfl) h0
theorem cOp6_ok : ConOK Go.Proofs.Try.prog 53 cOp6 := by
  refine cOp6_law ?_
  intro a b number hw
  unfold cOp6_0
  exact ⟨rfl, trivial⟩
abbrev cOperations : Con := { A := .nil, R := (.cons (.arr 8 tOpn) .nil), pre := fun x => True, F := fun x => (allOps, ()) }
def cOperations_0   (y0 : (List Opn)) : Prop :=
  (List.set (List.set (List.set (List.set (List.set (List.set (List.set (List.replicate 8 tOpn.dflt) 1 (0, (fun (xx : (Int × Int × Int × Unit)) => True, fun (xx : (Int × Int × Int × Unit)) => (xx.2.2.1, ())), ())) 2 (1, (fun (xx : (Int × Int × Int × Unit)) => True, fun (xx : (Int × Int × Int × Unit)) => (xx.1, ())), ())) 3 (2, (fun (xx : (Int × Int × Int × Unit)) => inI (xx.1 + xx.2.1), fun (xx : (Int × Int × Int × Unit)) => (xx.1 + xx.2.1, ())), ())) 4 (2, (fun (xx : (Int × Int × Int × Unit)) => inI (xx.1 - xx.2.1), fun (xx : (Int × Int × Int × Unit)) => (xx.1 - xx.2.1, ())), ())) 5 (2, (fun (xx : (Int × Int × Int × Unit)) => True, fun (xx : (Int × Int × Int × Unit)) => (min xx.1 xx.2.1, ())), ())) 6 (2, (fun (xx : (Int × Int × Int × Unit)) => True, fun (xx : (Int × Int × Int × Unit)) => (max xx.1 xx.2.1, ())), ())) 7 (2, (T.fn (.cons .int (.cons .int (.cons .int .nil))) (.cons .int .nil)).dflt, ())) = y0 ∧ True
theorem cOperations_law (h : cOperations.A.wf (()) → cOperations_0   allOps) : ConOK Go.Proofs.Try.prog 39 cOperations := by
  refine lawL (Γ := [(48, cOp1), (49, cOp2), (50, cOp3), (51, cOp4), (52, cOp5), (53, cOp6)]) (Θ := Th) (n := 9) [] ⟨cOp1_ok, cOp2_ok, cOp3_ok, cOp4_ok, cOp5_ok, cOp6_ok, trivial⟩ (by kernel_rfl) th_ok mix_ok Go.Proofs.Try.func39 (by kernel_rfl) ?_
  intro x hw hp Λ hC
  have h0 := h  hw  
  exact Eq.mpr (by kernel_rfl) h0
theorem cOperations_ok : ConOK Go.Proofs.Try.prog 39 cOperations := by
  refine cOperations_law ?_
  intro hw
  unfold cOperations_0
  exact ⟨rfl, trivial⟩
abbrev cWrites1 : Con := { A := (.cons tL .nil), R := (.cons .int (.cons .bool .nil)), pre := fun x => True, F := fun x => ((if writes x.1 then x.1.2.1 else 0), writes x.1, ()) }
def cWrites1_0  (l : Lin) (y0 : Int) (y1 : Bool) : Prop :=
  True ∧ (if (within l.1 (1 : Int) (6 : Int)) = true then (l.2.1 = y0 ∧ true = y1 ∧ True) else ((0 : Int) = y0 ∧ false = y1 ∧ True))
theorem cWrites1_law (h : ∀ (l : Lin), cWrites1.A.wf (l, ()) → cWrites1_0  l (if writes l then l.2.1 else 0) (writes l)) : ConOK Go.Proofs.Try.prog 23 cWrites1 := by
  refine lawL (Γ := [(21, cWithin1)]) (Θ := Th) (n := 9) [] ⟨cWithin1_ok, trivial⟩ (by kernel_rfl) th_ok mix_ok Go.Proofs.Try.func23 (by kernel_rfl) ?_
  intro x hw hp Λ hC
  have h0 := h x.1 hw  
  exact Eq.mpr (by kernel_rfl) h0
theorem cWrites1_ok : ConOK Go.Proofs.Try.prog 23 cWrites1 := by
  refine cWrites1_law ?_
  intro l hw
  unfold cWrites1_0
  refine ⟨trivial, ?_⟩
  by_cases h : 1 ≤ l.1 ∧ l.1 ≤ 6
  · have e : writes l = true := by unfold writes; simpa using h
    rw [if_pos (within_iff.2 h), if_pos e]
    exact ⟨rfl, e.symm, trivial⟩
  · have e : writes l = false := by unfold writes; simpa using h
    rw [if_neg (fun g => h (within_iff.1 g)), if_neg (by rw [e]; simp)]
    exact ⟨rfl, e.symm, trivial⟩
abbrev cRun0 : Con := { A := (.cons (.sl tL) (.cons (.sl .int) (.cons (.fn (.cons .int .nil) (.cons .int (.cons .bool .nil))) .nil))), R := (.cons (.osl tVis) (.cons (.arr 4 .int) .nil)), pre := fun x => validP x.1 = 0 ∧ validS x.2.1 = true ∧ ∀ i', x.2.2.1.1 (i', ()), F := fun x => (visits x.1 (frcOf x.2.2.1.2) x.2.1, endS x.1 (frcOf x.2.2.1.2) x.2.1, ()) }
def cRun0_0 (Λ1 : Int → (List Int) → (List Vis) → Prop) (Λ2 : Int → (List Int) → (List Vis) → Int → Prop) (p : (List Lin)) (in_ : (List Int)) (forced : (T.fn (.cons .int .nil) (.cons .int (.cons .bool .nil))).den) (y0 : (List Vis)) (y1 : (List Int)) : Prop :=
  True ∧ (True ∧ Λ1 (0 : Int) (List.append (List.take (List.length (List.replicate 4 0)) in_) (List.drop (List.length in_) (List.replicate 4 0))) ([] : List Vis))
def cRun0_1 (Λ1 : Int → (List Int) → (List Vis) → Prop) (Λ2 : Int → (List Int) → (List Vis) → Int → Prop) (p : (List Lin)) (in_ : (List Int)) (forced : (T.fn (.cons .int .nil) (.cons .int (.cons .bool .nil))).den) (y0 : (List Vis)) (y1 : (List Int))  (i_1 : Int) (now_1 : (List Int)) (out_1 : (List Vis)) : Prop :=
  if (decide (i_1 < (List.length p : Int))) = true then (idx i_1 (List.length p : Int) ∧ (List.length out_1 + List.length [(i_1, now_1, ())] ≤ 4294967296 ∧ (if ((List.getD p (Int.toNat i_1) tL.dflt).1 == (7 : Int)) = true then (idx ((List.getD p (Int.toNat i_1) tL.dflt).2.2.1) (4 : Int) ∧ (idx ((List.getD p (Int.toNat i_1) tL.dflt).2.2.2.1) (4 : Int) ∧ (if (decide ((List.getD now_1 (Int.toNat ((List.getD p (Int.toNat i_1) tL.dflt).2.2.1)) 0) < (List.getD now_1 (Int.toNat ((List.getD p (Int.toNat i_1) tL.dflt).2.2.2.1)) 0))) = true then (inI (i_1 + (List.getD p (Int.toNat i_1) tL.dflt).2.1) ∧ (inI ((i_1 + (List.getD p (Int.toNat i_1) tL.dflt).2.1) + (1 : Int)) ∧ Λ1 ((i_1 + (List.getD p (Int.toNat i_1) tL.dflt).2.1) + (1 : Int)) now_1 (out_1 ++ [(i_1, now_1, ())]))) else (inI (i_1 + (1 : Int)) ∧ Λ1 (i_1 + (1 : Int)) now_1 (out_1 ++ [(i_1, now_1, ())]))))) else (True ∧ (if (!(writes (List.getD p (Int.toNat i_1) tL.dflt))) = true then (inI (i_1 + (1 : Int)) ∧ Λ1 (i_1 + (1 : Int)) now_1 (out_1 ++ [(i_1, now_1, ())])) else (forced.1 (i_1, ()) ∧ (if (!((forced.2 (i_1, ())).2.1)) = true then (idx ((List.getD p (Int.toNat i_1) tL.dflt).1) (8 : Int) ∧ (if (decide ((List.getD allOps (Int.toNat ((List.getD p (Int.toNat i_1) tL.dflt).1)) tOpn.dflt).1 > (0 : Int))) = true then (idx ((List.getD p (Int.toNat i_1) tL.dflt).2.2.1) (4 : Int) ∧ Λ2 i_1 now_1 out_1 (List.getD now_1 (Int.toNat ((List.getD p (Int.toNat i_1) tL.dflt).2.2.1)) 0)) else Λ2 i_1 now_1 out_1 (0 : Int))) else (idx ((if writes (List.getD p (Int.toNat i_1) tL.dflt) then (List.getD p (Int.toNat i_1) tL.dflt).2.1 else 0)) (4 : Int) ∧ (inI (i_1 + (1 : Int)) ∧ Λ1 (i_1 + (1 : Int)) (List.set now_1 (Int.toNat ((if writes (List.getD p (Int.toNat i_1) tL.dflt) then (List.getD p (Int.toNat i_1) tL.dflt).2.1 else 0))) (max (-999 : Int) (min (999 : Int) ((forced.2 (i_1, ())).1)))) (out_1 ++ [(i_1, now_1, ())])))))))))) else (now_1 = y1 ∧ out_1 = y0)
def cRun0_2 (Λ1 : Int → (List Int) → (List Vis) → Prop) (Λ2 : Int → (List Int) → (List Vis) → Int → Prop) (p : (List Lin)) (in_ : (List Int)) (forced : (T.fn (.cons .int .nil) (.cons .int (.cons .bool .nil))).den) (y0 : (List Vis)) (y1 : (List Int)) (i_1 : Int) (now_1 : (List Int)) (out_1 : (List Vis)) (a_2 : Int) : Prop :=
  idx ((List.getD p (Int.toNat i_1) tL.dflt).1) (8 : Int) ∧ (if (decide ((List.getD allOps (Int.toNat ((List.getD p (Int.toNat i_1) tL.dflt).1)) tOpn.dflt).1 > (1 : Int))) = true then (idx ((List.getD p (Int.toNat i_1) tL.dflt).2.2.2.1) (4 : Int) ∧ (idx ((List.getD p (Int.toNat i_1) tL.dflt).1) (8 : Int) ∧ (((List.getD allOps (Int.toNat ((List.getD p (Int.toNat i_1) tL.dflt).1)) tOpn.dflt).2.1).1 (a_2, (List.getD now_1 (Int.toNat ((List.getD p (Int.toNat i_1) tL.dflt).2.2.2.1)) 0), (List.getD p (Int.toNat i_1) tL.dflt).2.2.1, ()) ∧ (idx ((if writes (List.getD p (Int.toNat i_1) tL.dflt) then (List.getD p (Int.toNat i_1) tL.dflt).2.1 else 0)) (4 : Int) ∧ (inI (i_1 + (1 : Int)) ∧ Λ1 (i_1 + (1 : Int)) (List.set now_1 (Int.toNat ((if writes (List.getD p (Int.toNat i_1) tL.dflt) then (List.getD p (Int.toNat i_1) tL.dflt).2.1 else 0))) (max (-999 : Int) (min (999 : Int) ((((List.getD allOps (Int.toNat ((List.getD p (Int.toNat i_1) tL.dflt).1)) tOpn.dflt).2.1).2 (a_2, (List.getD now_1 (Int.toNat ((List.getD p (Int.toNat i_1) tL.dflt).2.2.2.1)) 0), (List.getD p (Int.toNat i_1) tL.dflt).2.2.1, ())).1)))) (out_1 ++ [(i_1, now_1, ())])))))) else (idx ((List.getD p (Int.toNat i_1) tL.dflt).1) (8 : Int) ∧ (((List.getD allOps (Int.toNat ((List.getD p (Int.toNat i_1) tL.dflt).1)) tOpn.dflt).2.1).1 (a_2, 0, (List.getD p (Int.toNat i_1) tL.dflt).2.2.1, ()) ∧ (idx ((if writes (List.getD p (Int.toNat i_1) tL.dflt) then (List.getD p (Int.toNat i_1) tL.dflt).2.1 else 0)) (4 : Int) ∧ (inI (i_1 + (1 : Int)) ∧ Λ1 (i_1 + (1 : Int)) (List.set now_1 (Int.toNat ((if writes (List.getD p (Int.toNat i_1) tL.dflt) then (List.getD p (Int.toNat i_1) tL.dflt).2.1 else 0))) (max (-999 : Int) (min (999 : Int) ((((List.getD allOps (Int.toNat ((List.getD p (Int.toNat i_1) tL.dflt).1)) tOpn.dflt).2.1).2 (a_2, 0, (List.getD p (Int.toNat i_1) tL.dflt).2.2.1, ())).1)))) (out_1 ++ [(i_1, now_1, ())]))))))
theorem cRun0_law (h : ∀ (p : (List Lin)) (in_ : (List Int)) (forced : (T.fn (.cons .int .nil) (.cons .int (.cons .bool .nil))).den), cRun0.A.wf (p, in_, forced, ()) → (validP p = 0 ∧ validS in_ = true ∧ ∀ i', forced.1 (i', ())) → ∀ (Λ1 : Int → (List Int) → (List Vis) → Prop) (Λ2 : Int → (List Int) → (List Vis) → Int → Prop), (∀ (i_1 : Int) (now_1 : (List Int)) (out_1 : (List Vis)), cRun0_1 Λ1 Λ2 p in_ forced (visits p (frcOf forced.2) in_) (endS p (frcOf forced.2) in_) i_1 now_1 out_1 → Λ1 i_1 now_1 out_1) → (∀ (i_1 : Int) (now_1 : (List Int)) (out_1 : (List Vis)) (a_2 : Int), cRun0_2 Λ1 Λ2 p in_ forced (visits p (frcOf forced.2) in_) (endS p (frcOf forced.2) in_) i_1 now_1 out_1 a_2 → Λ2 i_1 now_1 out_1 a_2) → cRun0_0 Λ1 Λ2 p in_ forced (visits p (frcOf forced.2) in_) (endS p (frcOf forced.2) in_)) : ConOK Go.Proofs.Try.prog 24 cRun0 := by
  refine lawL (Γ := [(39, cOperations), (23, cWrites1)]) (Θ := Th) (n := 107) [([1, 1, 1, 1, 1, 0, 1, 0], ⟨[(0, false), (2, false), (7, true), (8, true), (9, true), (10, true), (11, true)], [(7, true), (8, true), (9, true), (10, true)]⟩), ([1, 1, 1, 1, 1, 0, 1, 0, 0, 1, 0, 0, 1, 1, 1, 1, 1, 1, 0, 1, 0, 1, 2], ⟨[(0, false), (2, false), (7, true), (8, true), (9, true), (10, true), (11, true), (12, true), (13, true), (17, true), (18, true)], [(7, true), (8, true), (9, true), (10, true), (12, true)]⟩)] ⟨cOperations_ok, cWrites1_ok, trivial⟩ (by kernel_rfl) th_ok mix_ok Go.Proofs.Try.func24 (by kernel_rfl) ?_
  intro x hw hp Λ hC
  have h0 := h x.1 x.2.1 x.2.2.1 hw hp (fun i_1 now_1 out_1 => Λ [1, 1, 1, 1, 1, 0, 1, 0] ([(0, .d false (.sl tL) x.1), (2, .d false (.fn (.cons .int .nil) (.cons .int (.cons .bool .nil))) x.2.2.1), (7, .ptr 7 0 []), (8, .ptr 8 0 []), (9, .ptr 9 0 []), (10, .own 10 0), (11, .d true .int i_1)], [(7, .box true (.arr 4 .int) (List.replicate 4 0)), (8, .box true (.arr 4 .int) now_1), (9, .box true (.arr 8 tOpn) allOps), (10, .sl true tVis out_1)])) (fun i_1 now_1 out_1 a_2 => Λ [1, 1, 1, 1, 1, 0, 1, 0, 0, 1, 0, 0, 1, 1, 1, 1, 1, 1, 0, 1, 0, 1, 2] ([(0, .d false (.sl tL) x.1), (2, .d false (.fn (.cons .int .nil) (.cons .int (.cons .bool .nil))) x.2.2.1), (7, .ptr 7 0 []), (8, .ptr 8 0 []), (9, .ptr 9 0 []), (10, .own 10 0), (11, .d true .int i_1), (12, .ptr 12 0 []), (13, .d true .int ((if writes (List.getD x.1 (Int.toNat i_1) tL.dflt) then (List.getD x.1 (Int.toNat i_1) tL.dflt).2.1 else 0))), (17, .d true .int a_2), (18, .d true .int 0)], [(7, .box true (.arr 4 .int) (List.replicate 4 0)), (8, .box true (.arr 4 .int) now_1), (9, .box true (.arr 8 tOpn) allOps), (10, .sl true tVis (out_1 ++ [(i_1, now_1, ())])), (12, .box true tL (List.getD x.1 (Int.toNat i_1) tL.dflt))])) (fun i_1 now_1 out_1 hb => hC [1, 1, 1, 1, 1, 0, 1, 0] ([(0, .d false (.sl tL) x.1), (2, .d false (.fn (.cons .int .nil) (.cons .int (.cons .bool .nil))) x.2.2.1), (7, .ptr 7 0 []), (8, .ptr 8 0 []), (9, .ptr 9 0 []), (10, .own 10 0), (11, .d true .int i_1)], [(7, .box true (.arr 4 .int) (List.replicate 4 0)), (8, .box true (.arr 4 .int) now_1), (9, .box true (.arr 8 tOpn) allOps), (10, .sl true tVis out_1)]) (Eq.mpr (by kernel_rfl) hb)) (fun i_1 now_1 out_1 a_2 hb => hC [1, 1, 1, 1, 1, 0, 1, 0, 0, 1, 0, 0, 1, 1, 1, 1, 1, 1, 0, 1, 0, 1, 2] ([(0, .d false (.sl tL) x.1), (2, .d false (.fn (.cons .int .nil) (.cons .int (.cons .bool .nil))) x.2.2.1), (7, .ptr 7 0 []), (8, .ptr 8 0 []), (9, .ptr 9 0 []), (10, .own 10 0), (11, .d true .int i_1), (12, .ptr 12 0 []), (13, .d true .int ((if writes (List.getD x.1 (Int.toNat i_1) tL.dflt) then (List.getD x.1 (Int.toNat i_1) tL.dflt).2.1 else 0))), (17, .d true .int a_2), (18, .d true .int 0)], [(7, .box true (.arr 4 .int) (List.replicate 4 0)), (8, .box true (.arr 4 .int) now_1), (9, .box true (.arr 8 tOpn) allOps), (10, .sl true tVis (out_1 ++ [(i_1, now_1, ())])), (12, .box true tL (List.getD x.1 (Int.toNat i_1) tL.dflt))]) (Eq.mpr (by kernel_rfl) hb))
  exact Eq.mpr (by kernel_rfl) h0
theorem cRun0_ok : ConOK Go.Proofs.Try.prog 24 cRun0 := by
  refine cRun0_law ?_
  intro p in_ forced hw hp Λ1 Λ2 h1 h2
  unfold cRun0_0
  obtain ⟨p1, p2, p3⟩ := hp
  obtain ⟨h8, hall⟩ := validP_ok p1
  have l4 := validS_len p2
  have key : ∀ (f i : Nat) (s : List Int) (out : List Vst), validS s = true → p.length < i + f → out.length ≤ i → visits p (frcOf forced.2) in_ = out ++ (runF p (frcOf forced.2) f i s).1 → endS p (frcOf forced.2) in_ = (runF p (frcOf forced.2) f i s).2 → Λ1 (i : Int) s out := by
    intro f
    induction f with
    | zero =>
      intro i s out hs hf ho e1 e2
      apply h1; unfold cRun0_1; rw [if_neg (by simp; omega)]
      exact ⟨e2.symm, by rw [e1]; simp [runF]⟩
    | succ f ih =>
      intro i s out hs hf ho e1 e2
      rw [runF] at e1 e2
      by_cases hi : i < p.length
      · rw [if_pos hi] at e1 e2
        have hl := validLine_at hall hi
        have hgt := stepTo_gt (List.getD p i tL.dflt) i s
        have nx := ih (stepTo (List.getD p i tL.dflt) i s) (stepS (frcOf forced.2) (List.getD p i tL.dflt) i s) (out ++ [((i : Int), s, ())]) (stepS_ok _ _ i hs) (by omega) (by rw [List.length_append]; simp only [List.length_cons, List.length_nil]; omega) (by rw [e1]; simp) e2
        have l4s := validS_len hs
        have J : ∀ a2, writes (List.getD p i tL.dflt) = true → (forced.2 ((i : Int), ())).2.1 = false → a2 = (if (List.getD p i tL.dflt).1 = 1 then 0 else Rg s (List.getD p i tL.dflt).2.2.1) → Λ2 i s out a2 := by
          intro a2 hw hfr ha
          have efr : frcOf forced.2 (i : Int) = none := by unfold frcOf; rw [if_neg (by rw [hfr]; simp)]
          apply h2; unfold cRun0_2; rw [Int.toNat_natCast]
          unfold stepS stepTo wnum at nx
          rw [efr] at nx
          generalize List.getD p i tL.dflt = l at *
          have hr := line_regs hl
          have hw2 : 1 ≤ l.1 ∧ l.1 ≤ 6 := by unfold writes at hw; simpa using hw
          rw [if_neg (by rintro ⟨h, _⟩; omega), if_pos hw] at nx
          have it := hr.2.2.1 hw2
          rw [if_pos hw]
          obtain ⟨op, t, x, y, ⟨⟩⟩ := l
          have I8 : idx op (8 : Int) := ⟨by dsimp only at hw2; omega, by dsimp only at hw2; omega⟩
          have I4 : idx t (4 : Int) := ⟨by dsimp only at it; omega, by dsimp only at it; omega⟩
          have hn : inI ((i : Int) + 1) := inI_succ hi (by omega)
          have c : op = 1 ∨ op = 2 ∨ op = 3 ∨ op = 4 ∨ op = 5 ∨ op = 6 := by dsimp only at hw2; omega
          rcases c with rfl | rfl | rfl | rfl | rfl | rfl
          · exact ⟨I8, I8, trivial, I4, hn, nx⟩
          · rw [if_neg (by simp)] at ha
            subst ha
            exact ⟨I8, I8, trivial, I4, hn, nx⟩
          all_goals
            rw [if_neg (by simp)] at ha
            subst ha
            have iy := hr.2.1 (by dsimp only; omega)
            dsimp only at iy
            have gx := validS_get hs x
            have gy := validS_get hs y
            have Iy : idx y (4 : Int) := ⟨iy.1, by omega⟩
            first
              | exact ⟨I8, Iy, I8, trivial, I4, hn, nx⟩
              | exact ⟨I8, Iy, I8, (by show inI (Rg s x + Rg s y); unfold inI; omega), I4, hn, nx⟩
              | exact ⟨I8, Iy, I8, (by show inI (Rg s x - Rg s y); unfold inI; omega), I4, hn, nx⟩
        apply h1; unfold cRun0_1; rw [if_pos (by simpa using hi), Int.toNat_natCast]
        have hr := line_regs hl
        have hn : inI ((i : Int) + 1) := inI_succ hi (by omega)
        refine ⟨idx_nat hi, by simp only [List.length_cons, List.length_nil]; omega, ?_⟩
        unfold stepS stepTo wnum at nx
        generalize List.getD p i tL.dflt = l at *
        by_cases h7 : l.1 = 7
        · rw [if_pos (by simpa using h7)]
          have ix := hr.1 (by omega)
          have iy := hr.2.1 (by omega)
          have it := hr.2.2.2.1 h7
          have hw : writes l = false := by unfold writes; simp only [decide_eq_false_iff_not]; omega
          rw [if_neg (show ¬ writes l = true by rw [hw]; simp)] at nx
          refine ⟨⟨ix.1, by omega⟩, ⟨iy.1, by omega⟩, ?_⟩
          by_cases hc : Rg s l.2.2.1 < Rg s l.2.2.2.1
          · rw [if_pos ⟨h7, hc⟩] at nx
            rw [if_pos (by unfold Rg at hc; simpa using hc)]
            refine ⟨by unfold inI; omega, by unfold inI; omega, ?_⟩
            rw [show ((i : Int) + l.2.1 + 1) = ((i + 1 + l.2.1.toNat : Nat) : Int) by omega]
            exact nx
          · rw [if_neg (by rintro ⟨_, h⟩; exact hc h)] at nx
            rw [if_neg (by unfold Rg at hc; simpa using hc)]
            exact ⟨hn, nx⟩
        · rw [if_neg (by simpa using h7)]
          rw [if_neg (by rintro ⟨h, _⟩; exact h7 h)] at nx
          refine ⟨trivial, ?_⟩
          cases hw : writes l
          · rw [hw] at nx
            rw [if_pos (by rfl)]
            exact ⟨hn, nx⟩
          · rw [if_neg (by simp)]
            have hw2 : 1 ≤ l.1 ∧ l.1 ≤ 6 := by unfold writes at hw; simpa using hw
            have it := hr.2.2.1 hw2
            refine ⟨p3 _, ?_⟩
            cases hfr : (forced.2 ((i : Int), ())).2.1
            · rw [if_pos (by rfl)]
              refine ⟨⟨by omega, by omega⟩, ?_⟩
              have J' := fun a2 => J a2 hw hfr
              obtain ⟨op, t, x, y, ⟨⟩⟩ := l
              have c : op = 1 ∨ op = 2 ∨ op = 3 ∨ op = 4 ∨ op = 5 ∨ op = 6 := by dsimp only at hw2; omega
              rcases c with rfl | rfl | rfl | rfl | rfl | rfl
              · exact J' 0 rfl
              all_goals
                have ix := hr.1 (by dsimp only; omega)
                dsimp only at ix
                exact ⟨⟨ix.1, by dsimp only; omega⟩, J' _ rfl⟩
            · rw [if_neg (by simp)]
              have efr : frcOf forced.2 (i : Int) = some (forced.2 ((i : Int), ())).1 := by unfold frcOf; rw [if_pos hfr]
              rw [efr, if_pos hw] at nx
              simp only [eq_self, if_true]
              exact ⟨⟨it.1, by omega⟩, hn, nx⟩
      · rw [if_neg hi] at e1 e2
        apply h1; unfold cRun0_1; rw [if_neg (by simpa using hi)]
        exact ⟨e2.symm, by rw [e1]; simp⟩
  refine ⟨trivial, trivial, ?_⟩
  show Λ1 0 (List.take 4 in_ ++ List.drop in_.length (List.replicate 4 0)) []
  rw [List.take_of_length_le (by omega), List.drop_of_length_le (by rw [List.length_replicate]; omega), List.append_nil]
  exact key (p.length + 1) 0 in_ [] p2 (by omega) (Nat.zero_le _) rfl rfl
abbrev cFree : Con := { A := (.cons .int .nil), R := (.cons .int (.cons .bool .nil)), pre := fun x => True, F := fun x => (0, false, ()) }
def cFree_0  (a0 : Int) (y0 : Int) (y1 : Bool) : Prop :=
  (0 : Int) = y0 ∧ false = y1 ∧ True
theorem cFree_law (h : ∀ (a0 : Int), cFree.A.wf (a0, ()) → cFree_0  a0 0 false) : ConOK Go.Proofs.Try.prog 28 cFree := by
  refine lawL (Γ := []) (Θ := Th) (n := 4) [] trivial (by kernel_rfl) th_ok mix_ok Go.Proofs.Try.func28 (by kernel_rfl) ?_
  intro x hw hp Λ hC
  have h0 := h x.1 hw  
  exact Eq.mpr (by kernel_rfl) h0
theorem cFree_ok : ConOK Go.Proofs.Try.prog 28 cFree := by
  refine cFree_law ?_
  intro a0 hw
  unfold cFree_0
  exact ⟨rfl, rfl, trivial⟩
theorem frc_free : frcOf (fun (x : (Int × Unit)) => (0, false, ())) = noFrc := rfl

abbrev cRun : Con := { A := (.cons (.sl tL) (.cons (.sl .int) .nil)), R := (.cons (.osl .int) (.cons .int .nil)), pre := fun x => True, F := fun x => ((if err1 x.1 x.2.1 = 0 then runS x.1 x.2.1 else []), err1 x.1 x.2.1, ()) }
def cRun_0  (p : (List Lin)) (in_ : (List Int)) (y0 : (List Int)) (y1 : Int) : Prop :=
  True ∧ (if (((if validP p = 0 then argErr (validS in_) else validP p)) != (0 : Int)) = true then (((if validP p = 0 then argErr (validS in_) else validP p)) = y1 ∧ ([] : List Int) = y0) else ((validP p = 0 ∧ validS in_ = true ∧ ∀ i', (fun (xx : (Int × Unit)) => True, fun (xx : (Int × Unit)) => (0, false, ())).1 (i', ())) ∧ (True ∧ ((0 : Int) = y1 ∧ (endS p (frcOf (fun (xx : (Int × Unit)) => True, fun (xx : (Int × Unit)) => (0, false, ())).2) in_) = y0))))
theorem cRun_law (h : ∀ (p : (List Lin)) (in_ : (List Int)), cRun.A.wf (p, in_, ()) → cRun_0  p in_ (if err1 p in_ = 0 then runS p in_ else []) (err1 p in_)) : ConOK Go.Proofs.Try.prog 8 cRun := by
  refine lawL (Γ := [(17, cCheck1), (28, cFree), (24, cRun0)]) (Θ := Th) (n := 22) [] ⟨cCheck1_ok, cFree_ok, cRun0_ok, trivial⟩ (by kernel_rfl) th_ok mix_ok Go.Proofs.Try.func8 (by kernel_rfl) ?_
  intro x hw hp Λ hC
  have h0 := h x.1 x.2.1 hw  
  exact Eq.mpr (by kernel_rfl) h0
theorem cRun_ok : ConOK Go.Proofs.Try.prog 8 cRun := by
  refine cRun_law ?_
  intro p in_ hw
  unfold cRun_0
  refine ⟨trivial, ?_⟩
  show if (err1 p in_ != 0) = true then _ else _
  by_cases h : err1 p in_ = 0
  · rw [if_neg (by simp [h]), if_pos h, h]
    have := err1_ok h
    exact ⟨⟨this.1, this.2, fun _ => trivial⟩, trivial, rfl, rfl⟩
  · rw [if_pos (by simpa using h), if_neg h]
    exact ⟨rfl, rfl⟩
abbrev cDone : Con := { A := (.cons (.sl tL) (.cons (.sl .int) .nil)), R := (.cons (.sl .int) (.cons .int .nil)), pre := fun x => True, F := fun x => ((if err1 x.1 x.2.1 = 0 then doneS x.1 x.2.1 else []), err1 x.1 x.2.1, ()) }
def cDone_0 (Λ1 : Int → (List Int) → Prop) (p : (List Lin)) (in_ : (List Int)) (y0 : (List Int)) (y1 : Int) : Prop :=
  True ∧ (if (((if validP p = 0 then argErr (validS in_) else validP p)) != (0 : Int)) = true then (([] : List Int) = y0 ∧ ((if validP p = 0 then argErr (validS in_) else validP p)) = y1 ∧ True) else ((validP p = 0 ∧ validS in_ = true ∧ ∀ i', (fun (xx : (Int × Unit)) => True, fun (xx : (Int × Unit)) => (0, false, ())).1 (i', ())) ∧ Λ1 (0 : Int) ([] : List Int)))
def cDone_1 (Λ1 : Int → (List Int) → Prop) (p : (List Lin)) (in_ : (List Int)) (y0 : (List Int)) (y1 : Int)  (t26_1 : Int) (out_1 : (List Int)) : Prop :=
  if (decide (t26_1 < (List.length (visits p (frcOf (fun (xx : (Int × Unit)) => True, fun (xx : (Int × Unit)) => (0, false, ())).2) in_) : Int))) = true then (idx t26_1 (List.length (visits p (frcOf (fun (xx : (Int × Unit)) => True, fun (xx : (Int × Unit)) => (0, false, ())).2) in_) : Int) ∧ (List.length out_1 + List.length [(List.getD (visits p (frcOf (fun (xx : (Int × Unit)) => True, fun (xx : (Int × Unit)) => (0, false, ())).2) in_) (Int.toNat t26_1) tVis.dflt).1] ≤ 4294967296 ∧ (inI (t26_1 + (1 : Int)) ∧ Λ1 (t26_1 + (1 : Int)) (out_1 ++ [(List.getD (visits p (frcOf (fun (xx : (Int × Unit)) => True, fun (xx : (Int × Unit)) => (0, false, ())).2) in_) (Int.toNat t26_1) tVis.dflt).1])))) else (out_1 = y0 ∧ (0 : Int) = y1 ∧ True)
theorem cDone_law (h : ∀ (p : (List Lin)) (in_ : (List Int)), cDone.A.wf (p, in_, ()) → ∀ (Λ1 : Int → (List Int) → Prop), (∀ (t26_1 : Int) (out_1 : (List Int)), cDone_1 Λ1 p in_ (if err1 p in_ = 0 then doneS p in_ else []) (err1 p in_) t26_1 out_1 → Λ1 t26_1 out_1) → cDone_0 Λ1 p in_ (if err1 p in_ = 0 then doneS p in_ else []) (err1 p in_)) : ConOK Go.Proofs.Try.prog 9 cDone := by
  refine lawL (Γ := [(17, cCheck1), (28, cFree), (24, cRun0)]) (Θ := Th) (n := 37) [([1, 1, 1, 1, 0, 1, 0], ⟨[(9, true), (24, true), (25, true), (26, true)], [(9, true), (21, true)]⟩)] ⟨cCheck1_ok, cFree_ok, cRun0_ok, trivial⟩ (by kernel_rfl) th_ok mix_ok Go.Proofs.Try.func9 (by kernel_rfl) ?_
  intro x hw hp Λ hC
  have h0 := h x.1 x.2.1 hw (fun t26_1 out_1 => Λ [1, 1, 1, 1, 0, 1, 0] ([(9, .own 9 0), (24, .own 21 0), (25, .d true .int (List.length (visits x.1 (frcOf (fun (xx : (Int × Unit)) => True, fun (xx : (Int × Unit)) => (0, false, ())).2) x.2.1) : Int)), (26, .d true .int t26_1)], [(9, .sl true .int out_1), (21, .sl true tVis (visits x.1 (frcOf (fun (xx : (Int × Unit)) => True, fun (xx : (Int × Unit)) => (0, false, ())).2) x.2.1))])) (fun t26_1 out_1 hb => hC [1, 1, 1, 1, 0, 1, 0] ([(9, .own 9 0), (24, .own 21 0), (25, .d true .int (List.length (visits x.1 (frcOf (fun (xx : (Int × Unit)) => True, fun (xx : (Int × Unit)) => (0, false, ())).2) x.2.1) : Int)), (26, .d true .int t26_1)], [(9, .sl true .int out_1), (21, .sl true tVis (visits x.1 (frcOf (fun (xx : (Int × Unit)) => True, fun (xx : (Int × Unit)) => (0, false, ())).2) x.2.1))]) (Eq.mpr (by kernel_rfl) hb))
  exact Eq.mpr (by kernel_rfl) h0
theorem cDone_ok : ConOK Go.Proofs.Try.prog 9 cDone := by
  refine cDone_law ?_
  intro p in_ hw Λ1 h1
  unfold cDone_0
  refine ⟨trivial, ?_⟩
  show if (err1 p in_ != 0) = true then _ else _
  by_cases h : err1 p in_ = 0
  · rw [if_neg (by simp [h])]
    have g := err1_ok h
    refine ⟨⟨g.1, g.2, fun _ => trivial⟩, ?_⟩
    have h8 := (validP_ok g.1).1
    have hl := visits_len p noFrc in_
    refine upto (n := (visits p noFrc in_).length) (Q := fun i => Λ1 (i : Int) ((doneS p in_).take i)) ?_ ?_ 0 (Nat.zero_le _)
    · apply h1; unfold cDone_1
      show if (decide (((visits p noFrc in_).length : Int) < ((visits p noFrc in_).length : Int))) = true then _ else _
      rw [if_neg (by simp), if_pos h, List.take_of_length_le (by unfold doneS; simp)]
      exact ⟨rfl, h.symm, trivial⟩
    · intro i hi ih
      apply h1; unfold cDone_1
      show if (decide ((i : Int) < ((visits p noFrc in_).length : Int))) = true then _ else _
      rw [if_pos (by simpa using hi), Int.toNat_natCast]
      refine ⟨idx_nat hi, ?_, inI_succ hi (by omega), ?_⟩
      · simp only [doneS, List.length_take, List.length_map, List.length_cons, List.length_nil]; omega
      · rw [take_snoc 0 (by unfold doneS; simpa using hi)] at ih
        have e : (doneS p in_).getD i 0 = (List.getD (visits p noFrc in_) i tVis.dflt).1 := by unfold doneS; simp [List.getD_eq_getElem?_getD, hi]
        rw [e] at ih
        exact ih
  · rw [if_pos (by simpa using h), if_neg h]
    exact ⟨rfl, rfl, trivial⟩
end Go.Tk
