import Derived.Test.YtolbkaphghjeeaaC2u
set_option linter.unusedSimpArgs false
set_option linter.unusedVariables false
namespace Go.Tk
open Go Go.RowKit

abbrev cCheckBoxes : Con := { A := (.cons tCt .nil), R := (.cons .bool .nil), pre := fun x => True, F := fun x => (true, ()) }
def cCheckBoxes_0  (c : Ctr) (y0 : Bool) : Prop :=
  True ∧ (if (decide (100 < c.1.length ∨ 100 < c.2.1.length)) = true then (True ∧ (true = y0 ∧ True)) else (True ∧ (True ∧ (True ∧ (True ∧ (if ((validC c) == (validC c)) = true then (True ∧ (if (bif true then (((if validC c = 0 then sizeC c else 0)) == ((if validC c = 0 then sizeC c else 0))) else false) = true then (True ∧ (if (bif true then ((validC c) == (validC c)) else false) = true then (True ∧ (True ∧ ((bif true then true else false) = y0 ∧ True))) else (false = false ∧ (false = y0 ∧ True)))) else (false = false ∧ (false = false ∧ (false = y0 ∧ True))))) else (false = false ∧ (false = false ∧ (false = false ∧ (false = y0 ∧ True))))))))))
theorem cCheckBoxes_law (h : ∀ (c : Ctr), cCheckBoxes.A.wf (c, ()) → cCheckBoxes_0  c true) : ConOK Go.Proofs.Try.prog 4 cCheckBoxes := by
  refine lawL (Γ := [(23, cBox2), (24, cBoxR2e), (18, cKnown2), (25, cValC), (26, cValCR), (22, cWide)]) (Θ := Th) (n := 38) [] ⟨cBox2_ok, cBoxR2e_ok, cKnown2_ok, cValC_ok, cValCR_ok, cWide_ok, trivial⟩ (by kernel_rfl) th_ok mix_ok Go.Proofs.Try.func4 (by kernel_rfl) ?_
  intro x hw hp Λ hC
  have h0 := h x.1 hw  
  exact Eq.mpr (by kernel_rfl) h0
theorem cCheckBoxes_ok : ConOK Go.Proofs.Try.prog 4 cCheckBoxes := by
  refine cCheckBoxes_law ?_
  intro c hw
  unfold cCheckBoxes_0
  by_cases c1 : 100 < c.1.length ∨ 100 < c.2.1.length
  · simp [c1]
  · simp [c1]
abbrev cCheckPasses : Con := { A := (.cons (.sl tL) (.cons tTs .nil)), R := (.cons .bool .nil), pre := fun x => True, F := fun x => (true, ()) }
def cCheckPasses_0  (p : (List Lin)) (t : Tst) (y0 : Bool) : Prop :=
  True ∧ (if (decide (100 < p.length)) = true then (true = true ∧ (True ∧ (true = y0 ∧ True))) else (True ∧ (True ∧ (if (bif false then true else (decide (100 < t.1.length))) = true then (True ∧ (true = y0 ∧ True)) else (True ∧ (True ∧ (if (((errT [p] [t] == 0 && passT p t)) == ((errT [p] [t] == 0 && passT p t))) = true then (True ∧ (if (bif true then ((errT [p] [t]) == (errT [p] [t])) else false) = true then (True ∧ (True ∧ ((bif true then true else false) = y0 ∧ True))) else (false = false ∧ (false = y0 ∧ True)))) else (false = false ∧ (false = false ∧ (false = y0 ∧ True))))))))))
theorem cCheckPasses_law (h : ∀ (p : (List Lin)) (t : Tst), cCheckPasses.A.wf (p, t, ()) → cCheckPasses_0  p t true) : ConOK Go.Proofs.Try.prog 5 cCheckPasses := by
  refine lawL (Γ := [(18, cKnown2), (27, cLarge2), (16, cLongL), (28, cPasses), (29, cPassesR)]) (Θ := Th) (n := 40) [] ⟨cKnown2_ok, cLarge2_ok, cLongL_ok, cPasses_ok, cPassesR_ok, trivial⟩ (by kernel_rfl) th_ok mix_ok Go.Proofs.Try.func5 (by kernel_rfl) ?_
  intro x hw hp Λ hC
  have h0 := h x.1 x.2.1 hw  
  exact Eq.mpr (by kernel_rfl) h0
theorem cCheckPasses_ok : ConOK Go.Proofs.Try.prog 5 cCheckPasses := by
  refine cCheckPasses_law ?_
  intro p t hw
  unfold cCheckPasses_0
  by_cases c1 : 100 < p.length
  · simp [c1]
  by_cases c2 : 100 < t.1.length
  · simp [c1, c2]
  simp [c1, c2]
abbrev cCheckPassing : Con := { A := (.cons (.sl tL) (.cons (.sl tTs) .nil)), R := (.cons .bool .nil), pre := fun x => True, F := fun x => (true, ()) }
def cCheckPassing_0  (p : (List Lin)) (l : (List Tst)) (y0 : Bool) : Prop :=
  True ∧ (if (decide (100 < p.length)) = true then (true = true ∧ (True ∧ (true = y0 ∧ True))) else (True ∧ (True ∧ (if (bif false then true else (decide (l.length > 50) || l.any (fun t' => decide (100 < t'.1.length)))) = true then (True ∧ (true = y0 ∧ True)) else (True ∧ (True ∧ (True ∧ (True ∧ (True ∧ (True ∧ (if ((validT l) != (validT l)) = true then (true = true ∧ (true = true ∧ (true = true ∧ (true = true ∧ (false = y0 ∧ True))))) else (((if errT [p] l = 0 then whereL (passT p) l else [])).length ≤ 1000000 ∧ (True ∧ (if (bif false then true else (!(decide (((if errT [p] l = 0 then whereL (passT p) l else [])) = ((if errT [p] l = 0 then whereL (passT p) l else [])))))) = true then (true = true ∧ (true = true ∧ (true = true ∧ (false = y0 ∧ True)))) else (True ∧ (if (bif false then true else ((errT [p] l) != (errT [p] l))) = true then (true = true ∧ (true = true ∧ (false = y0 ∧ True))) else (((if errT [p] l = 0 then failL p l else [])).length ≤ 1000000 ∧ (True ∧ (if (bif false then true else (!(decide (((if errT [p] l = 0 then failL p l else [])) = ((if errT [p] l = 0 then failL p l else [])))))) = true then (true = true ∧ (false = y0 ∧ True)) else (True ∧ (if (bif false then true else ((errT [p] l) != (errT [p] l))) = true then (false = y0 ∧ True) else (if ((errT [p] l) != (0 : Int)) = true then (true = true ∧ (True ∧ (True ∧ ((bif true then true else false) = y0 ∧ True)))) else (inI ((List.length ((if errT [p] l = 0 then whereL (passT p) l else [])) : Int) + (List.length ((if errT [p] l = 0 then failL p l else [])) : Int)) ∧ (True ∧ (if (bif false then true else (((List.length ((if errT [p] l = 0 then whereL (passT p) l else [])) : Int) + (List.length ((if errT [p] l = 0 then failL p l else [])) : Int)) == (List.length l : Int))) = true then (True ∧ (True ∧ ((bif true then true else false) = y0 ∧ True))) else (false = false ∧ (false = y0 ∧ True)))))))))))))))))))))))))))
theorem cCheckPassing_law (h : ∀ (p : (List Lin)) (l : (List Tst)), cCheckPassing.A.wf (p, l, ()) → cCheckPassing_0  p l true) : ConOK Go.Proofs.Try.prog 7 cCheckPassing := by
  refine lawL (Γ := [(35, cFailing), (36, cFailingR), (18, cKnown2), (16, cLongL), (17, cMany), (33, cPassing), (34, cPassingR), (32, cSameIntsR), (37, cValT), (38, cValTR)]) (Θ := Th) (n := 86) [] ⟨cFailing_ok, cFailingR_ok, cKnown2_ok, cLongL_ok, cMany_ok, cPassing_ok, cPassingR_ok, cSameIntsR_ok, cValT_ok, cValTR_ok, trivial⟩ (by kernel_rfl) th_ok mix_ok Go.Proofs.Try.func7 (by kernel_rfl) ?_
  intro x hw hp Λ hC
  have h0 := h x.1 x.2.1 hw  
  exact Eq.mpr (by kernel_rfl) h0
theorem cCheckPassing_ok : ConOK Go.Proofs.Try.prog 7 cCheckPassing := by
  refine cCheckPassing_law ?_
  intro p l hw
  unfold cCheckPassing_0
  by_cases c1 : 100 < p.length
  · simp [c1]
  cases c2 : (decide (l.length > 50) || l.any (fun t' => decide (100 < t'.1.length)))
  · have hl : l.length ≤ 50 := by
      rw [Bool.or_eq_false_iff, decide_eq_false_iff_not] at c2; omega
    have l1 : (whereL (passT p) l).length ≤ 1000000 := by have := whereL_len (passT p) l; omega
    have l2 : (failL p l).length ≤ 1000000 := by have := whereL_len (fun t => !passT p t) l; unfold failL; omega
    have hb := where_both (passT p) l
    have hb' : ((whereL (passT p) l).length : Int) + (failL p l).length = l.length := by unfold failL; omega
    have in1 : inI (((whereL (passT p) l).length : Int) + (failL p l).length) := by unfold inI; omega
    have in2 : inI (l.length : Int) := by unfold inI; omega
    by_cases e : errT [p] l = 0
    · simp [c1, c2, e, l1, l2, hb', in1, in2]
    · simp [c1, c2, e]
  · simp [c1, c2]
abbrev cCheckTells : Con := { A := (.cons (.sl tL) (.cons (.sl tL) (.cons (.sl tTs) .nil))), R := (.cons .bool .nil), pre := fun x => True, F := fun x => (true, ()) }
def cCheckTells_0  (p : (List Lin)) (q : (List Lin)) (l : (List Tst)) (y0 : Bool) : Prop :=
  True ∧ (if (decide (100 < p.length)) = true then (true = true ∧ (true = true ∧ (True ∧ (true = y0 ∧ True)))) else (True ∧ (True ∧ (if (bif false then true else (decide (100 < q.length))) = true then (true = true ∧ (True ∧ (true = y0 ∧ True))) else (True ∧ (True ∧ (if (bif false then true else (decide (l.length > 50) || l.any (fun t' => decide (100 < t'.1.length)))) = true then (True ∧ (true = y0 ∧ True)) else (True ∧ (True ∧ (((if errT [p, q] l = 0 then tellsT p q l else [])).length ≤ 1000000 ∧ (if (!(decide (((if errT [p, q] l = 0 then tellsT p q l else [])) = ((if errT [p, q] l = 0 then tellsT p q l else []))))) = true then (true = true ∧ (false = y0 ∧ True)) else (True ∧ (if (bif false then true else ((errT [p, q] l) != (errT [p, q] l))) = true then (false = y0 ∧ True) else (True ∧ (if ((errT [p, q] l) != (0 : Int)) = true then (true = true ∧ (True ∧ (True ∧ ((bif true then true else false) = y0 ∧ True)))) else (if ((errT [q, p] l) == (0 : Int)) = true then (((if errT [p, q] l = 0 then tellsT p q l else [])).length ≤ 1000000 ∧ (True ∧ (True ∧ (if (bif false then true else (bif true then (decide (((if errT [p, q] l = 0 then tellsT p q l else [])) = ((if errT [q, p] l = 0 then tellsT q p l else [])))) else false)) = true then (True ∧ (True ∧ ((bif true then true else false) = y0 ∧ True))) else (false = false ∧ (false = y0 ∧ True)))))) else (false = false ∧ (True ∧ (if (bif false then true else false) = true then (True ∧ (True ∧ ((bif true then true else false) = y0 ∧ True))) else (false = false ∧ (false = y0 ∧ True)))))))))))))))))))))
theorem cCheckTells_law (h : ∀ (p : (List Lin)) (q : (List Lin)) (l : (List Tst)), cCheckTells.A.wf (p, q, l, ()) → cCheckTells_0  p q l true) : ConOK Go.Proofs.Try.prog 6 cCheckTells := by
  refine lawL (Γ := [(18, cKnown2), (16, cLongL), (17, cMany), (32, cSameIntsR), (30, cTells), (31, cTellsR)]) (Θ := Th) (n := 68) [] ⟨cKnown2_ok, cLongL_ok, cMany_ok, cSameIntsR_ok, cTells_ok, cTellsR_ok, trivial⟩ (by kernel_rfl) th_ok mix_ok Go.Proofs.Try.func6 (by kernel_rfl) ?_
  intro x hw hp Λ hC
  have h0 := h x.1 x.2.1 x.2.2.1 hw  
  exact Eq.mpr (by kernel_rfl) h0
theorem cCheckTells_ok : ConOK Go.Proofs.Try.prog 6 cCheckTells := by
  refine cCheckTells_law ?_
  intro p q l hw
  unfold cCheckTells_0
  by_cases c1 : 100 < p.length
  · simp [c1]
  by_cases c1' : 100 < q.length
  · simp [c1, c1']
  cases c2 : (decide (l.length > 50) || l.any (fun t' => decide (100 < t'.1.length)))
  · have hl : l.length ≤ 50 := by
      rw [Bool.or_eq_false_iff, decide_eq_false_iff_not] at c2; omega
    have l1 : (tellsT p q l).length ≤ 1000000 := by have := whereL_len (fun t => endT p t != endT q t) l; unfold tellsT; omega
    by_cases e : errT [p, q] l = 0
    · have e2 : errT [q, p] l = 0 := by
        obtain ⟨h1, h2, h3⟩ := errT2_ok e
        rw [errT2_cases, errT_cases, if_pos h2, if_pos h1, h3]
      simp [c1, c1', c2, e, e2, l1, tells_comm]
    · simp [c1, c1', c2, e]
  · simp [c1, c1', c2]
theorem scoresT_le (p : List Lin) (l : List Tst) : ∀ i, i < (scoresT p l).length → ((scoresT p l).getD i tRa.dflt).1 ≤ ((scoresT p l).getD i tRa.dflt).2.1 := by
  intro i hi
  have hm : (scoresT p l).getD i tRa.dflt ∈ scoresT p l := mem_getD hi
  obtain ⟨k, _, e⟩ := List.mem_map.1 hm
  rw [← e]
  unfold scoreAt
  split
  · decide
  · rename_i h
    have bd := bad_good_bd p l (failL p l) k l.length
    have h1 := badTo_le p l (fun t => !passT p t) k l.length l.length (Nat.le_refl _)
    have h2 : 0 < (failL p l).length := List.length_pos_iff.2 h
    have h3 : badTo (tableT p l) (failL p l) k l.length ≤ (failL p l).length := h1
    exact ratioQ_le bd.1 (by omega) (by omega)

abbrev cCheckScores : Con := { A := (.cons (.sl tL) (.cons (.sl tTs) .nil)), R := (.cons .bool .nil), pre := fun x => True, F := fun x => (true, ()) }
def cCheckScores_0 (Λ1 : Int → Prop) (p : (List Lin)) (l : (List Tst)) (y0 : Bool) : Prop :=
  True ∧ (if (decide (100 < p.length)) = true then (true = true ∧ (True ∧ (true = y0 ∧ True))) else (True ∧ (True ∧ (if (bif false then true else (decide (l.length > 50) || l.any (fun t' => decide (100 < t'.1.length)))) = true then (True ∧ (true = y0 ∧ True)) else (True ∧ (True ∧ (((if errT [p] l = 0 then scoresT p l else [])).length ≤ 1000000 ∧ (if (!(decide (((if errT [p] l = 0 then scoresT p l else [])) = ((if errT [p] l = 0 then scoresT p l else []))))) = true then (true = true ∧ (false = y0 ∧ True)) else (True ∧ (if (bif false then true else ((errT [p] l) != (errT [p] l))) = true then (false = y0 ∧ True) else Λ1 (0 : Int)))))))))))
def cCheckScores_1 (Λ1 : Int → Prop) (p : (List Lin)) (l : (List Tst)) (y0 : Bool)  (i_1 : Int) : Prop :=
  if (decide (i_1 < (List.length ((if errT [p] l = 0 then scoresT p l else [])) : Int))) = true then (idx i_1 (List.length ((if errT [p] l = 0 then scoresT p l else [])) : Int) ∧ (idx i_1 (List.length ((if errT [p] l = 0 then scoresT p l else [])) : Int) ∧ (if (decide ((List.getD ((if errT [p] l = 0 then scoresT p l else [])) (Int.toNat i_1) tRa.dflt).1 > (List.getD ((if errT [p] l = 0 then scoresT p l else [])) (Int.toNat i_1) tRa.dflt).2.1)) = true then (false = y0 ∧ True) else (inI (i_1 + (1 : Int)) ∧ Λ1 (i_1 + (1 : Int)))))) else (True ∧ (true = y0 ∧ True))
theorem cCheckScores_law (h : ∀ (p : (List Lin)) (l : (List Tst)), cCheckScores.A.wf (p, l, ()) → ∀ (Λ1 : Int → Prop), (∀ (i_1 : Int), cCheckScores_1 Λ1 p l true i_1 → Λ1 i_1) → cCheckScores_0 Λ1 p l true) : ConOK Go.Proofs.Try.prog 3 cCheckScores := by
  refine lawL (Γ := [(18, cKnown2), (16, cLongL), (17, cMany), (21, cSameRats), (19, cScores), (20, cScoresR)]) (Θ := Th) (n := 56) [([1, 1, 1, 1, 1, 0, 1, 0], ⟨[(5, true), (9, true)], []⟩)] ⟨cKnown2_ok, cLongL_ok, cMany_ok, cSameRats_ok, cScores_ok, cScoresR_ok, trivial⟩ (by kernel_rfl) th_ok mix_ok Go.Proofs.Try.func3 (by kernel_rfl) ?_
  intro x hw hp Λ hC
  have h0 := h x.1 x.2.1 hw (fun i_1 => Λ [1, 1, 1, 1, 1, 0, 1, 0] ([(5, .d true (.sl tRa) ((if errT [x.1] x.2.1 = 0 then scoresT x.1 x.2.1 else []))), (9, .d true .int i_1)], [])) (fun i_1 hb => hC [1, 1, 1, 1, 1, 0, 1, 0] ([(5, .d true (.sl tRa) ((if errT [x.1] x.2.1 = 0 then scoresT x.1 x.2.1 else []))), (9, .d true .int i_1)], []) (Eq.mpr (by kernel_rfl) hb))
  exact Eq.mpr (by kernel_rfl) h0
theorem cCheckScores_ok : ConOK Go.Proofs.Try.prog 3 cCheckScores := by
  refine cCheckScores_law ?_
  intro p l hw Λ1 h1
  unfold cCheckScores_0
  by_cases c1 : 100 < p.length
  · simp [c1]
  cases c2 : (decide (l.length > 50) || l.any (fun t' => decide (100 < t'.1.length)))
  · have key : ∀ S : List Rtl, (if errT [p] l = 0 then scoresT p l else []) = S → S.length ≤ 1000000 ∧ Λ1 0 := by
      intro S hS
      have hle : S.length ≤ 100 ∧ ∀ i, i < S.length → (S.getD i tRa.dflt).1 ≤ (S.getD i tRa.dflt).2.1 := by
        rw [← hS]
        split
        · exact ⟨by unfold scoresT; simp; omega, scoresT_le p l⟩
        · exact ⟨by simp, fun i hi => by simp at hi⟩
      refine ⟨by omega, ?_⟩
      refine upto (n := S.length) (Q := fun i => Λ1 (i : Int)) ?_ ?_ 0 (Nat.zero_le _)
      · apply h1; unfold cCheckScores_1
        rw [hS, if_neg (by simp)]
        simp
      · intro i hi ih
        apply h1; unfold cCheckScores_1
        rw [hS, if_pos (by simpa using hi), Int.toNat_natCast]
        have := hle.2 i hi
        refine ⟨idx_nat hi, idx_nat hi, ?_⟩
        rw [if_neg (by show ¬ decide _ = true; rw [decide_eq_true_eq]; omega)]
        exact ⟨inI_succ hi (by omega), ih⟩
    obtain ⟨k1, k2⟩ := key _ rfl
    simp [c1, c2, k1, k2]
  · simp [c1, c2]
end Go.Tk
