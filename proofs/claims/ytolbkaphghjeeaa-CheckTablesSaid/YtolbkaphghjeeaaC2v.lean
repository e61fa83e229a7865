import Derived.Test.YtolbkaphghjeeaaC2u
set_option linter.unusedSimpArgs false
set_option linter.unusedVariables false
namespace Go.Tk
open Go Go.RowKit

abbrev cCovered : Con := { A := (.cons (.sl tL) (.cons (.sl tTs) .nil)), R := (.cons (.sl .int) (.cons .int .nil)), pre := fun x => True, F := fun x => ((if errT [x.1] x.2.1 = 0 then coverT x.1 x.2.1 else []), errT [x.1] x.2.1, ()) }
def cCovered_0 (Λ1 : Int → (List Int) → Prop) (p : (List Lin)) (l : (List Tst)) (y0 : (List Int)) (y1 : Int) : Prop :=
  True ∧ (if ((errT [p] l) != (0 : Int)) = true then (([] : List Int) = y0 ∧ (errT [p] l) = y1 ∧ True) else ((validP p = 0 ∧ validT l = 0) ∧ Λ1 (0 : Int) ([] : List Int)))
def cCovered_1 (Λ1 : Int → (List Int) → Prop) (p : (List Lin)) (l : (List Tst)) (y0 : (List Int)) (y1 : Int)  (t22_1 : Int) (out_1 : (List Int)) : Prop :=
  if (decide (t22_1 < (List.length p : Int))) = true then ((∀ r' ∈ (tableT p l), (fun (xx : ((List Int) × Unit)) => 0 ≤ t22_1 ∧ t22_1 < (xx.1.length : Int), fun (xx : ((List Int) × Unit)) => ((List.getD xx.1 (Int.toNat t22_1) 0 == 1), ())).1 (r', ())) ∧ (if ((tableT p l).any (fun r' => ((fun (xx : ((List Int) × Unit)) => 0 ≤ t22_1 ∧ t22_1 < (xx.1.length : Int), fun (xx : ((List Int) × Unit)) => ((List.getD xx.1 (Int.toNat t22_1) 0 == 1), ())).2 (r', ())).1)) = true then (List.length out_1 + List.length [t22_1] ≤ 4294967296 ∧ (inI (t22_1 + (1 : Int)) ∧ Λ1 (t22_1 + (1 : Int)) (out_1 ++ [t22_1]))) else (inI (t22_1 + (1 : Int)) ∧ Λ1 (t22_1 + (1 : Int)) out_1))) else (out_1 = y0 ∧ (0 : Int) = y1 ∧ True)
theorem cCovered_law (h : ∀ (p : (List Lin)) (l : (List Tst)), cCovered.A.wf (p, l, ()) → ∀ (Λ1 : Int → (List Int) → Prop), (∀ (t22_1 : Int) (out_1 : (List Int)), cCovered_1 Λ1 p l (if errT [p] l = 0 then coverT p l else []) (errT [p] l) t22_1 out_1 → Λ1 t22_1 out_1) → cCovered_0 Λ1 p l (if errT [p] l = 0 then coverT p l else []) (errT [p] l)) : ConOK Go.Proofs.Try.prog 41 cCovered := by
  refine lawL (Γ := [(86, cContLL), (87, cCovered1), (84, cTable0), (61, cTested)]) (Θ := Th) (n := 34) [([1, 1, 1, 1, 0, 1, 0], ⟨[(7, true), (8, true), (21, true), (22, true)], [(8, true), (19, true)]⟩)] ⟨cContLL_ok, cCovered1_ok, cTable0_ok, cTested_ok, trivial⟩ (by kernel_rfl) th_ok mix_ok Go.Proofs.Try.func41 (by kernel_rfl) ?_
  intro x hw hp Λ hC
  have h0 := h x.1 x.2.1 hw (fun t22_1 out_1 => Λ [1, 1, 1, 1, 0, 1, 0] ([(7, .own 19 0), (8, .own 8 0), (21, .d true .int (List.length x.1 : Int)), (22, .d true .int t22_1)], [(8, .sl true .int out_1), (19, .sl true (.sl .int) (tableT x.1 x.2.1))])) (fun t22_1 out_1 hb => hC [1, 1, 1, 1, 0, 1, 0] ([(7, .own 19 0), (8, .own 8 0), (21, .d true .int (List.length x.1 : Int)), (22, .d true .int t22_1)], [(8, .sl true .int out_1), (19, .sl true (.sl .int) (tableT x.1 x.2.1))]) (Eq.mpr (by kernel_rfl) hb))
  exact Eq.mpr (by kernel_rfl) h0
theorem cCovered_ok : ConOK Go.Proofs.Try.prog 41 cCovered := by
  refine cCovered_law ?_
  intro p l hw Λ1 h1
  unfold cCovered_0
  refine ⟨trivial, ?_⟩
  by_cases h : errT [p] l = 0
  · rw [if_neg (by simp [h])]
    obtain ⟨p1, p2⟩ := errT_ok h
    have hp8 := (validP_ok p1).1
    refine ⟨⟨p1, p2⟩, ?_⟩
    refine upto (n := p.length) (Q := fun i => Λ1 (i : Int) (covTo (tableT p l) i)) ?_ ?_ 0 (Nat.zero_le _)
    · apply h1; unfold cCovered_1; rw [if_neg (by simp), if_pos h]
      exact ⟨rfl, h.symm, trivial⟩
    · intro i hi ih
      apply h1; unfold cCovered_1; rw [if_pos (by simpa using hi)]
      refine ⟨fun r hr => ⟨by omega, by show (i : Int) < (r.length : Int); rw [table_row hr]; omega⟩, ?_⟩
      have hle := covTo_len (tableT p l) i
      rw [show covTo (tableT p l) (i + 1) = covTo (tableT p l) i ++ if ((tableT p l).any fun r => r.getD i 0 == 1) = true then [(i : Int)] else [] from rfl] at ih
      show if ((tableT p l).any fun r => r.getD i 0 == 1) = true then _ else _
      by_cases g : ((tableT p l).any fun r => r.getD i 0 == 1) = true
      · rw [if_pos g] at ih ⊢
        exact ⟨by simp only [List.length_cons, List.length_nil]; omega, inI_succ hi (by omega), ih⟩
      · rw [if_neg g, List.append_nil] at ih
        rw [if_neg g]
        exact ⟨inI_succ hi (by omega), ih⟩
  · rw [if_pos (by simpa using h), if_neg h]
    exact ⟨rfl, rfl, trivial⟩
abbrev cCoveredR : Con := { A := (.cons (.sl tL) (.cons (.sl tTs) .nil)), R := (.cons (.sl .int) (.cons .int .nil)), pre := fun x => True, F := fun x => ((if errT [x.1] x.2.1 = 0 then coverT x.1 x.2.1 else []), errT [x.1] x.2.1, ()) }
def cCoveredR_0 (Λ1 : Int → (List Int) → Prop) (Λ2 : Int → (List Int) → Bool → Int → Prop) (p : (List Lin)) (l : (List Tst)) (y0 : (List Int)) (y1 : Int) : Prop :=
  True ∧ (if ((errT [p] l) != (0 : Int)) = true then (([] : List Int) = y0 ∧ (errT [p] l) = y1 ∧ True) else Λ1 (0 : Int) ([] : List Int))
def cCoveredR_1 (Λ1 : Int → (List Int) → Prop) (Λ2 : Int → (List Int) → Bool → Int → Prop) (p : (List Lin)) (l : (List Tst)) (y0 : (List Int)) (y1 : Int)  (line_1 : Int) (out_1 : (List Int)) : Prop :=
  if (decide (line_1 < (List.length p : Int))) = true then Λ2 line_1 out_1 false (0 : Int) else (out_1 = y0 ∧ (0 : Int) = y1 ∧ True)
def cCoveredR_2 (Λ1 : Int → (List Int) → Prop) (Λ2 : Int → (List Int) → Bool → Int → Prop) (p : (List Lin)) (l : (List Tst)) (y0 : (List Int)) (y1 : Int) (line_1 : Int) (out_1 : (List Int)) (in_2 : Bool) (i_2 : Int) : Prop :=
  if (decide (i_2 < (List.length ((if errT [p] l = 0 then tableT p l else [])) : Int))) = true then (if in_2 = true then (true = true ∧ (inI (i_2 + (1 : Int)) ∧ Λ2 line_1 out_1 true (i_2 + (1 : Int)))) else (idx i_2 (List.length ((if errT [p] l = 0 then tableT p l else [])) : Int) ∧ (idx line_1 (List.length (List.getD ((if errT [p] l = 0 then tableT p l else [])) (Int.toNat i_2) ([] : List Int)) : Int) ∧ (True ∧ (inI (i_2 + (1 : Int)) ∧ Λ2 line_1 out_1 (bif false then true else ((List.getD (List.getD ((if errT [p] l = 0 then tableT p l else [])) (Int.toNat i_2) ([] : List Int)) (Int.toNat line_1) 0) == (1 : Int))) (i_2 + (1 : Int))))))) else (if in_2 = true then (List.length out_1 + List.length [line_1] ≤ 4294967296 ∧ (inI (line_1 + (1 : Int)) ∧ Λ1 (line_1 + (1 : Int)) (out_1 ++ [line_1]))) else (inI (line_1 + (1 : Int)) ∧ Λ1 (line_1 + (1 : Int)) out_1))
theorem cCoveredR_law (h : ∀ (p : (List Lin)) (l : (List Tst)), cCoveredR.A.wf (p, l, ()) → ∀ (Λ1 : Int → (List Int) → Prop) (Λ2 : Int → (List Int) → Bool → Int → Prop), (∀ (line_1 : Int) (out_1 : (List Int)), cCoveredR_1 Λ1 Λ2 p l (if errT [p] l = 0 then coverT p l else []) (errT [p] l) line_1 out_1 → Λ1 line_1 out_1) → (∀ (line_1 : Int) (out_1 : (List Int)) (in_2 : Bool) (i_2 : Int), cCoveredR_2 Λ1 Λ2 p l (if errT [p] l = 0 then coverT p l else []) (errT [p] l) line_1 out_1 in_2 i_2 → Λ2 line_1 out_1 in_2 i_2) → cCoveredR_0 Λ1 Λ2 p l (if errT [p] l = 0 then coverT p l else []) (errT [p] l)) : ConOK Go.Proofs.Try.prog 42 cCoveredR := by
  refine lawL (Γ := [(40, cTableR)]) (Θ := Th) (n := 50) [([1, 1, 1, 1, 0, 1, 0], ⟨[(0, false), (6, true), (8, true), (9, true)], [(8, true)]⟩), ([1, 1, 1, 1, 0, 1, 0, 0, 1, 0, 0, 1, 0, 1, 0], ⟨[(0, false), (6, true), (8, true), (9, true), (10, true), (11, true)], [(8, true)]⟩)] ⟨cTableR_ok, trivial⟩ (by kernel_rfl) th_ok mix_ok Go.Proofs.Try.func42 (by kernel_rfl) ?_
  intro x hw hp Λ hC
  have h0 := h x.1 x.2.1 hw (fun line_1 out_1 => Λ [1, 1, 1, 1, 0, 1, 0] ([(0, .d false (.sl tL) x.1), (6, .d true (.sl (.sl .int)) ((if errT [x.1] x.2.1 = 0 then tableT x.1 x.2.1 else []))), (8, .own 8 0), (9, .d true .int line_1)], [(8, .sl true .int out_1)])) (fun line_1 out_1 in_2 i_2 => Λ [1, 1, 1, 1, 0, 1, 0, 0, 1, 0, 0, 1, 0, 1, 0] ([(0, .d false (.sl tL) x.1), (6, .d true (.sl (.sl .int)) ((if errT [x.1] x.2.1 = 0 then tableT x.1 x.2.1 else []))), (8, .own 8 0), (9, .d true .int line_1), (10, .d true .bool in_2), (11, .d true .int i_2)], [(8, .sl true .int out_1)])) (fun line_1 out_1 hb => hC [1, 1, 1, 1, 0, 1, 0] ([(0, .d false (.sl tL) x.1), (6, .d true (.sl (.sl .int)) ((if errT [x.1] x.2.1 = 0 then tableT x.1 x.2.1 else []))), (8, .own 8 0), (9, .d true .int line_1)], [(8, .sl true .int out_1)]) (Eq.mpr (by kernel_rfl) hb)) (fun line_1 out_1 in_2 i_2 hb => hC [1, 1, 1, 1, 0, 1, 0, 0, 1, 0, 0, 1, 0, 1, 0] ([(0, .d false (.sl tL) x.1), (6, .d true (.sl (.sl .int)) ((if errT [x.1] x.2.1 = 0 then tableT x.1 x.2.1 else []))), (8, .own 8 0), (9, .d true .int line_1), (10, .d true .bool in_2), (11, .d true .int i_2)], [(8, .sl true .int out_1)]) (Eq.mpr (by kernel_rfl) hb))
  exact Eq.mpr (by kernel_rfl) h0
theorem cCoveredR_ok : ConOK Go.Proofs.Try.prog 42 cCoveredR := by
  refine cCoveredR_law ?_
  intro p l hw Λ1 Λ2 h1 h2
  unfold cCoveredR_0
  refine ⟨trivial, ?_⟩
  by_cases h : errT [p] l = 0
  · rw [if_neg (by simp [h])]
    obtain ⟨p1, p2⟩ := errT_ok h
    have hp8 := (validP_ok p1).1
    have hl8 := (validT_ok p2).1
    refine upto (n := p.length) (Q := fun i => Λ1 (i : Int) (covTo (tableT p l) i)) ?_ ?_ 0 (Nat.zero_le _)
    · apply h1; unfold cCoveredR_1; rw [if_neg (by simp), if_pos h]
      exact ⟨rfl, h.symm, trivial⟩
    · intro i hi ih
      apply h1; unfold cCoveredR_1; rw [if_pos (by simpa using hi)]
      have hle := covTo_len (tableT p l) i
      rw [show covTo (tableT p l) (i + 1) = covTo (tableT p l) i ++ if ((tableT p l).any fun r => r.getD i 0 == 1) = true then [(i : Int)] else [] from rfl] at ih
      have hlen : (tableT p l).length = l.length := by unfold tableT; simp
      refine upto (n := (tableT p l).length) (Q := fun j => Λ2 (i : Int) (covTo (tableT p l) i) (((tableT p l).take j).any fun r => r.getD i 0 == 1) (j : Int)) ?_ ?_ 0 (Nat.zero_le _)
      · apply h2; unfold cCoveredR_2
        rw [if_pos h, if_neg (by simp), List.take_length]
        by_cases g : ((tableT p l).any fun r => r.getD i 0 == 1) = true
        · rw [if_pos g] at ih ⊢
          exact ⟨by simp only [List.length_cons, List.length_nil]; omega, inI_succ hi (by omega), ih⟩
        · rw [if_neg g, List.append_nil] at ih
          rw [if_neg g]
          exact ⟨inI_succ hi (by omega), ih⟩
      · intro j hj ihj
        rw [take_snoc [] hj, List.any_append] at ihj
        apply h2; unfold cCoveredR_2
        rw [if_pos h, if_pos (by simpa using hj), Int.toNat_natCast, Int.toNat_natCast]
        have hr : (List.getD (tableT p l) j []).length = p.length := table_row (mem_getD hj)
        by_cases g : (((tableT p l).take j).any fun r => r.getD i 0 == 1) = true
        · rw [if_pos g]
          rw [g, Bool.true_or] at ihj
          exact ⟨rfl, inI_succ hj (by omega), ihj⟩
        · rw [if_neg g]
          have g' := Bool.eq_false_iff.2 g
          rw [g', Bool.false_or] at ihj
          refine ⟨idx_nat hj, idx_nat (by omega), trivial, inI_succ hj (by omega), ?_⟩
          simpa using ihj
  · rw [if_pos (by simpa using h), if_neg h]
    exact ⟨rfl, rfl, trivial⟩
abbrev cSameLists : Con := { A := (.cons (.sl (.sl .int)) (.cons (.sl (.sl .int)) .nil)), R := (.cons .bool .nil), pre := fun x => x.1.length ≤ 1000000 ∧ ∀ r' ∈ x.1, r'.length ≤ 1000000, F := fun x => (decide (x.1 = x.2.1), ()) }
def cSameLists_0 (Λ1 : Int → Prop) (a : (List (List Int))) (b : (List (List Int))) (y0 : Bool) : Prop :=
  if ((List.length a : Int) != (List.length b : Int)) = true then (false = y0 ∧ True) else Λ1 (0 : Int)
def cSameLists_1 (Λ1 : Int → Prop) (a : (List (List Int))) (b : (List (List Int))) (y0 : Bool)  (i_1 : Int) : Prop :=
  if (decide (i_1 < (List.length a : Int))) = true then (idx i_1 (List.length a : Int) ∧ (idx i_1 (List.length b : Int) ∧ ((List.getD a (Int.toNat i_1) ([] : List Int)).length ≤ 1000000 ∧ (if (!(decide ((List.getD a (Int.toNat i_1) ([] : List Int)) = (List.getD b (Int.toNat i_1) ([] : List Int))))) = true then (false = y0 ∧ True) else (inI (i_1 + (1 : Int)) ∧ Λ1 (i_1 + (1 : Int))))))) else (true = y0 ∧ True)
theorem cSameLists_law (h : ∀ (a : (List (List Int))) (b : (List (List Int))), cSameLists.A.wf (a, b, ()) → (a.length ≤ 1000000 ∧ ∀ r' ∈ a, r'.length ≤ 1000000) → ∀ (Λ1 : Int → Prop), (∀ (i_1 : Int), cSameLists_1 Λ1 a b (decide (a = b)) i_1 → Λ1 i_1) → cSameLists_0 Λ1 a b (decide (a = b))) : ConOK Go.Proofs.Try.prog 43 cSameLists := by
  refine lawL (Γ := [(32, cSameIntsR)]) (Θ := Th) (n := 27) [([1, 1, 0, 1, 0], ⟨[(0, false), (1, false), (5, true)], []⟩)] ⟨cSameIntsR_ok, trivial⟩ (by kernel_rfl) th_ok mix_ok Go.Proofs.Try.func43 (by kernel_rfl) ?_
  intro x hw hp Λ hC
  have h0 := h x.1 x.2.1 hw hp (fun i_1 => Λ [1, 1, 0, 1, 0] ([(0, .d false (.sl (.sl .int)) x.1), (1, .d false (.sl (.sl .int)) x.2.1), (5, .d true .int i_1)], [])) (fun i_1 hb => hC [1, 1, 0, 1, 0] ([(0, .d false (.sl (.sl .int)) x.1), (1, .d false (.sl (.sl .int)) x.2.1), (5, .d true .int i_1)], []) (Eq.mpr (by kernel_rfl) hb))
  exact Eq.mpr (by kernel_rfl) h0
theorem cSameLists_ok : ConOK Go.Proofs.Try.prog 43 cSameLists := by
  refine cSameLists_law ?_
  intro a b hw hp Λ1 h1
  unfold cSameLists_0
  by_cases hl : a.length = b.length
  · rw [if_neg (by simp [hl])]
    refine upto (n := a.length) (Q := fun i => a.take i = b.take i → Λ1 i) ?_ ?_ 0 (Nat.zero_le _) rfl
    · intro ha
      rw [List.take_length, List.take_of_length_le (by omega)] at ha
      apply h1; unfold cSameLists_1; rw [if_neg (by simp)]
      exact ⟨by simp [ha], trivial⟩
    · intro i hi ih ha
      apply h1; unfold cSameLists_1; rw [if_pos (by simpa using hi), Int.toNat_natCast]
      refine ⟨idx_nat hi, idx_nat (by omega), hp.2 _ (mem_getD hi), ?_⟩
      by_cases hv : List.getD a i [] = List.getD b i []
      · rw [if_neg (by rw [hv]; simp)]
        exact ⟨inI_succ hi (by omega), ih (take_eq_next [] hi hl ha hv)⟩
      · rw [if_pos (by simpa using hv)]
        exact ⟨by simp [ne_at [] hv], trivial⟩
  · rw [if_pos (by simp; omega)]
    exact ⟨by simp; exact fun e => hl (by rw [e]), trivial⟩
abbrev cCheckTables : Con := { A := (.cons (.sl tL) (.cons (.sl tTs) .nil)), R := (.cons .bool .nil), pre := fun x => True, F := fun x => (true, ()) }
def cCheckTables_0  (p : (List Lin)) (l : (List Tst)) (y0 : Bool) : Prop :=
  True ∧ (if (decide (100 < p.length)) = true then (true = true ∧ (True ∧ (true = y0 ∧ True))) else (True ∧ (True ∧ (if (bif false then true else (decide (l.length > 50) || l.any (fun t' => decide (100 < t'.1.length)))) = true then (True ∧ (true = y0 ∧ True)) else (True ∧ (True ∧ (True ∧ (True ∧ ((((if errT [p] l = 0 then tableT p l else [])).length ≤ 1000000 ∧ ∀ r' ∈ ((if errT [p] l = 0 then tableT p l else [])), r'.length ≤ 1000000) ∧ (if (decide (((if errT [p] l = 0 then tableT p l else [])) = ((if errT [p] l = 0 then tableT p l else [])))) = true then (True ∧ (if (bif true then ((errT [p] l) == (errT [p] l)) else false) = true then (((if errT [p] l = 0 then coverT p l else [])).length ≤ 1000000 ∧ (True ∧ (if (bif true then (decide (((if errT [p] l = 0 then coverT p l else [])) = ((if errT [p] l = 0 then coverT p l else [])))) else false) = true then (True ∧ (if (bif true then ((errT [p] l) == (errT [p] l)) else false) = true then (True ∧ (True ∧ ((bif true then true else false) = y0 ∧ True))) else (false = false ∧ (false = y0 ∧ True)))) else (false = false ∧ (false = false ∧ (false = y0 ∧ True)))))) else (false = false ∧ (false = false ∧ (false = false ∧ (false = y0 ∧ True)))))) else (false = false ∧ (false = false ∧ (false = false ∧ (false = false ∧ (false = y0 ∧ True)))))))))))))))
theorem cCheckTables_law (h : ∀ (p : (List Lin)) (l : (List Tst)), cCheckTables.A.wf (p, l, ()) → cCheckTables_0  p l true) : ConOK Go.Proofs.Try.prog 8 cCheckTables := by
  refine lawL (Γ := [(41, cCovered), (42, cCoveredR), (18, cKnown2), (16, cLongL), (17, cMany), (32, cSameIntsR), (43, cSameLists), (39, cTable), (40, cTableR)]) (Θ := Th) (n := 65) [] ⟨cCovered_ok, cCoveredR_ok, cKnown2_ok, cLongL_ok, cMany_ok, cSameIntsR_ok, cSameLists_ok, cTable_ok, cTableR_ok, trivial⟩ (by kernel_rfl) th_ok mix_ok Go.Proofs.Try.func8 (by kernel_rfl) ?_
  intro x hw hp Λ hC
  have h0 := h x.1 x.2.1 hw  
  exact Eq.mpr (by kernel_rfl) h0
theorem cCheckTables_ok : ConOK Go.Proofs.Try.prog 8 cCheckTables := by
  refine cCheckTables_law ?_
  intro p l hw
  unfold cCheckTables_0
  by_cases c1 : 100 < p.length
  · simp [c1]
  cases c2 : (decide (l.length > 50) || l.any (fun t' => decide (100 < t'.1.length)))
  · have hl : l.length ≤ 50 := by
      rw [Bool.or_eq_false_iff, decide_eq_false_iff_not] at c2; omega
    have l1 : (coverT p l).length ≤ 1000000 := by have := covTo_len (tableT p l) p.length; unfold coverT; omega
    have l2 : (tableT p l).length ≤ 1000000 := by unfold tableT; simp; omega
    have l3 : ∀ r ∈ tableT p l, r.length ≤ 1000000 := fun r hr => by rw [table_row hr]; omega
    by_cases e : errT [p] l = 0
    · simp [c1, c2, e, l1, l2]
      exact l3
    · simp [c1, c2, e]
  · simp [c1, c2]
end Go.Tk
