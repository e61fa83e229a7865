import Derived.Test.YtblegpocdjoihaaL6a
import Derived.Test.YtblegpocdjoihaaP6d
import Derived.Test.YtblegpocdjoihaaC2
set_option linter.unusedSimpArgs false
set_option linter.unusedVariables false
namespace Go.Tk
open Go Go.RowKit

abbrev cOf6 : Con := { A := (.cons tCt .nil), R := (.cons (.sl tR) (.cons .int .nil)), pre := fun x => True, F := fun x => ((if validC x.1 = 0 then boxOf x.1.1 x.1.2.1 else []), validC x.1, ()) }
def cOf6_0  (c : Ctr) (y0 : (List Rng)) (y1 : Int) : Prop :=
  True ∧ (if ((validC c) != (0 : Int)) = true then (([] : List Rng) = y0 ∧ (validC c) = y1 ∧ True) else ((c.1.length ≤ c.2.1.length ∧ c.1.length ≤ 1000) ∧ ((boxOf c.1 c.2.1) = y0 ∧ (0 : Int) = y1 ∧ True)))
theorem cOf6_law (h : ∀ (c : Ctr), cOf6.A.wf (c, ()) → cOf6_0  c (if validC c = 0 then boxOf c.1 c.2.1 else []) (validC c)) : ConOK Go.Proofs.Try.prog 45 cOf6 := by
  refine lawL (Γ := [(90, cOf0), (89, cValC)]) (Θ := Th) (n := 15) [] ⟨cOf0_ok, cValC_ok, trivial⟩ (by kernel_rfl) th_ok mix_ok Go.Proofs.Try.func45 (by kernel_rfl) ?_
  intro x hw hp Λ hC
  have h0 := h x.1 hw  
  exact Eq.mpr (by kernel_rfl) h0
theorem cOf6_ok : ConOK Go.Proofs.Try.prog 45 cOf6 := by
  refine cOf6_law ?_
  intro c hw
  unfold cOf6_0
  refine ⟨trivial, ?_⟩
  by_cases h : validC c = 0
  · have hb := (isCtr_box (validC_ok h).1).1
    have l1 := validS_len hb.1
    have l2 := validS_len hb.2.1
    rw [if_neg (by simp [h]), if_pos h, h]
    exact ⟨by omega, rfl, rfl, trivial⟩
  · rw [if_pos (by simpa using h), if_neg h]
    exact ⟨rfl, rfl, trivial⟩
abbrev cOf0R : Con := { A := (.cons tCt .nil), R := (.cons (.osl tR) .nil), pre := fun x => x.1.1.length ≤ x.1.2.1.length ∧ x.1.1.length ≤ 1000, F := fun x => (boxOf x.1.1 x.1.2.1, ()) }
def cOf0R_0 (Λ1 : Int → (List Rng) → Prop) (c : Ctr) (y0 : (List Rng)) : Prop :=
  Λ1 (0 : Int) ([] : List Rng)
def cOf0R_1 (Λ1 : Int → (List Rng) → Prop) (c : Ctr) (y0 : (List Rng))  (i_1 : Int) (out_1 : (List Rng)) : Prop :=
  if (decide (i_1 < (List.length c.1 : Int))) = true then (idx i_1 (List.length c.1 : Int) ∧ (idx i_1 (List.length c.2.1 : Int) ∧ (List.length out_1 + List.length [((List.getD c.1 (Int.toNat i_1) 0), (List.getD c.2.1 (Int.toNat i_1) 0), ())] ≤ 4294967296 ∧ (inI (i_1 + (1 : Int)) ∧ Λ1 (i_1 + (1 : Int)) (out_1 ++ [((List.getD c.1 (Int.toNat i_1) 0), (List.getD c.2.1 (Int.toNat i_1) 0), ())]))))) else out_1 = y0
theorem cOf0R_law (h : ∀ (c : Ctr), cOf0R.A.wf (c, ()) → (c.1.length ≤ c.2.1.length ∧ c.1.length ≤ 1000) → ∀ (Λ1 : Int → (List Rng) → Prop), (∀ (i_1 : Int) (out_1 : (List Rng)), cOf0R_1 Λ1 c (boxOf c.1 c.2.1) i_1 out_1 → Λ1 i_1 out_1) → cOf0R_0 Λ1 c (boxOf c.1 c.2.1)) : ConOK Go.Proofs.Try.prog 92 cOf0R := by
  refine lawL (Γ := []) (Θ := Th) (n := 27) [([1, 1, 0, 1, 0], ⟨[(1, true), (3, true), (4, true)], [(1, false), (3, true)]⟩)] trivial (by kernel_rfl) th_ok mix_ok Go.Proofs.Try.func92 (by kernel_rfl) ?_
  intro x hw hp Λ hC
  have h0 := h x.1 hw hp (fun i_1 out_1 => Λ [1, 1, 0, 1, 0] ([(1, .ptr 1 0 []), (3, .own 3 0), (4, .d true .int i_1)], [(1, .box false tCt x.1), (3, .sl true tR out_1)])) (fun i_1 out_1 hb => hC [1, 1, 0, 1, 0] ([(1, .ptr 1 0 []), (3, .own 3 0), (4, .d true .int i_1)], [(1, .box false tCt x.1), (3, .sl true tR out_1)]) (Eq.mpr (by kernel_rfl) hb))
  exact Eq.mpr (by kernel_rfl) h0
theorem cOf0R_ok : ConOK Go.Proofs.Try.prog 92 cOf0R := by
  refine cOf0R_law ?_
  intro c hw hp Λ1 h1
  unfold cOf0R_0
  refine upto (n := c.1.length) (Q := fun i => Λ1 i ((boxOf c.1 c.2.1).take i)) ?_ ?_ 0 (Nat.zero_le _)
  · apply h1; unfold cOf0R_1; rw [if_neg (by simp)]
    rw [List.take_of_length_le (by unfold boxOf; simp only [List.length_zipWith]; omega)]
  · intro i hi ih
    apply h1; unfold cOf0R_1; rw [if_pos (by simpa using hi), Int.toNat_natCast]
    refine ⟨idx_nat hi, idx_nat (by omega), ?_, inI_succ hi (by omega), ?_⟩
    · simp only [boxOf, List.length_take, List.length_zipWith, List.length_cons, List.length_nil]; omega
    · unfold boxOf at ih
      rw [zip_snoc2 _ 0 0 hi (by omega)] at ih
      exact ih
abbrev cOfR : Con := { A := (.cons tCt .nil), R := (.cons (.sl tR) (.cons .int .nil)), pre := fun x => True, F := fun x => ((if validC x.1 = 0 then boxOf x.1.1 x.1.2.1 else []), validC x.1, ()) }
def cOfR_0  (c : Ctr) (y0 : (List Rng)) (y1 : Int) : Prop :=
  True ∧ (if ((validC c) != (0 : Int)) = true then (([] : List Rng) = y0 ∧ (validC c) = y1 ∧ True) else ((c.1.length ≤ c.2.1.length ∧ c.1.length ≤ 1000) ∧ ((boxOf c.1 c.2.1) = y0 ∧ (0 : Int) = y1 ∧ True)))
theorem cOfR_law (h : ∀ (c : Ctr), cOfR.A.wf (c, ()) → cOfR_0  c (if validC c = 0 then boxOf c.1 c.2.1 else []) (validC c)) : ConOK Go.Proofs.Try.prog 46 cOfR := by
  refine lawL (Γ := [(92, cOf0R), (91, cValCR)]) (Θ := Th) (n := 12) [] ⟨cOf0R_ok, cValCR_ok, trivial⟩ (by kernel_rfl) th_ok mix_ok Go.Proofs.Try.func46 (by kernel_rfl) ?_
  intro x hw hp Λ hC
  have h0 := h x.1 hw  
  exact Eq.mpr (by kernel_rfl) h0
theorem cOfR_ok : ConOK Go.Proofs.Try.prog 46 cOfR := by
  refine cOfR_law ?_
  intro c hw
  unfold cOfR_0
  refine ⟨trivial, ?_⟩
  by_cases h : validC c = 0
  · have hb := (isCtr_box (validC_ok h).1).1
    have l1 := validS_len hb.1
    have l2 := validS_len hb.2.1
    rw [if_neg (by simp [h]), if_pos h, h]
    exact ⟨by omega, rfl, rfl, trivial⟩
  · rw [if_pos (by simpa using h), if_neg h]
    exact ⟨rfl, rfl, trivial⟩
theorem openN_next (b : List Rng) {i : Nat} (h : i < b.length) : openN (b.take (i + 1)) = openN (b.take i) + if (b.getD i tR.dflt).1 < (b.getD i tR.dflt).2.1 then 1 else 0 := by
  unfold openN
  rw [take_snoc tR.dflt h, List.filter_append, List.length_append]
  by_cases c : (b.getD i tR.dflt).1 < (b.getD i tR.dflt).2.1
  · rw [if_pos c, List.filter_cons_of_pos (by simpa using c)]; rfl
  · rw [if_neg c, List.filter_cons_of_neg (by simpa using c)]; rfl
theorem openN_le (b : List Rng) : openN b ≤ b.length := List.length_filter_le _ _

abbrev cSpanContracts : Con := { A := (.cons tCt .nil), R := (.cons .bool .nil), pre := fun x => True, F := fun x => (true, ()) }
def cSpanContracts_0 (Λ1 : Int → Int → Prop) (c : Ctr) (y0 : Bool) : Prop :=
  True ∧ (if (decide (100 < c.1.length ∨ 100 < c.2.1.length)) = true then (True ∧ (true = y0 ∧ True)) else (True ∧ (True ∧ (((if validC c = 0 then boxOf c.1 c.2.1 else [])).length ≤ 1000000 ∧ (if (!(decide (((if validC c = 0 then boxOf c.1 c.2.1 else [])) = ((if validC c = 0 then boxOf c.1 c.2.1 else []))))) = true then (true = true ∧ (false = y0 ∧ True)) else (True ∧ (if (bif false then true else ((validC c) != (validC c))) = true then (false = y0 ∧ True) else Λ1 (0 : Int) (0 : Int))))))))
def cSpanContracts_1 (Λ1 : Int → Int → Prop) (c : Ctr) (y0 : Bool)  (open_1 : Int) (i_1 : Int) : Prop :=
  if (decide (i_1 < (List.length ((if validC c = 0 then boxOf c.1 c.2.1 else [])) : Int))) = true then (idx i_1 (List.length ((if validC c = 0 then boxOf c.1 c.2.1 else [])) : Int) ∧ (idx i_1 (List.length ((if validC c = 0 then boxOf c.1 c.2.1 else [])) : Int) ∧ (if (decide ((List.getD ((if validC c = 0 then boxOf c.1 c.2.1 else [])) (Int.toNat i_1) tR.dflt).1 < (List.getD ((if validC c = 0 then boxOf c.1 c.2.1 else [])) (Int.toNat i_1) tR.dflt).2.1)) = true then (inI (open_1 + (1 : Int)) ∧ (inI (i_1 + (1 : Int)) ∧ Λ1 (open_1 + (1 : Int)) (i_1 + (1 : Int)))) else (inI (i_1 + (1 : Int)) ∧ Λ1 open_1 (i_1 + (1 : Int)))))) else (True ∧ (True ∧ (if ((validC c) != (0 : Int)) = true then (true = true ∧ (true = true ∧ (True ∧ (True ∧ ((bif true then true else false) = y0 ∧ True))))) else (True ∧ (if (bif false then true else (open_1 != (1 : Int))) = true then (true = true ∧ (True ∧ (True ∧ ((bif true then true else false) = y0 ∧ True)))) else (if ((argErr (validB ((if validC c = 0 then boxOf c.1 c.2.1 else [])))) == (0 : Int)) = true then (True ∧ (if (bif true then ((validC c) == (0 : Int)) else false) = true then (inI (((if validB ((if validC c = 0 then boxOf c.1 c.2.1 else [])) then sizeB ((if validC c = 0 then boxOf c.1 c.2.1 else [])) else 0)) + (1 : Int)) ∧ (True ∧ (True ∧ (if (bif false then true else (bif true then (((if validC c = 0 then sizeC c else 0)) == (((if validB ((if validC c = 0 then boxOf c.1 c.2.1 else [])) then sizeB ((if validC c = 0 then boxOf c.1 c.2.1 else [])) else 0)) + (1 : Int))) else false)) = true then (True ∧ (True ∧ ((bif true then true else false) = y0 ∧ True))) else (false = false ∧ (false = y0 ∧ True)))))) else (false = false ∧ (True ∧ (if (bif false then true else false) = true then (True ∧ (True ∧ ((bif true then true else false) = y0 ∧ True))) else (false = false ∧ (false = y0 ∧ True))))))) else (false = false ∧ (false = false ∧ (True ∧ (if (bif false then true else false) = true then (True ∧ (True ∧ ((bif true then true else false) = y0 ∧ True))) else (false = false ∧ (false = y0 ∧ True))))))))))))
theorem cSpanContracts_law (h : ∀ (c : Ctr), cSpanContracts.A.wf (c, ()) → ∀ (Λ1 : Int → Int → Prop), (∀ (open_1 : Int) (i_1 : Int), cSpanContracts_1 Λ1 c true open_1 i_1 → Λ1 open_1 i_1) → cSpanContracts_0 Λ1 c true) : ConOK Go.Proofs.Try.prog 10 cSpanContracts := by
  refine lawL (Γ := [(47, cBox2), (18, cKnown6), (45, cOf6), (46, cOfR), (23, cSameR), (38, cSize), (44, cWide)]) (Θ := Th) (n := 87) [([1, 1, 1, 1, 1, 1, 0, 1, 0], ⟨[(1, true), (3, true), (4, true), (7, true), (8, true)], [(1, false)]⟩)] ⟨cBox2_ok, cKnown6_ok, cOf6_ok, cOfR_ok, cSameR_ok, cSize_ok, cWide_ok, trivial⟩ (by kernel_rfl) th_ok mix_ok Go.Proofs.Try.func10 (by kernel_rfl) ?_
  intro x hw hp Λ hC
  have h0 := h x.1 hw (fun open_1 i_1 => Λ [1, 1, 1, 1, 1, 1, 0, 1, 0] ([(1, .ptr 1 0 []), (3, .d true (.sl tR) ((if validC x.1 = 0 then boxOf x.1.1 x.1.2.1 else []))), (4, .d true .int (validC x.1)), (7, .d true .int open_1), (8, .d true .int i_1)], [(1, .box false tCt x.1)])) (fun open_1 i_1 hb => hC [1, 1, 1, 1, 1, 1, 0, 1, 0] ([(1, .ptr 1 0 []), (3, .d true (.sl tR) ((if validC x.1 = 0 then boxOf x.1.1 x.1.2.1 else []))), (4, .d true .int (validC x.1)), (7, .d true .int open_1), (8, .d true .int i_1)], [(1, .box false tCt x.1)]) (Eq.mpr (by kernel_rfl) hb))
  exact Eq.mpr (by kernel_rfl) h0
theorem cSpanContracts_ok : ConOK Go.Proofs.Try.prog 10 cSpanContracts := by
  refine cSpanContracts_law ?_
  intro c hw Λ1 h1
  unfold cSpanContracts_0
  by_cases c1 : 100 < c.1.length ∨ 100 < c.2.1.length
  · simp [c1]
  have key : ∀ B : List Rng, (if validC c = 0 then boxOf c.1 c.2.1 else []) = B → Λ1 0 0 := by
    intro B hB
    have hb4 : B.length ≤ 4 := by
      rw [← hB]
      split
      · rename_i h
        have := validB_len (boxOf_valid (isCtr_box (validC_ok h).1).1)
        omega
      · simp
    refine upto (n := B.length) (Q := fun i => Λ1 (openN (B.take i)) i) ?_ ?_ 0 (Nat.zero_le _)
    · apply h1; unfold cSpanContracts_1
      rw [hB, if_neg (by simp), List.take_length]
      by_cases h : validC c = 0
      · rw [if_pos h] at hB
        obtain ⟨i1, i2⟩ := validC_ok h
        have hbx := (isCtr_box i1).1
        have hv := boxOf_valid hbx
        rw [hB] at hv
        by_cases ho : openN B = 1
        · have e := ctr_size hbx (by rw [hB]; exact ho)
          rw [hB] at e
          have : inI (sizeB B + 1) := by
            have h0 := (prodTo_bd hbx 4 (by omega)).1
            have : sizeC c = prodTo c.1 c.2.1 4 := rfl
            unfold inI; omega
          simp [h, hv, ho, argErr, e, this]
        · have : ¬ ((openN B : Int) = 1) := by omega
          simp [h, hv, ho, argErr, this]
      · simp [h]
    · intro i hi ih
      apply h1; unfold cSpanContracts_1
      rw [hB, if_pos (by simpa using hi), Int.toNat_natCast]
      refine ⟨idx_nat hi, idx_nat hi, ?_⟩
      rw [openN_next B hi] at ih
      have hle := openN_le (B.take i)
      rw [List.length_take] at hle
      by_cases g : (B.getD i tR.dflt).1 < (B.getD i tR.dflt).2.1
      · rw [if_pos g] at ih
        rw [if_pos (by show decide _ = true; exact decide_eq_true g)]
        exact ⟨by unfold inI; omega, inI_succ hi (by omega), ih⟩
      · rw [if_neg g] at ih
        rw [if_neg (by show ¬ decide _ = true; simpa using g)]
        exact ⟨inI_succ hi (by omega), ih⟩
  have k0 := key _ rfl
  have hl : (if validC c = 0 then boxOf c.1 c.2.1 else []).length ≤ 1000000 := by
    split
    · rename_i h
      have := validB_len (boxOf_valid (isCtr_box (validC_ok h).1).1)
      omega
    · simp
  refine ⟨trivial, ?_⟩
  rw [if_neg (by simpa using c1)]
  refine ⟨trivial, trivial, hl, ?_⟩
  rw [if_neg (by simp)]
  refine ⟨trivial, ?_⟩
  rw [if_neg (by simp)]
  exact k0
abbrev cSpanPoints : Con := { A := (.cons (.sl tL) (.cons (.sl .int) .nil)), R := (.cons .bool .nil), pre := fun x => True, F := fun x => (true, ()) }
def cSpanPoints_0  (p : (List Lin)) (in_ : (List Int)) (y0 : Bool) : Prop :=
  True ∧ (if (decide (100 < p.length)) = true then (true = true ∧ (True ∧ (true = y0 ∧ True))) else (True ∧ (True ∧ (if (bif false then true else (decide (100 < in_.length))) = true then (True ∧ (true = y0 ∧ True)) else (True ∧ (True ∧ (((if validS in_ then boxOf in_ in_ else [])).length ≤ 1000000 ∧ (if (!(decide (((if validS in_ then boxOf in_ in_ else [])) = ((if validS in_ then boxOf in_ in_ else []))))) = true then (true = true ∧ (false = y0 ∧ True)) else (True ∧ (if (bif false then true else ((argErr (validS in_)) != (argErr (validS in_)))) = true then (false = y0 ∧ True) else (True ∧ (if ((err1 p in_) != (0 : Int)) = true then (True ∧ (true = y0 ∧ True)) else (True ∧ (True ∧ (if ((err6 p ((if validS in_ then boxOf in_ in_ else []))) == (0 : Int)) = true then (True ∧ (if (bif true then ((argErr (validS ((if err1 p in_ = 0 then runS p in_ else [])))) == (0 : Int)) else false) = true then (((if err6 p ((if validS in_ then boxOf in_ in_ else [])) = 0 then afterB p ((if validS in_ then boxOf in_ in_ else [])) else [])).length ≤ 1000000 ∧ (True ∧ (if (bif true then (decide (((if err6 p ((if validS in_ then boxOf in_ in_ else [])) = 0 then afterB p ((if validS in_ then boxOf in_ in_ else [])) else [])) = ((if validS ((if err1 p in_ = 0 then runS p in_ else [])) then boxOf ((if err1 p in_ = 0 then runS p in_ else [])) ((if err1 p in_ = 0 then runS p in_ else [])) else [])))) else false) = true then (True ∧ (True ∧ ((bif true then true else false) = y0 ∧ True))) else (false = false ∧ (false = y0 ∧ True))))) else (false = false ∧ (false = false ∧ (false = y0 ∧ True))))) else (false = false ∧ (false = false ∧ (false = false ∧ (false = y0 ∧ True)))))))))))))))))))
theorem cSpanPoints_law (h : ∀ (p : (List Lin)) (in_ : (List Int)), cSpanPoints.A.wf (p, in_, ()) → cSpanPoints_0  p in_ true) : ConOK Go.Proofs.Try.prog 11 cSpanPoints := by
  refine lawL (Γ := [(19, cAfter), (18, cKnown6), (30, cLarge6), (16, cLongL), (48, cPoint), (49, cPointR), (50, cRun), (23, cSameR)]) (Θ := Th) (n := 75) [] ⟨cAfter_ok, cKnown6_ok, cLarge6_ok, cLongL_ok, cPoint_ok, cPointR_ok, cRun_ok, cSameR_ok, trivial⟩ (by kernel_rfl) th_ok mix_ok Go.Proofs.Try.func11 (by kernel_rfl) ?_
  intro x hw hp Λ hC
  have h0 := h x.1 x.2.1 hw  
  exact Eq.mpr (by kernel_rfl) h0
theorem cSpanPoints_ok : ConOK Go.Proofs.Try.prog 11 cSpanPoints := by
  refine cSpanPoints_law ?_
  intro p in_ hw
  unfold cSpanPoints_0
  by_cases c1 : 100 < p.length
  · simp [c1]
  by_cases c2 : 100 < in_.length
  · simp [c1, c2]
  cases h : validS in_
  · by_cases e : err1 p in_ = 0
    · have := (err1_ok e).2; rw [h] at this; cases this
    · simp [c1, c2, h, e]
  have hl : (boxOf in_ in_).length ≤ 1000000 := by unfold boxOf; rw [List.length_zipWith]; omega
  by_cases e : err1 p in_ = 0
  · obtain ⟨p1, _⟩ := err1_ok e
    obtain ⟨_, hall⟩ := validP_ok p1
    have e6 : err6 p (boxOf in_ in_) = 0 := by unfold err6; rw [if_pos p1, point_valid h]; rfl
    have vr := runS_ok (p := p) h
    have l4 := validS_len vr
    have hl2 : (boxOf (runS p in_) (runS p in_)).length ≤ 1000000 := by unfold boxOf; rw [List.length_zipWith]; omega
    simp [c1, c2, h, e, e6, hl, hl2, vr, after_point hall h, argErr]
  · simp [c1, c2, h, e, hl]
end Go.Tk
