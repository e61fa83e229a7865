/- A test that a program makes, as data; the law of the witness (layer 2). -/
import Derived.Test.YtolbkaphghjeeaaC2x
set_option linter.unusedSimpArgs false
set_option linter.unusedVariables false
namespace Go.Tk
open Go Go.RowKit

def makeErr (p : List Lin) (s : List Int) (o : Int) : Int := if validP p = 0 then argErr (validS s && isReg o) else validP p
theorem argErr_ok {b : Bool} (h : b = true) : argErr b = 0 := by rw [h]; rfl
theorem argErr_no {b : Bool} (h : b = false) : argErr b = 1 := by rw [h]; rfl
theorem isReg_ok {o : Int} (h : isReg o = true) : 0 ≤ o ∧ o ≤ 3 := within_iff.1 h
abbrev cMake : Con := { A := (.cons (.sl tL) (.cons (.sl .int) (.cons .int .nil))), R := (.cons tTs (.cons .int .nil)), pre := fun x => True, F := fun x => ((if makeErr x.1 x.2.1 x.2.2.1 = 0 then (x.2.1, x.2.2.1, Rg (runS x.1 x.2.1) x.2.2.1, ()) else (([] : List Int), 0, 0, ())), makeErr x.1 x.2.1 x.2.2.1, ()) }
def cMake_0  (p : (List Lin)) (in_ : (List Int)) (out : Int) (y0 : Tst) (y1 : Int) : Prop :=
  True ∧ (if ((validP p) != (0 : Int)) = true then ((([] : List Int), 0, 0, ()) = y0 ∧ (validP p) = y1 ∧ True) else (True ∧ (if (!(validS in_)) = true then (true = true ∧ ((([] : List Int), 0, 0, ()) = y0 ∧ (1 : Int) = y1 ∧ True)) else (True ∧ (True ∧ (if (bif false then true else (!(isReg out))) = true then ((([] : List Int), 0, 0, ()) = y0 ∧ (1 : Int) = y1 ∧ True) else (in_.length ≤ 1000000 ∧ ((validP p = 0 ∧ validS in_ = true ∧ 0 ≤ out ∧ out ≤ 3) ∧ ((in_, out, (Rg (runS p in_) out), ()) = y0 ∧ (0 : Int) = y1 ∧ True)))))))))
theorem cMake_law (h : ∀ (p : (List Lin)) (in_ : (List Int)) (out : Int), cMake.A.wf (p, in_, out, ()) → cMake_0  p in_ out (if makeErr p in_ out = 0 then (in_, out, Rg (runS p in_) out, ()) else (([] : List Int), 0, 0, ())) (makeErr p in_ out)) : ConOK Go.Proofs.Try.prog 44 cMake := by
  refine lawL (Γ := [(91, cCloneS), (75, cEnd), (90, cIsReg2), (89, cIsState), (88, cValP)]) (Θ := Th) (n := 32) [] ⟨cCloneS_ok, cEnd_ok, cIsReg2_ok, cIsState_ok, cValP_ok, trivial⟩ (by kernel_rfl) th_ok mix_ok Go.Proofs.Try.func44 (by kernel_rfl) ?_
  intro x hw hp Λ hC
  have h0 := h x.1 x.2.1 x.2.2.1 hw  
  exact Eq.mpr (by kernel_rfl) h0
theorem cMake_ok : ConOK Go.Proofs.Try.prog 44 cMake := by
  refine cMake_law ?_
  intro p in_ out hw
  unfold cMake_0
  refine ⟨trivial, ?_⟩
  by_cases g1 : validP p = 0
  · rw [if_neg (by simp [g1])]
    refine ⟨trivial, ?_⟩
    cases g2 : validS in_
    · have e : makeErr p in_ out = 1 := by unfold makeErr; rw [if_pos g1, g2]; exact argErr_no rfl
      rw [if_pos (by rfl), e]
      exact ⟨rfl, rfl, rfl, trivial⟩
    · rw [if_neg (by simp)]
      refine ⟨trivial, trivial, ?_⟩
      cases g3 : isReg out
      · have e : makeErr p in_ out = 1 := by unfold makeErr; rw [if_pos g1, g2, g3]; exact argErr_no rfl
        rw [if_pos (by rfl), e]
        exact ⟨rfl, rfl, trivial⟩
      · have e : makeErr p in_ out = 0 := by unfold makeErr; rw [if_pos g1, g2, g3]; exact argErr_ok rfl
        have l := validS_len g2
        rw [if_neg (by simp), e]
        refine ⟨by omega, ⟨g1, rfl, isReg_ok g3⟩, ?_, rfl, trivial⟩
        rw [if_pos rfl]
  · have e : makeErr p in_ out = validP p := by unfold makeErr; rw [if_neg g1]
    rw [if_pos (by simpa using g1), e, if_neg g1]
    exact ⟨rfl, rfl, trivial⟩
abbrev cWitnessL : Con := { A := (.cons (.sl tL) (.cons tCt (.cons (.sl .int) .nil))), R := (.cons .bool .nil), pre := fun x => True, F := fun x => (true, ()) }
def cWitnessL_0 (Λ1 : Int → Prop) (p : (List Lin)) (c : Ctr) (in_ : (List Int)) (y0 : Bool) : Prop :=
  True ∧ (if (decide (100 < p.length)) = true then (true = true ∧ (true = true ∧ (True ∧ (true = y0 ∧ True)))) else (True ∧ (True ∧ (if (bif false then true else (decide (100 < c.1.length ∨ 100 < c.2.1.length))) = true then (true = true ∧ (True ∧ (true = y0 ∧ True))) else (True ∧ (True ∧ (if (bif false then true else (decide (100 < in_.length))) = true then (True ∧ (true = y0 ∧ True)) else (True ∧ (True ∧ (if ((makeErr p in_ c.2.2.1) != (0 : Int)) = true then (true = true ∧ (true = true ∧ (true = true ∧ (True ∧ (true = y0 ∧ True))))) else (True ∧ (if (bif false then true else ((cErr p c) != (0 : Int))) = true then (true = true ∧ (true = true ∧ (True ∧ (true = y0 ∧ True)))) else (True ∧ (if (bif false then true else ((List.length c.1 : Int) != (List.length in_ : Int))) = true then (true = true ∧ (True ∧ (true = y0 ∧ True))) else (True ∧ (if (bif false then true else ((List.length c.2.1 : Int) != (List.length in_ : Int))) = true then (True ∧ (true = y0 ∧ True)) else Λ1 (0 : Int)))))))))))))))))
def cWitnessL_1 (Λ1 : Int → Prop) (p : (List Lin)) (c : Ctr) (in_ : (List Int)) (y0 : Bool)  (i_1 : Int) : Prop :=
  if (decide (i_1 < (List.length in_ : Int))) = true then (idx i_1 (List.length in_ : Int) ∧ (idx i_1 (List.length c.1 : Int) ∧ (if (decide ((List.getD in_ (Int.toNat i_1) 0) < (List.getD c.1 (Int.toNat i_1) 0))) = true then (true = true ∧ (True ∧ (true = y0 ∧ True))) else (idx i_1 (List.length in_ : Int) ∧ (idx i_1 (List.length c.2.1 : Int) ∧ (True ∧ (if (bif false then true else (decide ((List.getD in_ (Int.toNat i_1) 0) > (List.getD c.2.1 (Int.toNat i_1) 0)))) = true then (True ∧ (true = y0 ∧ True)) else (inI (i_1 + (1 : Int)) ∧ Λ1 (i_1 + (1 : Int)))))))))) else (if (!((cErr p c == 0 && (badL p c).isEmpty))) = true then (true = true ∧ (True ∧ (True ∧ ((bif true then true else false) = y0 ∧ True)))) else (if (decide (((if makeErr p in_ c.2.2.1 = 0 then (in_, c.2.2.1, Rg (runS p in_) c.2.2.1, ()) else (([] : List Int), 0, 0, ()))).2.2.1 ≥ c.2.2.2.1)) = true then (True ∧ (True ∧ (if (bif false then true else (bif true then (decide (((if makeErr p in_ c.2.2.1 = 0 then (in_, c.2.2.1, Rg (runS p in_) c.2.2.1, ()) else (([] : List Int), 0, 0, ()))).2.2.1 ≤ c.2.2.2.2.1)) else false)) = true then (True ∧ (True ∧ ((bif true then true else false) = y0 ∧ True))) else (false = false ∧ (false = y0 ∧ True))))) else (false = false ∧ (True ∧ (if (bif false then true else false) = true then (True ∧ (True ∧ ((bif true then true else false) = y0 ∧ True))) else (false = false ∧ (false = y0 ∧ True)))))))
theorem cWitnessL_law (h : ∀ (p : (List Lin)) (c : Ctr) (in_ : (List Int)), cWitnessL.A.wf (p, c, in_, ()) → ∀ (Λ1 : Int → Prop), (∀ (i_1 : Int), cWitnessL_1 Λ1 p c in_ true i_1 → Λ1 i_1) → cWitnessL_0 Λ1 p c in_ true) : ConOK Go.Proofs.Try.prog 12 cWitnessL := by
  refine lawL (Γ := [(51, cKeeps), (18, cKnown2), (27, cLarge2), (16, cLongL), (44, cMake), (22, cWide)]) (Θ := Th) (n := 108) [([1, 1, 1, 1, 1, 0, 1, 0], ⟨[(2, false), (4, true), (7, true), (9, true), (11, true)], [(4, false), (7, true)]⟩)] ⟨cKeeps_ok, cKnown2_ok, cLarge2_ok, cLongL_ok, cMake_ok, cWide_ok, trivial⟩ (by kernel_rfl) th_ok mix_ok Go.Proofs.Try.func12 (by kernel_rfl) ?_
  intro x hw hp Λ hC
  have h0 := h x.1 x.2.1 x.2.2.1 hw (fun i_1 => Λ [1, 1, 1, 1, 1, 0, 1, 0] ([(2, .d false (.sl .int) x.2.2.1), (4, .ptr 4 0 []), (7, .ptr 7 0 []), (9, .d true .bool ((cErr x.1 x.2.1 == 0 && (badL x.1 x.2.1).isEmpty))), (11, .d true .int i_1)], [(4, .box false tCt x.2.1), (7, .box true tTs ((if makeErr x.1 x.2.2.1 x.2.1.2.2.1 = 0 then (x.2.2.1, x.2.1.2.2.1, Rg (runS x.1 x.2.2.1) x.2.1.2.2.1, ()) else (([] : List Int), 0, 0, ()))))])) (fun i_1 hb => hC [1, 1, 1, 1, 1, 0, 1, 0] ([(2, .d false (.sl .int) x.2.2.1), (4, .ptr 4 0 []), (7, .ptr 7 0 []), (9, .d true .bool ((cErr x.1 x.2.1 == 0 && (badL x.1 x.2.1).isEmpty))), (11, .d true .int i_1)], [(4, .box false tCt x.2.1), (7, .box true tTs ((if makeErr x.1 x.2.2.1 x.2.1.2.2.1 = 0 then (x.2.2.1, x.2.1.2.2.1, Rg (runS x.1 x.2.2.1) x.2.1.2.2.1, ()) else (([] : List Int), 0, 0, ()))))]) (Eq.mpr (by kernel_rfl) hb))
  exact Eq.mpr (by kernel_rfl) h0
theorem cWitnessL_ok : ConOK Go.Proofs.Try.prog 12 cWitnessL := by
  refine cWitnessL_law ?_
  intro p c in_ hw Λ1 h1
  unfold cWitnessL_0
  by_cases c1 : 100 < p.length
  · simp [c1]
  by_cases c2 : 100 < c.1.length ∨ 100 < c.2.1.length
  · simp [c1, c2]
  by_cases c3 : 100 < in_.length
  · simp [c1, c2, c3]
  by_cases e1 : makeErr p in_ c.2.2.1 = 0
  · by_cases e2 : cErr p c = 0
    · by_cases e3 : c.1.length = in_.length
      · by_cases e4 : c.2.1.length = in_.length
        · have hb := (isCtr_box (validC_ok (cErr_ok e2).2).1).1
          have l1 := validS_len hb.1
          have hl : Λ1 (0 : Int) := by
            refine upto (n := in_.length) (Q := fun i => (∀ j, j < i → c.1.getD j 0 ≤ in_.getD j 0 ∧ in_.getD j 0 ≤ c.2.1.getD j 0) → Λ1 (i : Int)) ?_ ?_ 0 (Nat.zero_le _) (fun j hj => absurd hj (Nat.not_lt_zero _))
            · intro hj
              have hm : in_ ∈ statesC c := (stateC_iff hb).2 ⟨by omega, fun i hi => hj i (by omega)⟩
              apply h1; unfold cWitnessL_1
              rw [if_neg (by simp)]
              cases hk : (badL p c).isEmpty
              · rw [if_pos (by simp [e2])]
                exact ⟨rfl, trivial, trivial, rfl, trivial⟩
              · rw [if_neg (by simp [e2])]
                rw [if_pos e1]
                unfold badL at hk
                rw [List.isEmpty_iff, List.filter_eq_nil_iff] at hk
                have := hk in_ hm
                unfold keepS within at this
                have w : c.2.2.2.1 ≤ Rg (runS p in_) c.2.2.1 ∧ Rg (runS p in_) c.2.2.1 ≤ c.2.2.2.2.1 := by simpa using this
                simp [w.1, w.2]
            · intro i hi ih hj
              apply h1; unfold cWitnessL_1
              rw [if_pos (by simpa using hi), Int.toNat_natCast]
              refine ⟨idx_nat hi, idx_nat (by omega), ?_⟩
              by_cases g : in_.getD i 0 < c.1.getD i 0
              · rw [if_pos (by simpa using g)]
                exact ⟨rfl, trivial, rfl, trivial⟩
              · rw [if_neg (by simpa using g)]
                refine ⟨idx_nat hi, idx_nat (by omega), trivial, ?_⟩
                by_cases g' : in_.getD i 0 > c.2.1.getD i 0
                · rw [if_pos (by simpa using g')]
                  exact ⟨trivial, rfl, trivial⟩
                · rw [if_neg (by simpa using g')]
                  refine ⟨inI_succ hi (by omega), ih ?_⟩
                  intro j hj'
                  by_cases q : j = i
                  · subst q; omega
                  · exact hj j (by omega)
          simp [c1, c2, c3, e1, e2, e3, e4, hl]
        · have : ¬ ((c.2.1.length : Int) = in_.length) := by omega
          simp [c1, c2, c3, e1, e2, e3, e4, this]
      · have : ¬ ((c.1.length : Int) = in_.length) := by omega
        simp [c1, c2, c3, e1, e2, e3, this]
    · simp [c1, c2, c3, e1, e2]
  · simp [c1, c2, c3, e1]
end Go.Tk
