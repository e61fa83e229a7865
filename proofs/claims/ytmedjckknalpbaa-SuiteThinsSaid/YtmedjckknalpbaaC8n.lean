import Derived.Test.YtmedjckknalpbaaC8m
set_option linter.unusedSimpArgs false
set_option linter.unusedVariables false
set_option linter.unnecessarySimpa false
namespace Go.Tk
open Go Go.RowKit
def errC (t : Ste) (c : List Int) : Int := if validT t = 0 then (if c.length = t.length then argErr (c.all fun n => within n 1 99) else 1) else validT t
theorem errC_ok {t : Ste} {c : List Int} (h : errC t c = 0) : okT t ∧ c.length = t.length ∧ ∀ x ∈ c, 1 ≤ x ∧ x ≤ 99 := by
  unfold errC at h
  split at h
  · rename_i h0
    split at h
    · rename_i hl
      rw [argErr_zero, List.all_eq_true] at h
      exact ⟨validT_ok.1 h0, hl, fun x hx => within_iff.1 (h x hx)⟩
    · cases h
  · rename_i h0; exact absurd h h0
theorem all_within {c : List Int} (h : (c.all fun n => within n 1 99) = true) : ∀ x ∈ c, 1 ≤ x ∧ x ≤ 99 := by
  rw [List.all_eq_true] at h
  exact fun x hx => within_iff.1 (h x hx)
abbrev cCheapR : Con := { A := (.cons (.sl (.sl .int)) (.cons (.sl .int) .nil)), R := (.cons (.sl .int) (.cons .int (.cons .int .nil))), pre := fun x => x.2.1.length ≤ 1000000, F := fun x => ((if errC x.1 x.2.1 = 0 then (cheapT x.1 x.2.1).1 else []), (if errC x.1 x.2.1 = 0 then (cheapT x.1 x.2.1).2 else 0), errC x.1 x.2.1, ()) }
def cCheapR_0 (Λ1 : Int → Prop) (t : (List (List Int))) (costs : (List Int)) (y0 : (List Int)) (y1 : Int) (y2 : Int) : Prop :=
  True ∧ (if ((validT t) != (0 : Int)) = true then (([] : List Int) = y0 ∧ (0 : Int) = y1 ∧ (validT t) = y2 ∧ True) else (if ((List.length costs : Int) != (List.length t : Int)) = true then (([] : List Int) = y0 ∧ (0 : Int) = y1 ∧ (1 : Int) = y2 ∧ True) else Λ1 (0 : Int)))
def cCheapR_1 (Λ1 : Int → Prop) (t : (List (List Int))) (costs : (List Int)) (y0 : (List Int)) (y1 : Int) (y2 : Int)  (i_1 : Int) : Prop :=
  if (decide (i_1 < (List.length costs : Int))) = true then (idx i_1 (List.length costs : Int) ∧ (if (decide ((List.getD costs (Int.toNat i_1) 0) < (1 : Int))) = true then (true = true ∧ (([] : List Int) = y0 ∧ (0 : Int) = y1 ∧ (1 : Int) = y2 ∧ True)) else (idx i_1 (List.length costs : Int) ∧ (True ∧ (if (bif false then true else (decide ((List.getD costs (Int.toNat i_1) 0) > (99 : Int)))) = true then (([] : List Int) = y0 ∧ (0 : Int) = y1 ∧ (1 : Int) = y2 ∧ True) else (inI (i_1 + (1 : Int)) ∧ Λ1 (i_1 + (1 : Int)))))))) else ((okT t ∧ costs.length = t.length ∧ (∀ c', c' ∈ costs → 1 ≤ c' ∧ c' ≤ 99)) ∧ (((cheapT t costs).1) = y0 ∧ ((cheapT t costs).2) = y1 ∧ (0 : Int) = y2 ∧ True))
theorem cCheapR_law (h : ∀ (t : (List (List Int))) (costs : (List Int)), cCheapR.A.wf (t, costs, ()) → (costs.length ≤ 1000000) → ∀ (Λ1 : Int → Prop), (∀ (i_1 : Int), cCheapR_1 Λ1 t costs (if errC t costs = 0 then (cheapT t costs).1 else []) (if errC t costs = 0 then (cheapT t costs).2 else 0) (errC t costs) i_1 → Λ1 i_1) → cCheapR_0 Λ1 t costs (if errC t costs = 0 then (cheapT t costs).1 else []) (if errC t costs = 0 then (cheapT t costs).2 else 0) (errC t costs)) : ConOK Go.Proofs.Try.prog 47 cCheapR := by
  refine lawL (Γ := [(80, cCheap8r), (36, cVal8r)]) (Θ := Th) (n := 47) [([1, 1, 1, 1, 0, 1, 0], ⟨[(0, false), (1, false), (8, true)], []⟩)] ⟨cCheap8r_ok, cVal8r_ok, trivial⟩ (by kernel_rfl) th_ok mix_ok Go.Proofs.Try.func47 (by kernel_rfl) ?_
  intro x hw hp Λ hC
  have h0 := h x.1 x.2.1 hw hp (fun i_1 => Λ [1, 1, 1, 1, 0, 1, 0] ([(0, .d false (.sl (.sl .int)) x.1), (1, .d false (.sl .int) x.2.1), (8, .d true .int i_1)], [])) (fun i_1 hb => hC [1, 1, 1, 1, 0, 1, 0] ([(0, .d false (.sl (.sl .int)) x.1), (1, .d false (.sl .int) x.2.1), (8, .d true .int i_1)], []) (Eq.mpr (by kernel_rfl) hb))
  exact Eq.mpr (by kernel_rfl) h0
theorem cCheapR_ok : ConOK Go.Proofs.Try.prog 47 cCheapR := by
  refine cCheapR_law ?_
  intro t costs hw hp Λ1 h1
  unfold cCheapR_0
  refine ⟨trivial, ?_⟩
  by_cases h0 : validT t = 0
  · rw [if_neg (by simp [h0])]
    have ht := validT_ok.1 h0
    by_cases hl : costs.length = t.length
    · rw [if_neg (by simp [hl])]
      have he : errC t costs = argErr (costs.all fun n => within n 1 99) := by unfold errC; rw [if_pos h0, if_pos hl]
      rw [he] at h1
      have hbad : (costs.all fun n => within n 1 99) = false → ([] : List Int) = (if argErr (costs.all fun n => within n 1 99) = 0 then (cheapT t costs).1 else []) ∧ (0 : Int) = (if argErr (costs.all fun n => within n 1 99) = 0 then (cheapT t costs).2 else 0) ∧ (1 : Int) = argErr (costs.all fun n => within n 1 99) ∧ True := by
        intro h
        rw [h]
        exact ⟨rfl, rfl, rfl, trivial⟩
      refine upto (n := costs.length) (Q := fun i => (costs.take i).all (fun n => within n 1 99) = true → Λ1 i) ?_ ?_ 0 (Nat.zero_le _) rfl
      · intro ha
        rw [List.take_length] at ha
        apply h1; unfold cCheapR_1; rw [if_neg (by simp), ha]
        exact ⟨⟨ht, hl, all_within ha⟩, rfl, rfl, rfl, trivial⟩
      · intro i hi ih ha
        apply h1; unfold cCheapR_1; rw [if_pos (by simpa using hi), Int.toNat_natCast]
        refine ⟨idx_nat hi, ?_⟩
        have hb : within (costs.getD i 0) 1 99 = false → _ := fun h => hbad (all_false_at (p := fun n => within n 1 99) 0 hi h)
        have hn : within (costs.getD i 0) 1 99 = true → Λ1 ((i : Int) + 1) := fun h => ih (all_take_next (p := fun n => within n 1 99) 0 hi ha h)
        have hin : inI ((i : Int) + 1) := by unfold inI; omega
        generalize costs.getD i 0 = x at hb hn ⊢
        by_cases x1 : x < 1
        · rw [if_pos (by simpa using x1)]
          exact ⟨rfl, hb (by rw [Bool.eq_false_iff, Ne, within_iff]; omega)⟩
        · rw [if_neg (by simpa using x1)]
          refine ⟨idx_nat hi, trivial, ?_⟩
          by_cases x9 : x > 99
          · rw [if_pos (by simpa using x9)]
            exact hb (by rw [Bool.eq_false_iff, Ne, within_iff]; omega)
          · rw [if_neg (by simpa using x9)]
            exact ⟨hin, hn (within_iff.2 (by omega))⟩
    · rw [if_pos (by simp; omega)]
      have he : errC t costs = 1 := by unfold errC; rw [if_pos h0, if_neg hl]
      rw [he]
      exact ⟨rfl, rfl, rfl, trivial⟩
  · rw [if_pos (by simp [h0])]
    have he : errC t costs = validT t := by unfold errC; rw [if_neg h0]
    rw [he, if_neg h0, if_neg h0]
    exact ⟨rfl, rfl, rfl, trivial⟩
abbrev cCheapS : Con := { A := (.cons (.sl (.sl .int)) (.cons (.sl .int) .nil)), R := (.cons (.sl .int) (.cons .int (.cons .int .nil))), pre := fun x => x.2.1.length ≤ 1000000, F := fun x => ((if errC x.1 x.2.1 = 0 then (cheapT x.1 x.2.1).1 else []), (if errC x.1 x.2.1 = 0 then (cheapT x.1 x.2.1).2 else 0), errC x.1 x.2.1, ()) }
def cCheapS_0 (Λ1 : (List Int) → Int → Int → Prop) (Λ2 : Int → Int → (List Int) → Int → Int → Prop) (t : (List (List Int))) (costs : (List Int)) (y0 : (List Int)) (y1 : Int) (y2 : Int) : Prop :=
  True ∧ (if ((validT t) != (0 : Int)) = true then (([] : List Int) = y0 ∧ (0 : Int) = y1 ∧ (validT t) = y2 ∧ True) else (if ((List.length costs : Int) != (List.length t : Int)) = true then (true = true ∧ (([] : List Int) = y0 ∧ (0 : Int) = y1 ∧ (1 : Int) = y2 ∧ True)) else ((∀ r', r' ∈ costs → (fun (xx : (Int × Unit)) => True, fun (xx : (Int × Unit)) => (!(within xx.1 1 99), ())).1 (r', ())) ∧ (True ∧ (if (bif false then true else (costs.any (fun r' => ((fun (xx : (Int × Unit)) => True, fun (xx : (Int × Unit)) => (!(within xx.1 1 99), ())).2 (r', ())).1))) = true then (([] : List Int) = y0 ∧ (0 : Int) = y1 ∧ (1 : Int) = y2 ∧ True) else ((0 ≤ (List.length t : Int) ∧ (List.length t : Int) ≤ 4294967296) ∧ (inI ((List.length t : Int) * (99 : Int)) ∧ (inI (((List.length t : Int) * (99 : Int)) + (1 : Int)) ∧ ((0 ≤ (List.length t : Int) ∧ (List.length t : Int) ≤ 10) ∧ Λ1 (nums (List.length t : Int).toNat) (((List.length t : Int) * (99 : Int)) + (1 : Int)) (0 : Int))))))))))
def cCheapS_1 (Λ1 : (List Int) → Int → Int → Prop) (Λ2 : Int → Int → (List Int) → Int → Int → Prop) (t : (List (List Int))) (costs : (List Int)) (y0 : (List Int)) (y1 : Int) (y2 : Int)  (best_1 : (List Int)) (least_1 : Int) (t40_1 : Int) : Prop :=
  if (decide (t40_1 < (List.length (setsL (List.length t : Int).toNat) : Int))) = true then (idx t40_1 (List.length (setsL (List.length t : Int).toNat) : Int) ∧ Λ2 least_1 t40_1 best_1 (0 : Int) (0 : Int)) else (best_1 = y0 ∧ least_1 = y1 ∧ (0 : Int) = y2 ∧ True)
def cCheapS_2 (Λ1 : (List Int) → Int → Int → Prop) (Λ2 : Int → Int → (List Int) → Int → Int → Prop) (t : (List (List Int))) (costs : (List Int)) (y0 : (List Int)) (y1 : Int) (y2 : Int) (least_1 : Int) (t40_1 : Int) (best_2 : (List Int)) (sum_2 : Int) (t46_2 : Int) : Prop :=
  if (decide (t46_2 < (List.length (List.getD (setsL (List.length t : Int).toNat) (Int.toNat t40_1) ([] : List Int)) : Int))) = true then (idx t46_2 (List.length (List.getD (setsL (List.length t : Int).toNat) (Int.toNat t40_1) ([] : List Int)) : Int) ∧ (idx (List.getD (List.getD (setsL (List.length t : Int).toNat) (Int.toNat t40_1) ([] : List Int)) (Int.toNat t46_2) 0) (List.length costs : Int) ∧ (inI (sum_2 + (List.getD costs (Int.toNat (List.getD (List.getD (setsL (List.length t : Int).toNat) (Int.toNat t40_1) ([] : List Int)) (Int.toNat t46_2) 0)) 0)) ∧ (inI (t46_2 + (1 : Int)) ∧ Λ2 least_1 t40_1 best_2 (sum_2 + (List.getD costs (Int.toNat (List.getD (List.getD (setsL (List.length t : Int).toNat) (Int.toNat t40_1) ([] : List Int)) (Int.toNat t46_2) 0)) 0)) (t46_2 + (1 : Int)))))) else (if (decide (sum_2 < least_1)) = true then (true = true ∧ ((okT t ∧ inT t (List.getD (setsL (List.length t : Int).toNat) (Int.toNat t40_1) ([] : List Int))) ∧ (True ∧ (if (bif true then (coverB t (List.getD (setsL (List.length t : Int).toNat) (Int.toNat t40_1) ([] : List Int))) else false) = true then (inI (t40_1 + (1 : Int)) ∧ Λ1 (List.getD (setsL (List.length t : Int).toNat) (Int.toNat t40_1) ([] : List Int)) sum_2 (t40_1 + (1 : Int))) else (inI (t40_1 + (1 : Int)) ∧ Λ1 best_2 least_1 (t40_1 + (1 : Int))))))) else (if (sum_2 == least_1) = true then (True ∧ (True ∧ (True ∧ (if (bif false then true else (bif true then (decide ((cmpL (List.getD (setsL (List.length t : Int).toNat) (Int.toNat t40_1) ([] : List Int)) best_2) < (0 : Int))) else false)) = true then ((okT t ∧ inT t (List.getD (setsL (List.length t : Int).toNat) (Int.toNat t40_1) ([] : List Int))) ∧ (True ∧ (if (bif true then (coverB t (List.getD (setsL (List.length t : Int).toNat) (Int.toNat t40_1) ([] : List Int))) else false) = true then (inI (t40_1 + (1 : Int)) ∧ Λ1 (List.getD (setsL (List.length t : Int).toNat) (Int.toNat t40_1) ([] : List Int)) sum_2 (t40_1 + (1 : Int))) else (inI (t40_1 + (1 : Int)) ∧ Λ1 best_2 least_1 (t40_1 + (1 : Int)))))) else (false = false ∧ (inI (t40_1 + (1 : Int)) ∧ Λ1 best_2 least_1 (t40_1 + (1 : Int)))))))) else (false = false ∧ (True ∧ (if (bif false then true else false) = true then ((okT t ∧ inT t (List.getD (setsL (List.length t : Int).toNat) (Int.toNat t40_1) ([] : List Int))) ∧ (True ∧ (if (bif true then (coverB t (List.getD (setsL (List.length t : Int).toNat) (Int.toNat t40_1) ([] : List Int))) else false) = true then (inI (t40_1 + (1 : Int)) ∧ Λ1 (List.getD (setsL (List.length t : Int).toNat) (Int.toNat t40_1) ([] : List Int)) sum_2 (t40_1 + (1 : Int))) else (inI (t40_1 + (1 : Int)) ∧ Λ1 best_2 least_1 (t40_1 + (1 : Int)))))) else (false = false ∧ (inI (t40_1 + (1 : Int)) ∧ Λ1 best_2 least_1 (t40_1 + (1 : Int)))))))))
theorem cCheapS_law (h : ∀ (t : (List (List Int))) (costs : (List Int)), cCheapS.A.wf (t, costs, ()) → (costs.length ≤ 1000000) → ∀ (Λ1 : (List Int) → Int → Int → Prop) (Λ2 : Int → Int → (List Int) → Int → Int → Prop), (∀ (best_1 : (List Int)) (least_1 : Int) (t40_1 : Int), cCheapS_1 Λ1 Λ2 t costs (if errC t costs = 0 then (cheapT t costs).1 else []) (if errC t costs = 0 then (cheapT t costs).2 else 0) (errC t costs) best_1 least_1 t40_1 → Λ1 best_1 least_1 t40_1) → (∀ (least_1 : Int) (t40_1 : Int) (best_2 : (List Int)) (sum_2 : Int) (t46_2 : Int), cCheapS_2 Λ1 Λ2 t costs (if errC t costs = 0 then (cheapT t costs).1 else []) (if errC t costs = 0 then (cheapT t costs).2 else 0) (errC t costs) least_1 t40_1 best_2 sum_2 t46_2 → Λ2 least_1 t40_1 best_2 sum_2 t46_2) → cCheapS_0 Λ1 Λ2 t costs (if errC t costs = 0 then (cheapT t costs).1 else []) (if errC t costs = 0 then (cheapT t costs).2 else 0) (errC t costs)) : ConOK Go.Proofs.Try.prog 46 cCheapS := by
  refine lawL (Γ := [(67, cAll8), (94, cCheap1), (59, cCmpL), (73, cContI8), (69, cIsCov), (58, cSets), (35, cVal8)]) (Θ := Th) (n := 81) [([1, 1, 1, 1, 0, 1, 0], ⟨[(0, false), (1, false), (8, true), (9, true), (38, true), (39, true), (40, true)], []⟩), ([1, 1, 1, 1, 0, 1, 0, 0, 1, 1, 0, 0, 1, 1, 0, 1, 0], ⟨[(0, false), (1, false), (8, true), (9, true), (11, true), (12, true), (38, true), (39, true), (40, true), (44, true), (45, true), (46, true)], []⟩)] ⟨cAll8_ok, cCheap1_ok, cCmpL_ok, cContI8_ok, cIsCov_ok, cSets_ok, cVal8_ok, trivial⟩ (by kernel_rfl) th_ok mix_ok Go.Proofs.Try.func46 (by kernel_rfl) ?_
  intro x hw hp Λ hC
  have h0 := h x.1 x.2.1 hw hp (fun best_1 least_1 t40_1 => Λ [1, 1, 1, 1, 0, 1, 0] ([(0, .d false (.sl (.sl .int)) x.1), (1, .d false (.sl .int) x.2.1), (8, .d true (.sl .int) best_1), (9, .d true .int least_1), (38, .d true (.sl (.sl .int)) (setsL (List.length x.1 : Int).toNat)), (39, .d true .int (List.length (setsL (List.length x.1 : Int).toNat) : Int)), (40, .d true .int t40_1)], [])) (fun least_1 t40_1 best_2 sum_2 t46_2 => Λ [1, 1, 1, 1, 0, 1, 0, 0, 1, 1, 0, 0, 1, 1, 0, 1, 0] ([(0, .d false (.sl (.sl .int)) x.1), (1, .d false (.sl .int) x.2.1), (8, .d true (.sl .int) best_2), (9, .d true .int least_1), (11, .d true (.sl .int) (List.getD (setsL (List.length x.1 : Int).toNat) (Int.toNat t40_1) ([] : List Int))), (12, .d true .int sum_2), (38, .d true (.sl (.sl .int)) (setsL (List.length x.1 : Int).toNat)), (39, .d true .int (List.length (setsL (List.length x.1 : Int).toNat) : Int)), (40, .d true .int t40_1), (44, .d true (.sl .int) (List.getD (setsL (List.length x.1 : Int).toNat) (Int.toNat t40_1) ([] : List Int))), (45, .d true .int (List.length (List.getD (setsL (List.length x.1 : Int).toNat) (Int.toNat t40_1) ([] : List Int)) : Int)), (46, .d true .int t46_2)], [])) (fun best_1 least_1 t40_1 hb => hC [1, 1, 1, 1, 0, 1, 0] ([(0, .d false (.sl (.sl .int)) x.1), (1, .d false (.sl .int) x.2.1), (8, .d true (.sl .int) best_1), (9, .d true .int least_1), (38, .d true (.sl (.sl .int)) (setsL (List.length x.1 : Int).toNat)), (39, .d true .int (List.length (setsL (List.length x.1 : Int).toNat) : Int)), (40, .d true .int t40_1)], []) (Eq.mpr (by kernel_rfl) hb)) (fun least_1 t40_1 best_2 sum_2 t46_2 hb => hC [1, 1, 1, 1, 0, 1, 0, 0, 1, 1, 0, 0, 1, 1, 0, 1, 0] ([(0, .d false (.sl (.sl .int)) x.1), (1, .d false (.sl .int) x.2.1), (8, .d true (.sl .int) best_2), (9, .d true .int least_1), (11, .d true (.sl .int) (List.getD (setsL (List.length x.1 : Int).toNat) (Int.toNat t40_1) ([] : List Int))), (12, .d true .int sum_2), (38, .d true (.sl (.sl .int)) (setsL (List.length x.1 : Int).toNat)), (39, .d true .int (List.length (setsL (List.length x.1 : Int).toNat) : Int)), (40, .d true .int t40_1), (44, .d true (.sl .int) (List.getD (setsL (List.length x.1 : Int).toNat) (Int.toNat t40_1) ([] : List Int))), (45, .d true .int (List.length (List.getD (setsL (List.length x.1 : Int).toNat) (Int.toNat t40_1) ([] : List Int)) : Int)), (46, .d true .int t46_2)], []) (Eq.mpr (by kernel_rfl) hb))
  exact Eq.mpr (by kernel_rfl) h0
theorem cCheapS_ok : ConOK Go.Proofs.Try.prog 46 cCheapS := by
  refine cCheapS_law ?_
  intro t costs hw hp Λ1 Λ2 h1 h2
  unfold cCheapS_0
  refine ⟨trivial, ?_⟩
  by_cases h0 : validT t = 0
  · rw [if_neg (by simp [h0])]
    have ht := validT_ok.1 h0
    have h8 := ht.1
    by_cases hl : costs.length = t.length
    · rw [if_neg (by simp [hl])]
      refine ⟨fun _ _ => trivial, trivial, ?_⟩
      have he : errC t costs = argErr (costs.all fun n => within n 1 99) := by unfold errC; rw [if_pos h0, if_pos hl]
      have hany : (costs.any fun n => !within n 1 99) = !costs.all fun n => within n 1 99 := any_not_all (fun n => within n 1 99) costs
      show if (costs.any fun n => !within n 1 99) = true then _ else _
      rw [hany]
      cases hall : costs.all fun n => within n 1 99
      · rw [if_pos (by rfl), he, hall]
        exact ⟨rfl, rfl, rfl, trivial⟩
      · rw [if_neg (by simp)]
        have he0 : errC t costs = 0 := by rw [he, hall]; rfl
        rw [he0] at h1 h2
        rw [if_pos rfl, if_pos rfl] at h1 h2
        have hc := all_within hall
        refine ⟨⟨by omega, by omega⟩, by unfold inI; omega, by unfold inI; omega, ⟨by omega, by omega⟩, ?_⟩
        obtain ⟨n, hn⟩ : ∃ n, n = t.length := ⟨_, rfl⟩
        have h2n : 2 ^ n ≤ 256 := Nat.le_trans (Nat.pow_le_pow_right (by omega) (show n ≤ 8 by omega)) (by decide)
        have hsl := setsL_len n
        have hfin : cheapS t costs (2 ^ n) = cheapT t costs := by
          rw [← cheap_same hl hc (nums t.length)]
          unfold cheapS
          rw [List.take_of_length_le (by rw [setsL_len, ← hn]; exact Nat.le_refl _)]
        have hlen : ∀ k, (cheapS t costs k).1.length ≤ t.length := by
          intro k
          unfold cheapS
          have : ∀ (l : List (List Int)) (st : List Int × Int), (∀ s ∈ l, s.length ≤ t.length) → st.1.length ≤ t.length → (l.foldl (stepS t costs) st).1.length ≤ t.length := by
            intro l
            induction l with
            | nil => intro st _ h; exact h
            | cons s l ih =>
              intro st hl2 h
              refine ih _ (fun z hz => hl2 z (by simp [hz])) ?_
              unfold stepS
              split
              · exact hl2 s (by simp)
              · exact h
          exact this _ _ (fun s hs => setsL_lens _ s (List.mem_of_mem_take hs)) (by rw [nums_len]; exact Nat.le_refl _)
        have key : ∀ b, b ≤ 2 ^ n → Λ1 (cheapS t costs b).1 (cheapS t costs b).2 b := by
          refine upto ?_ ?_
          · apply h1; unfold cCheapS_1
            rw [Int.toNat_natCast, ← hn, if_neg (by rw [hsl]; simp)]
            rw [hfin]
            exact ⟨rfl, rfl, rfl, trivial⟩
          · intro b hb ih
            apply h1; unfold cCheapS_1
            rw [Int.toNat_natCast, ← hn, if_pos (by rw [hsl, decide_eq_true_eq]; exact_mod_cast hb)]
            refine ⟨⟨by omega, by rw [hsl]; exact_mod_cast hb⟩, ?_⟩
            rw [cheapS_succ (by rw [← hn]; exact hb)] at ih
            have hol := hlen b
            generalize cheapS t costs b = st at ih hol ⊢
            obtain ⟨out, least⟩ := st
            have hSe : (setsL n).getD b [] = setOf n b := setsL_get hb
            obtain ⟨S, hS⟩ : ∃ S, S = setOf n b := ⟨_, rfl⟩
            have hSl : S.length ≤ 8 := by rw [hS]; have := setOf_len n b; omega
            have hSm : ∀ r ∈ S, 0 ≤ r ∧ r < t.length := fun r hr => by rw [← hn]; exact setOf_mem (by rw [← hS]; exact hr)
            rw [← hn, ← hS] at ih
            have hin : inI ((b : Int) + 1) := by unfold inI; omega
            have hv : ∀ r ∈ S, 0 ≤ costs.getD r.toNat 0 ∧ costs.getD r.toNat 0 ≤ 99 := fun r hr => by
              have q := hSm r hr
              have := hc _ (mem_getD (d := 0) (l := costs) (i := r.toNat) (by omega))
              omega
            have hsb : ∀ i, 0 ≤ ((S.take i).map fun r => costs.getD r.toNat 0).sum ∧ ((S.take i).map fun r => costs.getD r.toNat 0).sum ≤ 1000 := fun i => by
              have := sum_bound (l := S.take i) (f := fun r => costs.getD r.toNat 0) (a := 0) (b := 99) fun g hg => hv g (List.mem_of_mem_take hg)
              have h2 : (S.take i).length ≤ 8 := by rw [List.length_take]; omega
              omega
            unfold stepS at ih
            dsimp only at ih hol ⊢
            refine upto (n := S.length) (Q := fun i => Λ2 least (b : Int) out (((S.take i).map fun r => costs.getD r.toNat 0).sum) (i : Int)) ?_ ?_ 0 (Nat.zero_le _)
            · apply h2; unfold cCheapS_2
              rw [Int.toNat_natCast, Int.toNat_natCast, ← hn, hSe, ← hS, if_neg (by simp), List.take_length]
              have hce : (S.map fun r => costs.getD r.toNat 0).sum = costOf costs S := rfl
              rw [hce]
              have hyes : (costOf costs S < least ∨ (costOf costs S = least ∧ cmpL S out < 0)) → (okT t ∧ inT t S) ∧ (True ∧ (if (bif true then coverB t S else false) = true then (inI ((b : Int) + 1) ∧ Λ1 S (costOf costs S) ((b : Int) + 1)) else (inI ((b : Int) + 1) ∧ Λ1 out least ((b : Int) + 1)))) := by
                intro hq
                refine ⟨⟨ht, hSm⟩, trivial, ?_⟩
                cases hcv : coverB t S
                · rw [if_neg (by simp)]
                  rw [if_neg (by rw [hcv]; simp)] at ih
                  exact ⟨hin, ih⟩
                · rw [if_pos (by rfl)]
                  rw [if_pos ⟨hq, hcv⟩] at ih
                  exact ⟨hin, ih⟩
              have hnot : ¬ (costOf costs S < least ∨ (costOf costs S = least ∧ cmpL S out < 0)) → Λ1 out least ((b : Int) + 1) := by
                intro hq
                rw [if_neg (fun q => hq q.1)] at ih
                exact ih
              by_cases l1 : costOf costs S < least
              · rw [if_pos (by simpa using l1)]
                exact ⟨rfl, hyes (.inl l1)⟩
              · rw [if_neg (by simpa using l1)]
                by_cases l2 : costOf costs S = least
                · rw [if_pos (by simp [l2])]
                  refine ⟨trivial, trivial, trivial, ?_⟩
                  by_cases l3 : cmpL S out < 0
                  · rw [if_pos (by simpa using l3)]
                    exact hyes (.inr ⟨l2, l3⟩)
                  · rw [if_neg (by simpa using l3)]
                    exact ⟨rfl, hin, hnot (by omega)⟩
                · rw [if_neg (by simpa using l2)]
                  refine ⟨rfl, trivial, ?_⟩
                  rw [if_neg (by simp)]
                  exact ⟨rfl, hin, hnot (by omega)⟩
            · intro i hi ihi
              apply h2; unfold cCheapS_2
              rw [Int.toNat_natCast, Int.toNat_natCast, Int.toNat_natCast, ← hn, hSe, ← hS, if_pos (by simpa using hi)]
              have h5 := hsb i
              have h6 := hSm _ (mem_getD (d := 0) hi)
              have h7 := hv _ (mem_getD (d := 0) hi)
              rw [sum_take (f := fun r => costs.getD r.toNat 0) hi] at ihi
              generalize S.getD i 0 = g at h6 h7 ihi ⊢
              exact ⟨idx_nat hi, ⟨h6.1, by omega⟩, by unfold inI; omega, by unfold inI; omega, ihi⟩
        have := key 0 (Nat.zero_le _)
        rw [Int.toNat_natCast]
        rw [show (t.length : Int) * 99 + 1 = 99 * (t.length : Int) + 1 by omega]
        exact this
    · rw [if_pos (by simp; omega)]
      have he : errC t costs = 1 := by unfold errC; rw [if_pos h0, if_neg hl]
      rw [he]
      exact ⟨rfl, rfl, rfl, rfl, trivial⟩
  · rw [if_pos (by simp [h0])]
    have he : errC t costs = validT t := by unfold errC; rw [if_neg h0]
    rw [he, if_neg h0, if_neg h0]
    exact ⟨rfl, rfl, rfl, trivial⟩
theorem errC_ones {t : Ste} (h : validT t = 0) : errC t (List.replicate t.length 1) = 0 := by
  unfold errC
  rw [if_pos h, if_pos (by simp)]
  rw [argErr_zero, List.all_eq_true]
  intro x hx
  rw [List.eq_of_mem_replicate hx]
  decide
abbrev cCheapestsL : Con := { A := (.cons (.sl (.sl .int)) (.cons (.sl .int) .nil)), R := (.cons .bool .nil), pre := fun x => True, F := fun x => (true, ()) }
def cCheapestsL_0 (Λ1 : Int → Int → Prop) (Λ2 : Int → Int → (List Int) → Prop) (t : (List (List Int))) (costs : (List Int)) (y0 : Bool) : Prop :=
  True ∧ (if (longT t) = true then (true = true ∧ (True ∧ (true = y0 ∧ True))) else (True ∧ (if (bif false then true else (decide ((List.length costs : Int) > (50 : Int)))) = true then (True ∧ (true = y0 ∧ True)) else (costs.length ≤ 1000000 ∧ (costs.length ≤ 1000000 ∧ (True ∧ (if (!(decide (((if errC t costs = 0 then (cheapT t costs).1 else [])) = ((if errC t costs = 0 then (cheapT t costs).1 else []))))) = true then (true = true ∧ (true = true ∧ (false = y0 ∧ True))) else (True ∧ (if (bif false then true else (((if errC t costs = 0 then (cheapT t costs).2 else 0)) != ((if errC t costs = 0 then (cheapT t costs).2 else 0)))) = true then (true = true ∧ (false = y0 ∧ True)) else (True ∧ (if (bif false then true else ((errC t costs) != (errC t costs))) = true then (false = y0 ∧ True) else (if ((errC t costs) != (0 : Int)) = true then (True ∧ (true = y0 ∧ True)) else Λ1 (0 : Int) (0 : Int)))))))))))))
def cCheapestsL_1 (Λ1 : Int → Int → Prop) (Λ2 : Int → Int → (List Int) → Prop) (t : (List (List Int))) (costs : (List Int)) (y0 : Bool)  (sum_1 : Int) (i_1 : Int) : Prop :=
  if (decide (i_1 < (List.length ((if errC t costs = 0 then (cheapT t costs).1 else [])) : Int))) = true then (idx i_1 (List.length ((if errC t costs = 0 then (cheapT t costs).1 else [])) : Int) ∧ (if (decide ((List.getD ((if errC t costs = 0 then (cheapT t costs).1 else [])) (Int.toNat i_1) 0) < (0 : Int))) = true then (true = true ∧ (false = y0 ∧ True)) else (idx i_1 (List.length ((if errC t costs = 0 then (cheapT t costs).1 else [])) : Int) ∧ (True ∧ (if (bif false then true else (decide ((List.getD ((if errC t costs = 0 then (cheapT t costs).1 else [])) (Int.toNat i_1) 0) ≥ (List.length costs : Int)))) = true then (false = y0 ∧ True) else (idx i_1 (List.length ((if errC t costs = 0 then (cheapT t costs).1 else [])) : Int) ∧ (idx (List.getD ((if errC t costs = 0 then (cheapT t costs).1 else [])) (Int.toNat i_1) 0) (List.length costs : Int) ∧ (inI (sum_1 + (List.getD costs (Int.toNat (List.getD ((if errC t costs = 0 then (cheapT t costs).1 else [])) (Int.toNat i_1) 0)) 0)) ∧ (inI (i_1 + (1 : Int)) ∧ Λ1 (sum_1 + (List.getD costs (Int.toNat (List.getD ((if errC t costs = 0 then (cheapT t costs).1 else [])) (Int.toNat i_1) 0)) 0)) (i_1 + (1 : Int))))))))))) else Λ2 sum_1 (0 : Int) ([] : List Int)
def cCheapestsL_2 (Λ1 : Int → Int → Prop) (Λ2 : Int → Int → (List Int) → Prop) (t : (List (List Int))) (costs : (List Int)) (y0 : Bool) (sum_1 : Int) (i_2 : Int) (ones_2 : (List Int)) : Prop :=
  if (decide (i_2 < (List.length t : Int))) = true then (List.length ones_2 + List.length [(1 : Int)] ≤ 4294967296 ∧ (inI (i_2 + (1 : Int)) ∧ Λ2 sum_1 (i_2 + (1 : Int)) (ones_2 ++ [(1 : Int)]))) else (ones_2.length ≤ 1000000 ∧ (True ∧ (if (sum_1 == ((if errC t costs = 0 then (cheapT t costs).2 else 0))) = true then (True ∧ (True ∧ (if (bif true then (((if rowsT t ((if errC t costs = 0 then (cheapT t costs).1 else [])) = 0 then (if coverB t ((if errC t costs = 0 then (cheapT t costs).1 else [])) then 0 else 7) else rowsT t ((if errC t costs = 0 then (cheapT t costs).1 else [])))) == (0 : Int)) else false) = true then (True ∧ (if (bif true then ((errC t ones_2) == (0 : Int)) else false) = true then (True ∧ (if (bif true then ((validT t) == (0 : Int)) else false) = true then (True ∧ (True ∧ (if (bif true then (decide (((if errC t ones_2 = 0 then (cheapT t ones_2).1 else [])) = ((if validT t = 0 then coverS t else [])))) else false) = true then (True ∧ (if (bif true then (((if errC t ones_2 = 0 then (cheapT t ones_2).2 else 0)) == (List.length ((if validT t = 0 then coverS t else [])) : Int)) else false) = true then (True ∧ (True ∧ ((bif true then true else false) = y0 ∧ True))) else (false = false ∧ (false = y0 ∧ True)))) else (false = false ∧ (false = false ∧ (false = y0 ∧ True)))))) else (false = false ∧ (false = false ∧ (false = false ∧ (false = y0 ∧ True)))))) else (false = false ∧ (false = false ∧ (false = false ∧ (false = false ∧ (false = y0 ∧ True))))))) else (false = false ∧ (false = false ∧ (false = false ∧ (false = false ∧ (false = false ∧ (false = y0 ∧ True))))))))) else (false = false ∧ (false = false ∧ (false = false ∧ (false = false ∧ (false = false ∧ (false = false ∧ (false = y0 ∧ True))))))))))
theorem cCheapestsL_law (h : ∀ (t : (List (List Int))) (costs : (List Int)), cCheapestsL.A.wf (t, costs, ()) → ∀ (Λ1 : Int → Int → Prop) (Λ2 : Int → Int → (List Int) → Prop), (∀ (sum_1 : Int) (i_1 : Int), cCheapestsL_1 Λ1 Λ2 t costs true sum_1 i_1 → Λ1 sum_1 i_1) → (∀ (sum_1 : Int) (i_2 : Int) (ones_2 : (List Int)), cCheapestsL_2 Λ1 Λ2 t costs true sum_1 i_2 ones_2 → Λ2 sum_1 i_2 ones_2) → cCheapestsL_0 Λ1 Λ2 t costs true) : ConOK Go.Proofs.Try.prog 12 cCheapestsL := by
  refine lawL (Γ := [(47, cCheapR), (46, cCheapS), (29, cCheckCov), (27, cCover), (17, cLong8), (21, cSameI8), (18, cSane8)]) (Θ := Th) (n := 140) [([1, 1, 1, 1, 1, 1, 1, 0, 1, 0], ⟨[(0, false), (1, false), (5, true), (6, true), (11, true), (12, true)], []⟩), ([1, 1, 1, 1, 1, 1, 1, 1, 1, 0, 1, 0], ⟨[(0, false), (5, true), (6, true), (11, true), (13, true), (14, true)], [(13, true)]⟩)] ⟨cCheapR_ok, cCheapS_ok, cCheckCov_ok, cCover_ok, cLong8_ok, cSameI8_ok, cSane8_ok, trivial⟩ (by kernel_rfl) th_ok mix_ok Go.Proofs.Try.func12 (by kernel_rfl) ?_
  intro x hw hp Λ hC
  have h0 := h x.1 x.2.1 hw (fun sum_1 i_1 => Λ [1, 1, 1, 1, 1, 1, 1, 0, 1, 0] ([(0, .d false (.sl (.sl .int)) x.1), (1, .d false (.sl .int) x.2.1), (5, .d true (.sl .int) ((if errC x.1 x.2.1 = 0 then (cheapT x.1 x.2.1).1 else []))), (6, .d true .int ((if errC x.1 x.2.1 = 0 then (cheapT x.1 x.2.1).2 else 0))), (11, .d true .int sum_1), (12, .d true .int i_1)], [])) (fun sum_1 i_2 ones_2 => Λ [1, 1, 1, 1, 1, 1, 1, 1, 1, 0, 1, 0] ([(0, .d false (.sl (.sl .int)) x.1), (5, .d true (.sl .int) ((if errC x.1 x.2.1 = 0 then (cheapT x.1 x.2.1).1 else []))), (6, .d true .int ((if errC x.1 x.2.1 = 0 then (cheapT x.1 x.2.1).2 else 0))), (11, .d true .int sum_1), (13, .own 13 0), (14, .d true .int i_2)], [(13, .sl true .int ones_2)])) (fun sum_1 i_1 hb => hC [1, 1, 1, 1, 1, 1, 1, 0, 1, 0] ([(0, .d false (.sl (.sl .int)) x.1), (1, .d false (.sl .int) x.2.1), (5, .d true (.sl .int) ((if errC x.1 x.2.1 = 0 then (cheapT x.1 x.2.1).1 else []))), (6, .d true .int ((if errC x.1 x.2.1 = 0 then (cheapT x.1 x.2.1).2 else 0))), (11, .d true .int sum_1), (12, .d true .int i_1)], []) (Eq.mpr (by kernel_rfl) hb)) (fun sum_1 i_2 ones_2 hb => hC [1, 1, 1, 1, 1, 1, 1, 1, 1, 0, 1, 0] ([(0, .d false (.sl (.sl .int)) x.1), (5, .d true (.sl .int) ((if errC x.1 x.2.1 = 0 then (cheapT x.1 x.2.1).1 else []))), (6, .d true .int ((if errC x.1 x.2.1 = 0 then (cheapT x.1 x.2.1).2 else 0))), (11, .d true .int sum_1), (13, .own 13 0), (14, .d true .int i_2)], [(13, .sl true .int ones_2)]) (Eq.mpr (by kernel_rfl) hb))
  exact Eq.mpr (by kernel_rfl) h0
theorem cCheapestsL_ok : ConOK Go.Proofs.Try.prog 12 cCheapestsL := by
  refine cCheapestsL_law ?_
  intro t costs hw Λ1 Λ2 h1 h2
  unfold cCheapestsL_0
  refine ⟨trivial, ?_⟩
  cases hL : longT t
  · rw [if_neg (by simp)]
    refine ⟨trivial, ?_⟩
    by_cases h50 : costs.length > 50
    · rw [if_pos (by simp; omega)]
      exact ⟨trivial, rfl, trivial⟩
    · rw [if_neg (by simp; omega)]
      have h6 : costs.length ≤ 1000000 := by omega
      refine ⟨h6, h6, trivial, ?_⟩
      rw [if_neg (by simp)]
      refine ⟨trivial, ?_⟩
      rw [if_neg (by simp)]
      refine ⟨trivial, ?_⟩
      rw [if_neg (by simp)]
      by_cases he : errC t costs = 0
      · rw [if_neg (by simp [he])]
        obtain ⟨ht, hl, hc⟩ := errC_ok he
        have hv := validT_ok.2 ht
        have h8 := ht.1
        have hc0 : ∀ x ∈ costs, 0 ≤ x := fun x hx => by have := hc x hx; omega
        obtain ⟨a1, a2, a3, _⟩ := cheapT_spec (t := t) hc0
        have hsS := up_set.1 a1
        have hrow : rowsT t (cheapT t costs).1 = 0 := by unfold rowsT; rw [if_pos hv, hsS]; rfl
        have hal : (cheapT t costs).1.length ≤ 8 := by rcases up_len a1 with h | h <;> (try rw [h]) <;> (try simp) <;> omega
        have ham := up_in a1
        have hvv : ∀ r ∈ (cheapT t costs).1, 0 ≤ costs.getD r.toNat 0 ∧ costs.getD r.toNat 0 ≤ 99 := fun r hr => by
          have q := ham r hr
          have := hc _ (mem_getD (d := 0) (l := costs) (i := r.toNat) (by omega))
          omega
        have hsb : ∀ i, 0 ≤ (((cheapT t costs).1.take i).map fun r => costs.getD r.toNat 0).sum ∧ (((cheapT t costs).1.take i).map fun r => costs.getD r.toNat 0).sum ≤ 1000 := fun i => by
          have := sum_bound (l := (cheapT t costs).1.take i) (f := fun r => costs.getD r.toNat 0) (a := 0) (b := 99) fun g hg => hvv g (List.mem_of_mem_take hg)
          have h2 : ((cheapT t costs).1.take i).length ≤ 8 := by rw [List.length_take]; omega
          omega
        have eA : ((if errC t costs = 0 then (cheapT t costs).1 else []) : List Int) = (cheapT t costs).1 := if_pos he
        have eB : ((if errC t costs = 0 then (cheapT t costs).2 else 0) : Int) = (cheapT t costs).2 := if_pos he
        refine upto (n := (cheapT t costs).1.length) (Q := fun i => Λ1 ((((cheapT t costs).1.take i).map fun r => costs.getD r.toNat 0).sum) (i : Int)) ?_ ?_ 0 (Nat.zero_le _)
        · apply h1; unfold cCheapestsL_1
          rw [eA, if_neg (by simp), List.take_length]
          have hce : ((cheapT t costs).1.map fun r => costs.getD r.toNat 0).sum = costOf costs (cheapT t costs).1 := rfl
          rw [hce, ← a3]
          refine upto (n := t.length) (Q := fun i => Λ2 (cheapT t costs).2 (i : Int) (List.replicate i 1)) ?_ ?_ 0 (Nat.zero_le _)
          · apply h2; unfold cCheapestsL_2
            rw [if_neg (by simp), eA, eB]
            refine ⟨by simp; omega, trivial, ?_⟩
            rw [errC_ones hv, cheap_ones]
            simp [hrow, a2, hv]
          · intro i hi ih
            apply h2; unfold cCheapestsL_2
            rw [if_pos (by simpa using hi)]
            rw [List.replicate_succ'] at ih
            exact ⟨by simp; omega, by unfold inI; omega, ih⟩
        · intro i hi ih
          apply h1; unfold cCheapestsL_1
          rw [eA, if_pos (by simpa using hi), Int.toNat_natCast]
          have h5 := hsb i
          have h6 := ham _ (mem_getD (d := 0) hi)
          have h7 := hvv _ (mem_getD (d := 0) hi)
          rw [sum_take (f := fun r => costs.getD r.toNat 0) hi] at ih
          generalize (cheapT t costs).1.getD i 0 = g at h6 h7 ih ⊢
          refine ⟨idx_nat hi, ?_⟩
          rw [if_neg (by simp; omega)]
          refine ⟨idx_nat hi, trivial, ?_⟩
          rw [if_neg (by simp; omega)]
          exact ⟨idx_nat hi, ⟨h6.1, by omega⟩, by unfold inI; omega, by unfold inI; omega, ih⟩
      · rw [if_pos (by simpa using he)]
        exact ⟨trivial, rfl, trivial⟩
  · rw [if_pos rfl]
    exact ⟨rfl, trivial, rfl, trivial⟩
end Go.Tk
