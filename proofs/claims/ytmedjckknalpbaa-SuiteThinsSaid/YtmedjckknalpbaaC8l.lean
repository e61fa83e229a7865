import Derived.Test.YtmedjckknalpbaaC8k
import Derived.Test.YtmedjckknalpbaaP8c
set_option linter.unusedSimpArgs false
set_option linter.unusedVariables false
set_option linter.unnecessarySimpa false
namespace Go.Tk
open Go Go.RowKit
abbrev cChecksL : Con := { A := (.cons (.sl (.sl .int)) (.cons (.sl .int) .nil)), R := (.cons .bool .nil), pre := fun x => True, F := fun x => (true, ()) }
def cChecksL_0 (Λ1 : Int → Prop) (t : (List (List Int))) (rows : (List Int)) (y0 : Bool) : Prop :=
  True ∧ (if (longT t) = true then (true = true ∧ (True ∧ (true = y0 ∧ True))) else (True ∧ (if (bif false then true else (decide ((List.length rows : Int) > (50 : Int)))) = true then (True ∧ (true = y0 ∧ True)) else (True ∧ (rows.length ≤ 1000000 ∧ (if (((if rowsT t rows = 0 then (if coverB t rows then 0 else 7) else rowsT t rows)) != ((if rowsT t rows = 0 then (if coverB t rows then 0 else 7) else rowsT t rows))) = true then (false = y0 ∧ True) else (if (((if rowsT t rows = 0 then (if coverB t rows then 0 else 7) else rowsT t rows)) != (0 : Int)) = true then (True ∧ (true = y0 ∧ True)) else (True ∧ (True ∧ Λ1 (0 : Int))))))))))
def cChecksL_1 (Λ1 : Int → Prop) (t : (List (List Int))) (rows : (List Int)) (y0 : Bool)  (i_1 : Int) : Prop :=
  if (decide (i_1 < (List.length ((if validT t = 0 then essT t else [])) : Int))) = true then (idx i_1 (List.length ((if validT t = 0 then essT t else [])) : Int) ∧ (True ∧ (if (!(decide ((List.getD ((if validT t = 0 then essT t else [])) (Int.toNat i_1) 0) ∈ rows))) = true then (false = y0 ∧ True) else (inI (i_1 + (1 : Int)) ∧ Λ1 (i_1 + (1 : Int)))))) else (if ((validT t) == (0 : Int)) = true then (True ∧ (if (bif true then ((validT t) == (0 : Int)) else false) = true then (True ∧ (if (bif true then (decide ((List.length ((if validT t = 0 then coverS t else [])) : Int) ≤ (List.length rows : Int))) else false) = true then (True ∧ (True ∧ ((bif true then true else false) = y0 ∧ True))) else (false = false ∧ (false = y0 ∧ True)))) else (false = false ∧ (false = false ∧ (false = y0 ∧ True))))) else (false = false ∧ (false = false ∧ (false = false ∧ (false = y0 ∧ True)))))
theorem cChecksL_law (h : ∀ (t : (List (List Int))) (rows : (List Int)), cChecksL.A.wf (t, rows, ()) → ∀ (Λ1 : Int → Prop), (∀ (i_1 : Int), cChecksL_1 Λ1 t rows true i_1 → Λ1 i_1) → cChecksL_0 Λ1 t rows true) : ConOK Go.Proofs.Try.prog 6 cChecksL := by
  refine lawL (Γ := [(29, cCheckCov), (30, cCheckCovR), (27, cCover), (22, cEssential), (26, cHasL8), (17, cLong8), (18, cSane8)]) (Θ := Th) (n := 69) [([1, 1, 1, 1, 1, 1, 1, 0, 1, 0], ⟨[(1, false), (6, true), (7, true), (8, true), (9, true), (10, true)], [(37, true)]⟩)] ⟨cCheckCov_ok, cCheckCovR_ok, cCover_ok, cEssential_ok, cHasL8_ok, cLong8_ok, cSane8_ok, trivial⟩ (by kernel_rfl) th_ok mix_ok Go.Proofs.Try.func6 (by kernel_rfl) ?_
  intro x hw hp Λ hC
  have h0 := h x.1 x.2.1 hw (fun i_1 => Λ [1, 1, 1, 1, 1, 1, 1, 0, 1, 0] ([(1, .d false (.sl .int) x.2.1), (6, .d true (.sl .int) ((if validT x.1 = 0 then coverS x.1 else []))), (7, .d true .int (validT x.1)), (8, .own 37 0), (9, .d true .int (validT x.1)), (10, .d true .int i_1)], [(37, .sl true .int ((if validT x.1 = 0 then essT x.1 else [])))])) (fun i_1 hb => hC [1, 1, 1, 1, 1, 1, 1, 0, 1, 0] ([(1, .d false (.sl .int) x.2.1), (6, .d true (.sl .int) ((if validT x.1 = 0 then coverS x.1 else []))), (7, .d true .int (validT x.1)), (8, .own 37 0), (9, .d true .int (validT x.1)), (10, .d true .int i_1)], [(37, .sl true .int ((if validT x.1 = 0 then essT x.1 else [])))]) (Eq.mpr (by kernel_rfl) hb))
  exact Eq.mpr (by kernel_rfl) h0
theorem cChecksL_ok : ConOK Go.Proofs.Try.prog 6 cChecksL := by
  refine cChecksL_law ?_
  intro t rows hw Λ1 h1
  unfold cChecksL_0
  refine ⟨trivial, ?_⟩
  cases hL : longT t
  · rw [if_neg (by simp)]
    refine ⟨trivial, ?_⟩
    by_cases h50 : rows.length > 50
    · rw [if_pos (by simp; omega)]
      exact ⟨trivial, rfl, trivial⟩
    · rw [if_neg (by simp; omega)]
      have h6 : rows.length ≤ 1000000 := by omega
      refine ⟨trivial, h6, ?_⟩
      rw [if_neg (by simp)]
      by_cases hr : rowsT t rows = 0
      · rw [if_pos hr]
        cases hc : coverB t rows
        · rw [if_pos (by rfl)]
          exact ⟨trivial, rfl, trivial⟩
        · rw [if_neg (by simp)]
          obtain ⟨g1, g2, g3⟩ := rowsT_ok hr
          have hv := validT_ok.2 g1
          refine ⟨trivial, trivial, ?_⟩
          have hlen : ((if validT t = 0 then essT t else []) : List Int).length ≤ 50 := by
            rw [if_pos hv]
            have := filt_nums_len (fun r => !coverB t (others t r)) t.length
            have h8 := g1.1
            show (essT t).length ≤ 50
            unfold essT
            omega
          have hin : ∀ r, r ∈ ((if validT t = 0 then essT t else []) : List Int) → r ∈ rows := by
            rw [if_pos hv]
            exact fun r h => ess_in g2 hc h
          have hle : ((if validT t = 0 then coverS t else []) : List Int).length ≤ rows.length := by
            rw [if_pos hv]
            rcases (coverS_spec t).2.2 rows g3 hc with h | h
            · omega
            · omega
          refine upto (n := ((if validT t = 0 then essT t else []) : List Int).length) (Q := fun i => Λ1 i) ?_ ?_ 0 (Nat.zero_le _)
          · apply h1; unfold cChecksL_1
            rw [if_neg (by simp), if_pos (by simp [hv])]
            refine ⟨trivial, ?_⟩
            rw [if_pos (by simp [hv])]
            refine ⟨trivial, ?_⟩
            rw [if_pos (by rw [cond_true, decide_eq_true_eq]; omega)]
            exact ⟨trivial, trivial, rfl, trivial⟩
          · intro i hi ih
            apply h1; unfold cChecksL_1
            rw [if_pos (by simpa using hi), Int.toNat_natCast]
            have hd := hin _ (mem_getD (d := 0) hi)
            refine ⟨idx_nat hi, trivial, ?_⟩
            rw [if_neg (by rw [decide_eq_true hd]; simp)]
            exact ⟨by unfold inI; omega, ih⟩
      · rw [if_neg hr, if_pos (by simpa using hr)]
        exact ⟨trivial, rfl, trivial⟩
  · rw [if_pos rfl]
    exact ⟨rfl, trivial, rfl, trivial⟩
end Go.Tk
