import Derived.Test.YtmedjckknalpbaaC8n
import Derived.Test.YtmedjckknalpbaaP8t
set_option linter.unusedSimpArgs false
set_option linter.unusedVariables false
set_option linter.unnecessarySimpa false
namespace Go.Tk
open Go Go.RowKit
theorem lessN_succ (t : Ste) (i : Nat) : (((nums (i + 1)).filter fun r => !decide (r ∈ needT t)).map fun r => t.getD r.toNat []) = (((nums i).filter fun r => !decide (r ∈ needT t)).map fun r => t.getD r.toNat []) ++ (if (!decide ((i : Int) ∈ needT t)) = true then [t.getD i []] else []) := by
  rw [nums_succ, List.filter_append, List.map_append]
  congr 1
  by_cases h : (i : Int) ∈ needT t <;> simp [h]
abbrev cThinsL : Con := { A := (.cons (.sl (.sl .int)) .nil), R := (.cons .bool .nil), pre := fun x => True, F := fun x => (true, ()) }
def cThinsL_0 (Λ1 : Int → (List (List Int)) → Prop) (t : (List (List Int))) (y0 : Bool) : Prop :=
  True ∧ (if (longT t) = true then (True ∧ (true = y0 ∧ True)) else (True ∧ (True ∧ (if ((validT t) != (0 : Int)) = true then (true = true ∧ (if ((validT t) == (validT t)) = true then (True ∧ (True ∧ ((bif true then true else false) = y0 ∧ True))) else (false = false ∧ (false = y0 ∧ True)))) else (True ∧ (if (bif false then true else ((validT t) != (0 : Int))) = true then (if ((validT t) == (validT t)) = true then (True ∧ (True ∧ ((bif true then true else false) = y0 ∧ True))) else (false = false ∧ (false = y0 ∧ True))) else Λ1 (0 : Int) ([] : List (List Int))))))))
def cThinsL_1 (Λ1 : Int → (List (List Int)) → Prop) (t : (List (List Int))) (y0 : Bool)  (i_1 : Int) (less_1 : (List (List Int))) : Prop :=
  if (decide (i_1 < (List.length t : Int))) = true then (True ∧ (if (!(decide (i_1 ∈ ((if validT t = 0 then needT t else []))))) = true then (idx i_1 (List.length t : Int) ∧ (List.length less_1 + List.length ([(List.getD t (Int.toNat i_1) ([] : List Int))]) ≤ 4294967296 ∧ (inI (i_1 + (1 : Int)) ∧ Λ1 (i_1 + (1 : Int)) (less_1 ++ [(List.getD t (Int.toNat i_1) ([] : List Int))])))) else (inI (i_1 + (1 : Int)) ∧ Λ1 (i_1 + (1 : Int)) less_1))) else (True ∧ (True ∧ (True ∧ (if ((validT less_1) == (0 : Int)) = true then (True ∧ (if (bif true then ((List.length ((if validT t = 0 then coverS t else [])) : Int) == (List.length ((if validT less_1 = 0 then coverS less_1 else [])) : Int)) else false) = true then (True ∧ (if (bif true then ((validT t) == (0 : Int)) else false) = true then (True ∧ (if (bif true then ((validT less_1) == (0 : Int)) else false) = true then (True ∧ (True ∧ (if (bif true then (decide (((if validT t = 0 then openL t else [])) = ((if validT less_1 = 0 then openL less_1 else [])))) else false) = true then (True ∧ (True ∧ ((bif true then true else false) = y0 ∧ True))) else (false = false ∧ (false = y0 ∧ True))))) else (false = false ∧ (false = false ∧ (false = y0 ∧ True))))) else (false = false ∧ (false = false ∧ (false = false ∧ (false = y0 ∧ True)))))) else (false = false ∧ (false = false ∧ (false = false ∧ (false = false ∧ (false = y0 ∧ True))))))) else (false = false ∧ (false = false ∧ (false = false ∧ (false = false ∧ (false = false ∧ (false = y0 ∧ True))))))))))
theorem cThinsL_law (h : ∀ (t : (List (List Int))), cThinsL.A.wf (t, ()) → ∀ (Λ1 : Int → (List (List Int)) → Prop), (∀ (i_1 : Int) (less_1 : (List (List Int))), cThinsL_1 Λ1 t true i_1 less_1 → Λ1 i_1 less_1) → cThinsL_0 Λ1 t true) : ConOK Go.Proofs.Try.prog 5 cThinsL := by
  refine lawL (Γ := [(27, cCover), (26, cHasL8), (17, cLong8), (24, cNeedless), (28, cOpenS), (21, cSameI8), (18, cSane8)]) (Θ := Th) (n := 97) [([1, 1, 1, 1, 1, 1, 0, 1, 0], ⟨[(0, false), (3, true), (5, true), (7, true), (8, true)], [(7, false), (20, true)]⟩)] ⟨cCover_ok, cHasL8_ok, cLong8_ok, cNeedless_ok, cOpenS_ok, cSameI8_ok, cSane8_ok, trivial⟩ (by kernel_rfl) th_ok mix_ok Go.Proofs.Try.func5 (by kernel_rfl) ?_
  intro x hw hp Λ hC
  have h0 := h x.1 hw (fun i_1 less_1 => Λ [1, 1, 1, 1, 1, 1, 0, 1, 0] ([(0, .d false (.sl (.sl .int)) x.1), (3, .own 20 0), (5, .d true (.sl .int) ((if validT x.1 = 0 then coverS x.1 else []))), (7, .own 7 0), (8, .d true .int i_1)], [(7, .sl false (.sl .int) less_1), (20, .sl true .int ((if validT x.1 = 0 then needT x.1 else [])))])) (fun i_1 less_1 hb => hC [1, 1, 1, 1, 1, 1, 0, 1, 0] ([(0, .d false (.sl (.sl .int)) x.1), (3, .own 20 0), (5, .d true (.sl .int) ((if validT x.1 = 0 then coverS x.1 else []))), (7, .own 7 0), (8, .d true .int i_1)], [(7, .sl false (.sl .int) less_1), (20, .sl true .int ((if validT x.1 = 0 then needT x.1 else [])))]) (Eq.mpr (by kernel_rfl) hb))
  exact Eq.mpr (by kernel_rfl) h0
theorem cThinsL_ok : ConOK Go.Proofs.Try.prog 5 cThinsL := by
  refine cThinsL_law ?_
  intro t hw Λ1 h1
  unfold cThinsL_0
  refine ⟨trivial, ?_⟩
  cases hL : longT t
  · rw [if_neg (by simp)]
    refine ⟨trivial, trivial, ?_⟩
    by_cases hv : validT t = 0
    · rw [if_neg (by simp [hv])]
      refine ⟨trivial, ?_⟩
      rw [if_neg (by simp [hv])]
      have ht := validT_ok.1 hv
      have h8 := ht.1
      have eN : (if validT t = 0 then needT t else []) = needT t := if_pos hv
      have eC : (if validT t = 0 then coverS t else []) = coverS t := if_pos hv
      have eO : (if validT t = 0 then openL t else []) = openL t := if_pos hv
      refine upto (n := t.length) (Q := fun i => Λ1 (i : Int) (((nums i).filter fun r => !decide (r ∈ needT t)).map fun r => t.getD r.toNat [])) ?_ ?_ 0 (Nat.zero_le _)
      · apply h1; unfold cThinsL_1
        rw [if_neg (by simp)]
        have hk : (((nums t.length).filter fun r => !decide (r ∈ needT t)).map fun r => t.getD r.toNat []) = lessT t := rfl
        have hv2 : validT (lessT t) = 0 := validT_ok.2 (less_ok ht).1
        rw [hk, eC, eO]
        simp [hv, hv2, less_cover ht, less_open ht]
      · intro i hi ih
        apply h1; unfold cThinsL_1
        rw [if_pos (by simpa using hi), eN, Int.toNat_natCast]
        refine ⟨trivial, ?_⟩
        rw [lessN_succ] at ih
        by_cases hm : (i : Int) ∈ needT t
        · rw [if_neg (by simp [hm])]
          rw [if_neg (by simp [hm]), List.append_nil] at ih
          exact ⟨by unfold inI; omega, ih⟩
        · rw [if_pos (by simp [hm])]
          rw [if_pos (by simp [hm])] at ih
          refine ⟨idx_nat hi, ?_, by unfold inI; omega, ih⟩
          have h5 := filt_nums_len (fun r => !decide (r ∈ needT t)) i
          rw [List.length_map, List.length_singleton]
          omega
    · rw [if_pos (by simp [hv])]
      refine ⟨rfl, ?_⟩
      rw [if_pos (by simp)]
      exact ⟨trivial, trivial, rfl, trivial⟩
  · rw [if_pos rfl]
    exact ⟨trivial, rfl, trivial⟩
end Go.Tk
