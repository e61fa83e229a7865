/- The states of a box: the document's answer (layer 2). -/
import Derived.Test.YtblegpocdjoihaaC2s
set_option linter.unusedSimpArgs false
set_option linter.unusedVariables false
namespace Go.Tk
open Go Go.RowKit

abbrev cContractedR : Con := { A := (.cons (.sl tL) (.cons tCt .nil)), R := (.cons .int .nil), pre := fun x => True, F := fun x => (cErr x.1 x.2.1, ()) }
def cContractedR_0  (p : (List Lin)) (c : Ctr) (y0 : Int) : Prop :=
  True ∧ (if ((validP p) != (0 : Int)) = true then ((validP p) = y0 ∧ True) else (True ∧ ((validC c) = y0 ∧ True)))
theorem cContractedR_law (h : ∀ (p : (List Lin)) (c : Ctr), cContractedR.A.wf (p, c, ()) → cContractedR_0  p c (cErr p c)) : ConOK Go.Proofs.Try.prog 126 cContractedR := by
  refine lawL (Γ := [(91, cValCR), (109, cValPR)]) (Θ := Th) (n := 13) [] ⟨cValCR_ok, cValPR_ok, trivial⟩ (by kernel_rfl) th_ok mix_ok Go.Proofs.Try.func126 (by kernel_rfl) ?_
  intro x hw hp Λ hC
  have h0 := h x.1 x.2.1 hw  
  exact Eq.mpr (by kernel_rfl) h0
theorem cContractedR_ok : ConOK Go.Proofs.Try.prog 126 cContractedR := by
  refine cContractedR_law ?_
  intro p c hw
  unfold cContractedR_0
  refine ⟨trivial, ?_⟩
  unfold cErr
  by_cases g : validP p = 0
  · rw [if_neg (by simpa using g), if_pos g]
    exact ⟨trivial, rfl, trivial⟩
  · rw [if_pos (by simpa using g), if_neg g]
    exact ⟨rfl, trivial⟩
abbrev cStatesR : Con := { A := (.cons tCt .nil), R := (.cons (.sl (.sl .int)) .nil), pre := fun x => validC x.1 = 0, F := fun x => (statesC x.1, ()), al := true }
def cStatesR_0 (Λ1 : (List (List Int)) → Int → Prop) (Λ2 : Int → (List (List Int)) → Int → (List (List Int)) → Prop) (Λ3 : Int → Int → (List (List Int)) → Int → (List (List Int)) → Prop) (c : Ctr) (y0 : (List (List Int))) : Prop :=
  Λ1 ([([] : List Int)]) (0 : Int)
def cStatesR_1 (Λ1 : (List (List Int)) → Int → Prop) (Λ2 : Int → (List (List Int)) → Int → (List (List Int)) → Prop) (Λ3 : Int → Int → (List (List Int)) → Int → (List (List Int)) → Prop) (c : Ctr) (y0 : (List (List Int)))  (out_1 : (List (List Int))) (r_1 : Int) : Prop :=
  if (decide (r_1 < (4 : Int))) = true then Λ2 r_1 out_1 (0 : Int) ([] : List (List Int)) else (out_1 = y0 ∧ True)
def cStatesR_2 (Λ1 : (List (List Int)) → Int → Prop) (Λ2 : Int → (List (List Int)) → Int → (List (List Int)) → Prop) (Λ3 : Int → Int → (List (List Int)) → Int → (List (List Int)) → Prop) (c : Ctr) (y0 : (List (List Int))) (r_1 : Int) (out_2 : (List (List Int))) (i_2 : Int) (next_2 : (List (List Int))) : Prop :=
  if (decide (i_2 < (List.length out_2 : Int))) = true then (idx r_1 (List.length c.1 : Int) ∧ Λ3 i_2 r_1 out_2 (List.getD c.1 (Int.toNat r_1) 0) next_2) else (inI (r_1 + (1 : Int)) ∧ Λ1 next_2 (r_1 + (1 : Int)))
def cStatesR_3 (Λ1 : (List (List Int)) → Int → Prop) (Λ2 : Int → (List (List Int)) → Int → (List (List Int)) → Prop) (Λ3 : Int → Int → (List (List Int)) → Int → (List (List Int)) → Prop) (c : Ctr) (y0 : (List (List Int))) (i_2 : Int) (r_1 : Int) (out_3 : (List (List Int))) (n_3 : Int) (next_3 : (List (List Int))) : Prop :=
  idx r_1 (List.length c.2.1 : Int) ∧ (if (decide (n_3 ≤ (List.getD c.2.1 (Int.toNat r_1) 0))) = true then (idx i_2 (List.length out_3 : Int) ∧ (List.length ([] : List Int) + List.length (List.getD out_3 (Int.toNat i_2) ([] : List Int)) ≤ 4294967296 ∧ (List.length (([] : List Int) ++ (List.getD out_3 (Int.toNat i_2) ([] : List Int))) + List.length [n_3] ≤ 4294967296 ∧ (List.length next_3 + List.length ([((([] : List Int) ++ (List.getD out_3 (Int.toNat i_2) ([] : List Int))) ++ [n_3])]) ≤ 4294967296 ∧ (inI (n_3 + (1 : Int)) ∧ Λ3 i_2 r_1 out_3 (n_3 + (1 : Int)) (next_3 ++ [((([] : List Int) ++ (List.getD out_3 (Int.toNat i_2) ([] : List Int))) ++ [n_3])])))))) else (inI (i_2 + (1 : Int)) ∧ Λ2 r_1 out_3 (i_2 + (1 : Int)) next_3))
theorem cStatesR_law (h : ∀ (c : Ctr), cStatesR.A.wf (c, ()) → (validC c = 0) → ∀ (Λ1 : (List (List Int)) → Int → Prop) (Λ2 : Int → (List (List Int)) → Int → (List (List Int)) → Prop) (Λ3 : Int → Int → (List (List Int)) → Int → (List (List Int)) → Prop), (∀ (out_1 : (List (List Int))) (r_1 : Int), cStatesR_1 Λ1 Λ2 Λ3 c (statesC c) out_1 r_1 → Λ1 out_1 r_1) → (∀ (r_1 : Int) (out_2 : (List (List Int))) (i_2 : Int) (next_2 : (List (List Int))), cStatesR_2 Λ1 Λ2 Λ3 c (statesC c) r_1 out_2 i_2 next_2 → Λ2 r_1 out_2 i_2 next_2) → (∀ (i_2 : Int) (r_1 : Int) (out_3 : (List (List Int))) (n_3 : Int) (next_3 : (List (List Int))), cStatesR_3 Λ1 Λ2 Λ3 c (statesC c) i_2 r_1 out_3 n_3 next_3 → Λ3 i_2 r_1 out_3 n_3 next_3) → cStatesR_0 Λ1 Λ2 Λ3 c (statesC c)) : ConOK Go.Proofs.Try.prog 127 cStatesR := by
  refine lawL (Γ := []) (Θ := Th) (n := 47) [([1, 1, 0, 1, 0], ⟨[(1, true), (3, false), (4, true)], [(1, false)]⟩), ([1, 1, 0, 1, 0, 0, 1, 0, 0, 1, 0, 1, 0], ⟨[(1, true), (3, false), (4, true), (5, true), (6, true)], [(1, false), (5, true)]⟩), ([1, 1, 0, 1, 0, 0, 1, 0, 0, 1, 0, 1, 0, 0, 1, 0, 0, 1, 0], ⟨[(1, true), (3, false), (4, true), (5, true), (6, true), (7, false)], [(1, false), (5, true)]⟩)] trivial (by kernel_rfl) th_ok mix_ok Go.Proofs.Try.func127 (by kernel_rfl) ?_
  intro x hw hp Λ hC
  have h0 := h x.1 hw hp (fun out_1 r_1 => Λ [1, 1, 0, 1, 0] ([(1, .ptr 1 0 []), (3, .d false (.sl (.sl .int)) out_1), (4, .d true .int r_1)], [(1, .box false tCt x.1)])) (fun r_1 out_2 i_2 next_2 => Λ [1, 1, 0, 1, 0, 0, 1, 0, 0, 1, 0, 1, 0] ([(1, .ptr 1 0 []), (3, .d false (.sl (.sl .int)) out_2), (4, .d true .int r_1), (5, .own 5 0), (6, .d true .int i_2)], [(1, .box false tCt x.1), (5, .sl true (.sl .int) next_2)])) (fun i_2 r_1 out_3 n_3 next_3 => Λ [1, 1, 0, 1, 0, 0, 1, 0, 0, 1, 0, 1, 0, 0, 1, 0, 0, 1, 0] ([(1, .ptr 1 0 []), (3, .d false (.sl (.sl .int)) out_3), (4, .d true .int r_1), (5, .own 5 0), (6, .d true .int i_2), (7, .d false .int n_3)], [(1, .box false tCt x.1), (5, .sl true (.sl .int) next_3)])) (fun out_1 r_1 hb => hC [1, 1, 0, 1, 0] ([(1, .ptr 1 0 []), (3, .d false (.sl (.sl .int)) out_1), (4, .d true .int r_1)], [(1, .box false tCt x.1)]) (Eq.mpr (by kernel_rfl) hb)) (fun r_1 out_2 i_2 next_2 hb => hC [1, 1, 0, 1, 0, 0, 1, 0, 0, 1, 0, 1, 0] ([(1, .ptr 1 0 []), (3, .d false (.sl (.sl .int)) out_2), (4, .d true .int r_1), (5, .own 5 0), (6, .d true .int i_2)], [(1, .box false tCt x.1), (5, .sl true (.sl .int) next_2)]) (Eq.mpr (by kernel_rfl) hb)) (fun i_2 r_1 out_3 n_3 next_3 hb => hC [1, 1, 0, 1, 0, 0, 1, 0, 0, 1, 0, 1, 0, 0, 1, 0, 0, 1, 0] ([(1, .ptr 1 0 []), (3, .d false (.sl (.sl .int)) out_3), (4, .d true .int r_1), (5, .own 5 0), (6, .d true .int i_2), (7, .d false .int n_3)], [(1, .box false tCt x.1), (5, .sl true (.sl .int) next_3)]) (Eq.mpr (by kernel_rfl) hb))
  exact Eq.mpr (by kernel_rfl) h0
theorem cStatesR_ok : ConOK Go.Proofs.Try.prog 127 cStatesR := by
  refine cStatesR_law ?_
  intro c hw hp Λ1 Λ2 Λ3 h1 h2 h3
  unfold cStatesR_0
  have hb := (isCtr_box (validC_ok hp).1).1
  have v1 := validS_len hb.1
  have v2 := validS_len hb.2.1
  show Λ1 (statesL ((rngs c).take 0)) ((0 : Nat) : Int)
  refine upto (n := 4) (Q := fun r => Λ1 (statesL ((rngs c).take r)) (r : Int)) ?_ ?_ 0 (Nat.zero_le _)
  · apply h1; unfold cStatesR_1
    rw [if_neg (by simp), List.take_of_length_le (by rw [rngs_len hb]; omega)]
    exact ⟨rfl, trivial⟩
  · intro r hr ih
    apply h1; unfold cStatesR_1
    rw [if_pos (by simp; omega)]
    have w := boxC_wid hb hr
    have hn := states_size hp (r := r + 1) (by omega)
    rw [rngs_next hb hr, statesL_snoc] at ih hn
    have hol : ∀ s ∈ statesL ((rngs c).take r), s.length ≤ 4 := by
      intro s hs
      rw [statesL_mem_len _ _ hs, List.length_take]; omega
    generalize statesL ((rngs c).take r) = O at ih hn hol
    generalize hl : c.1.getD r 0 = l at ih hn w
    generalize hh : c.2.1.getD r 0 = h at ih hn w
    generalize hW : (h - l + 1).toNat = W at ih hn
    have hWc : l + (W : Int) = h + 1 := by rw [← hW]; omega
    rw [flatMap_len _ W _ fun a _ => by rw [List.length_map, exts_len]] at hn
    have key := upto (n := O.length) (Q := fun i => Λ2 (r : Int) O (i : Int) ((O.take i).flatMap fun s => (exts l W).map fun n => s ++ [n])) ?_ ?_ 0 (Nat.zero_le _)
    · exact key
    · apply h2; unfold cStatesR_2
      rw [if_neg (by simp)]
      refine ⟨by unfold inI; omega, ?_⟩
      rw [List.take_length]
      exact ih
    · intro i hi ih2
      apply h2; unfold cStatesR_2
      rw [if_pos (by simpa using hi), Int.toNat_natCast, hl]
      refine ⟨idx_nat (by omega), ?_⟩
      have hi4 := hol _ (mem_getD (d := []) hi)
      have hlen : ((O.take i).flatMap fun s => (exts l W).map fun n => s ++ [n]).length = i * W := by
        rw [flatMap_len _ W _ fun a _ => by rw [List.length_map, exts_len], List.length_take, Nat.min_eq_left (by omega)]
      have hmul : (i + 1) * W ≤ O.length * W := Nat.mul_le_mul_right _ hi
      rw [Nat.add_mul, Nat.one_mul] at hmul
      have key := upto (n := W) (Q := fun d => Λ3 (i : Int) (r : Int) O (l + (d : Int)) (((O.take i).flatMap fun s => (exts l W).map fun n => s ++ [n]) ++ (exts l d).map fun n => O.getD i [] ++ [n])) ?_ ?_ 0 (Nat.zero_le _)
      · have e : l + ((0 : Nat) : Int) = l := by omega
        rw [e] at key
        simpa [exts] using key
      · apply h3; unfold cStatesR_3
        rw [Int.toNat_natCast, hh]
        refine ⟨idx_nat (by omega), ?_⟩
        rw [if_neg (by simp; omega)]
        have hW1 : 1 ≤ W := by omega
        have hOl : O.length * 1 ≤ O.length * W := Nat.mul_le_mul_left _ hW1
        refine ⟨by unfold inI; omega, ?_⟩
        have e : O.take (i + 1) = O.take i ++ [O.getD i []] := by
          rw [List.take_add_one, List.getElem?_eq_getElem hi, List.getD_eq_getElem?_getD, List.getElem?_eq_getElem hi]; rfl
        rw [e, List.flatMap_append] at ih2
        simpa using ih2
      · intro d hd ih3
        apply h3; unfold cStatesR_3
        rw [Int.toNat_natCast, hh]
        refine ⟨idx_nat (by omega), ?_⟩
        rw [if_pos (by simp; omega), Int.toNat_natCast]
        refine ⟨idx_nat hi, ?_, ?_, ?_, by unfold inI; omega, ?_⟩
        · simp only [List.length_nil]; omega
        · simp only [List.nil_append, List.length_cons, List.length_nil]; omega
        · rw [List.length_append, hlen, List.length_map, exts_len]
          simp only [List.length_cons, List.length_nil]; omega
        · rw [exts_snoc, List.map_append, ← List.append_assoc] at ih3
          have e : l + ((d + 1 : Nat) : Int) = l + (d : Int) + 1 := by omega
          rw [e] at ih3
          simpa using ih3
abbrev cBadLR : Con := { A := (.cons (.sl tL) (.cons tCt .nil)), R := (.cons (.sl (.sl .int)) .nil), pre := fun x => validP x.1 = 0 ∧ validC x.2.1 = 0, F := fun x => (badL x.1 x.2.1, ()), al := true }
def cBadLR_0 (Λ1 : Int → (List (List Int)) → Prop) (p : (List Lin)) (c : Ctr) (y0 : (List (List Int))) : Prop :=
  validC c = 0 ∧ Λ1 (0 : Int) ([] : List (List Int))
def cBadLR_1 (Λ1 : Int → (List (List Int)) → Prop) (p : (List Lin)) (c : Ctr) (y0 : (List (List Int)))  (i_1 : Int) (out_1 : (List (List Int))) : Prop :=
  if (decide (i_1 < (List.length (statesC c) : Int))) = true then (idx i_1 (List.length (statesC c) : Int) ∧ ((validP p = 0 ∧ validS (List.getD (statesC c) (Int.toNat i_1) ([] : List Int)) = true ∧ 0 ≤ c.2.2.1 ∧ c.2.2.1 ≤ 3) ∧ (True ∧ (if (!(within (Rg (runS p (List.getD (statesC c) (Int.toNat i_1) ([] : List Int))) c.2.2.1) c.2.2.2.1 c.2.2.2.2.1)) = true then (idx i_1 (List.length (statesC c) : Int) ∧ (List.length out_1 + List.length ([(List.getD (statesC c) (Int.toNat i_1) ([] : List Int))]) ≤ 4294967296 ∧ (inI (i_1 + (1 : Int)) ∧ Λ1 (i_1 + (1 : Int)) (out_1 ++ [(List.getD (statesC c) (Int.toNat i_1) ([] : List Int))])))) else (inI (i_1 + (1 : Int)) ∧ Λ1 (i_1 + (1 : Int)) out_1))))) else (out_1 = y0 ∧ True)
theorem cBadLR_law (h : ∀ (p : (List Lin)) (c : Ctr), cBadLR.A.wf (p, c, ()) → (validP p = 0 ∧ validC c = 0) → ∀ (Λ1 : Int → (List (List Int)) → Prop), (∀ (i_1 : Int) (out_1 : (List (List Int))), cBadLR_1 Λ1 p c (badL p c) i_1 out_1 → Λ1 i_1 out_1) → cBadLR_0 Λ1 p c (badL p c)) : ConOK Go.Proofs.Try.prog 129 cBadLR := by
  refine lawL (Γ := [(128, cMade), (127, cStatesR), (119, cWithinR2)]) (Θ := Th) (n := 38) [([1, 1, 1, 0, 1, 0], ⟨[(0, false), (3, true), (5, true), (6, false), (7, true)], [(3, false), (5, false)]⟩)] ⟨cMade_ok, cStatesR_ok, cWithinR2_ok, trivial⟩ (by kernel_rfl) th_ok mix_ok Go.Proofs.Try.func129 (by kernel_rfl) ?_
  intro x hw hp Λ hC
  have h0 := h x.1 x.2.1 hw hp (fun i_1 out_1 => Λ [1, 1, 1, 0, 1, 0] ([(0, .d false (.sl tL) x.1), (3, .ptr 3 0 []), (5, .own 5 0), (6, .d false (.sl (.sl .int)) (statesC x.2.1)), (7, .d true .int i_1)], [(3, .box false tCt x.2.1), (5, .sl false (.sl .int) out_1)])) (fun i_1 out_1 hb => hC [1, 1, 1, 0, 1, 0] ([(0, .d false (.sl tL) x.1), (3, .ptr 3 0 []), (5, .own 5 0), (6, .d false (.sl (.sl .int)) (statesC x.2.1)), (7, .d true .int i_1)], [(3, .box false tCt x.2.1), (5, .sl false (.sl .int) out_1)]) (Eq.mpr (by kernel_rfl) hb))
  exact Eq.mpr (by kernel_rfl) h0
theorem cBadLR_ok : ConOK Go.Proofs.Try.prog 129 cBadLR := by
  refine cBadLR_law ?_
  intro p c hw hp Λ1 h1
  unfold cBadLR_0
  obtain ⟨g1, g2⟩ := hp
  obtain ⟨g3, g4⟩ := validC_ok g2
  obtain ⟨hb, ho, _⟩ := isCtr_box g3
  have hlen := statesC_len hb
  refine ⟨g2, ?_⟩
  have key := upto (n := (statesC c).length) (Q := fun i => Λ1 (i : Int) (((statesC c).take i).filter fun s => !keepS p c s)) ?_ ?_ 0 (Nat.zero_le _)
  · exact key
  · apply h1; unfold cBadLR_1
    rw [if_neg (by simp), List.take_length]
    exact ⟨rfl, trivial⟩
  · intro i hi ih
    apply h1; unfold cBadLR_1
    rw [if_pos (by simpa using hi), Int.toNat_natCast]
    have hm : (statesC c).getD i [] ∈ statesC c := mem_getD hi
    refine ⟨idx_nat hi, ⟨g1, stateC_valid hb hm, ho.1, ho.2⟩, trivial, ?_⟩
    have e : (statesC c).take (i + 1) = (statesC c).take i ++ [(statesC c).getD i []] := by
      rw [List.take_add_one, List.getElem?_eq_getElem hi, List.getD_eq_getElem?_getD, List.getElem?_eq_getElem hi]; rfl
    have one : [(statesC c).getD i []].filter (fun s => !keepS p c s) = if keepS p c ((statesC c).getD i []) = true then [] else [(statesC c).getD i []] := by
      rw [List.filter_cons, List.filter_nil]
      cases keepS p c ((statesC c).getD i []) <;> rfl
    rw [e, List.filter_append, one] at ih
    have hle : (((statesC c).take i).filter fun s => !keepS p c s).length ≤ (statesC c).length := Nat.le_trans (List.length_filter_le _ _) (by rw [List.length_take]; omega)
    cases hs : keepS p c ((statesC c).getD i [])
    · rw [if_pos (by show (!keepS p c ((statesC c).getD i [])) = true; rw [hs]; rfl)]
      refine ⟨idx_nat hi, by simp only [List.length_cons, List.length_nil]; omega, inI_succ hi (by omega), ?_⟩
      rw [if_neg (by rw [hs]; simp)] at ih
      exact ih
    · rw [if_neg (by show ¬ (!keepS p c ((statesC c).getD i [])) = true; rw [hs]; simp)]
      refine ⟨inI_succ hi (by omega), ?_⟩
      rw [if_pos hs, List.append_nil] at ih
      exact ih
abbrev cKeepsR : Con := { A := (.cons (.sl tL) (.cons tCt .nil)), R := (.cons .bool (.cons .int .nil)), pre := fun x => True, F := fun x => ((cErr x.1 x.2.1 == 0 && (badL x.1 x.2.1).isEmpty), cErr x.1 x.2.1, ()) }
def cKeepsR_0  (p : (List Lin)) (c : Ctr) (y0 : Bool) (y1 : Int) : Prop :=
  True ∧ (if ((cErr p c) != (0 : Int)) = true then (false = y0 ∧ (cErr p c) = y1 ∧ True) else ((validP p = 0 ∧ validC c = 0) ∧ (((List.length (badL p c) : Int) == (0 : Int)) = y0 ∧ (0 : Int) = y1 ∧ True)))
theorem cKeepsR_law (h : ∀ (p : (List Lin)) (c : Ctr), cKeepsR.A.wf (p, c, ()) → cKeepsR_0  p c (cErr p c == 0 && (badL p c).isEmpty) (cErr p c)) : ConOK Go.Proofs.Try.prog 105 cKeepsR := by
  refine lawL (Γ := [(129, cBadLR), (126, cContractedR)]) (Θ := Th) (n := 18) [] ⟨cBadLR_ok, cContractedR_ok, trivial⟩ (by kernel_rfl) th_ok mix_ok Go.Proofs.Try.func105 (by kernel_rfl) ?_
  intro x hw hp Λ hC
  have h0 := h x.1 x.2.1 hw  
  exact Eq.mpr (by kernel_rfl) h0
theorem cKeepsR_ok : ConOK Go.Proofs.Try.prog 105 cKeepsR := by
  refine cKeepsR_law ?_
  intro p c hw
  unfold cKeepsR_0
  refine ⟨trivial, ?_⟩
  by_cases g : cErr p c = 0
  · rw [if_neg (by simp [g]), g]
    refine ⟨cErr_ok g, ?_, rfl, trivial⟩
    cases badL p c
    · rfl
    · simp; omega
  · rw [if_pos (by simpa using g)]
    refine ⟨?_, rfl, trivial⟩
    rw [show (cErr p c == 0) = false by simpa using g]; rfl
end Go.Tk
