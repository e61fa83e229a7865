/- The document's spans: all boxes that come to each line (layer 6). -/
import Derived.Test.YtookhknbjofmkaaC6e
set_option linter.unusedSimpArgs false
set_option linter.unusedVariables false
namespace Go.Tk
open Go Go.RowKit

def linesN (p : List Lin) (b : List Rng) (r : Bool) (n : Nat) : List Int := ((List.range n).filter fun i => ((spans p b).getD i dSpot).1.1 == r).map fun i : Nat => (i : Int)
def linesB (p : List Lin) (b : List Rng) (r : Bool) : List Int := linesN p b r p.length

theorem comeL_len (o : List Bxs) (j i : Nat) (b : List Rng) : ((comeL o j b).getD i []).length ≤ (o.getD i []).length + 1 := by
  unfold comeL
  rw [List.getD_eq_getElem?_getD, List.getElem?_set]
  by_cases e : j = i
  · subst e
    rw [if_pos rfl]
    by_cases h : j < o.length
    · rw [if_pos h]
      show (o.getD j [] ++ [b]).length ≤ _
      rw [List.length_append]; exact Nat.le_refl _
    · rw [if_neg h]; exact Nat.zero_le _
  · rw [if_neg e, ← List.getD_eq_getElem?_getD]; omega
theorem refStep_len (p : List Lin) (o : List Bxs) (k j : Nat) : ((refStep p o k).getD j []).length ≤ (o.getD j []).length + 2 := by
  unfold refStep
  dsimp only
  split
  · omega
  · split
    · have := comeL_len o (k + 1) j (afterBox (p.getD k dLin) (hullL (o.getD k [])))
      omega
    · have h1 : ∀ c : Prop, [Decidable c] → ((if c then comeL o (k + 1) (hullL (o.getD k [])) else o).getD j []).length ≤ (o.getD j []).length + 1 := by
        intro c _
        split
        · exact comeL_len ..
        · omega
      split
      · exact Nat.le_trans (comeL_len ..) (Nat.add_le_add_right (h1 _) 1)
      · exact Nat.le_trans (h1 _) (by omega)
theorem refTo_bd (p : List Lin) (b : List Rng) (j : Nat) : ∀ k, ((refTo p b k).getD j []).length ≤ 2 * k + 1
  | 0 => by
    have e : refTo p b 0 = comeL (List.replicate (p.length + 1) []) 0 b := rfl
    rw [e]
    refine Nat.le_trans (comeL_len ..) ?_
    have : (List.replicate (p.length + 1) ([] : Bxs)).getD j [] = [] := by simp [List.getD_eq_getElem?_getD, List.getElem?_replicate]; split <;> rfl
    rw [this]; exact Nat.le_refl _
  | k + 1 => by
    rw [refTo_succ]
    have := refStep_len p (refTo p b k) k j
    have := refTo_bd p b j k
    omega

theorem linesN_next (p : List Lin) (b : List Rng) (r : Bool) (n : Nat) : linesN p b r (n + 1) = if (((spans p b).getD n dSpot).1.1 == r) = true then linesN p b r n ++ [(n : Int)] else linesN p b r n := by
  unfold linesN
  rw [List.range_succ, List.filter_append, List.map_append, List.filter_cons, List.filter_nil]
  split
  · rfl
  · exact List.append_nil _
theorem linesN_both (p : List Lin) (b : List Rng) : ∀ n, (linesN p b true n).length + (linesN p b false n).length = n
  | 0 => rfl
  | n + 1 => by
    rw [linesN_next, linesN_next]
    have := linesN_both p b n
    cases ((spans p b).getD n dSpot).1.1 <;> simp <;> omega
theorem linesN_len (p : List Lin) (b : List Rng) (r : Bool) (n : Nat) : (linesN p b r n).length ≤ n := by
  have := linesN_both p b n
  cases r <;> omega
theorem sim_reach {l : Bxs} {s : Spot} (h : SimS l s) : (decide ((l.length : Int) > 0)) = s.1.1 := by
  rcases h with ⟨rfl, rfl⟩ | ⟨h, rfl⟩
  · rfl
  · cases l with
    | nil => exact absurd rfl h
    | cons a t => simp

abbrev cLines : Con := { A := (.cons (.sl tL) (.cons (.sl tR) (.cons .bool .nil))), R := (.cons (.sl .int) .nil), pre := fun x => validP x.1 = 0 ∧ validB x.2.1 = true, F := fun x => (linesB x.1 x.2.1 x.2.2.1, ()) }
def cLines_0 (Λ1 : Int → (List Int) → Prop) (p : (List Lin)) (b : (List Rng)) (reached : Bool) (y0 : (List Int)) : Prop :=
  (validP p = 0 ∧ validB b = true) ∧ ((0 ≤ (0 : Int) ∧ (0 : Int) ≤ (List.length p : Int) ∧ (List.length p : Int) ≤ (List.length (spans p b) : Int) ∧ (List.length (spans p b) : Int) ≤ (List.length (spans p b) : Int)) ∧ Λ1 (0 : Int) ([] : List Int))
def cLines_1 (Λ1 : Int → (List Int) → Prop) (p : (List Lin)) (b : (List Rng)) (reached : Bool) (y0 : (List Int))  (t17_1 : Int) (out_1 : (List Int)) : Prop :=
  if (decide (t17_1 < (List.length (List.drop (Int.toNat (0 : Int)) (List.take (Int.toNat (List.length p : Int)) (spans p b))) : Int))) = true then (idx t17_1 (List.length (List.drop (Int.toNat (0 : Int)) (List.take (Int.toNat (List.length p : Int)) (spans p b))) : Int) ∧ (if (((List.getD (List.drop (Int.toNat (0 : Int)) (List.take (Int.toNat (List.length p : Int)) (spans p b))) (Int.toNat t17_1) tSpot.dflt).1).1 == reached) = true then (List.length out_1 + List.length [t17_1] ≤ 4294967296 ∧ (inI (t17_1 + (1 : Int)) ∧ Λ1 (t17_1 + (1 : Int)) (out_1 ++ [t17_1]))) else (inI (t17_1 + (1 : Int)) ∧ Λ1 (t17_1 + (1 : Int)) out_1))) else (out_1 = y0 ∧ True)
theorem cLines_law (h : ∀ (p : (List Lin)) (b : (List Rng)) (reached : Bool), cLines.A.wf (p, b, reached, ()) → (validP p = 0 ∧ validB b = true) → ∀ (Λ1 : Int → (List Int) → Prop), (∀ (t17_1 : Int) (out_1 : (List Int)), cLines_1 Λ1 p b reached (linesB p b reached) t17_1 out_1 → Λ1 t17_1 out_1) → cLines_0 Λ1 p b reached (linesB p b reached)) : ConOK Go.Proofs.Try.prog 78 cLines := by
  refine lawL (Γ := [(133, cSpans)]) (Θ := Th) (n := 33) [([1, 1, 0, 1, 0], ⟨[(2, false), (7, true), (15, true), (16, true), (17, true)], [(7, true), (12, true)]⟩)] ⟨cSpans_ok, trivial⟩ (by kernel_rfl) th_ok mix_ok Go.Proofs.Try.func78 (by kernel_rfl) ?_
  intro x hw hp Λ hC
  have h0 := h x.1 x.2.1 x.2.2.1 hw hp (fun t17_1 out_1 => Λ [1, 1, 0, 1, 0] ([(2, .d false .bool x.2.2.1), (7, .own 7 0), (15, .own 12 0), (16, .d true .int (List.length (List.drop (Int.toNat (0 : Int)) (List.take (Int.toNat (List.length x.1 : Int)) (spans x.1 x.2.1))) : Int)), (17, .d true .int t17_1)], [(7, .sl true .int out_1), (12, .sl true tSpot (List.drop (Int.toNat (0 : Int)) (List.take (Int.toNat (List.length x.1 : Int)) (spans x.1 x.2.1))))])) (fun t17_1 out_1 hb => hC [1, 1, 0, 1, 0] ([(2, .d false .bool x.2.2.1), (7, .own 7 0), (15, .own 12 0), (16, .d true .int (List.length (List.drop (Int.toNat (0 : Int)) (List.take (Int.toNat (List.length x.1 : Int)) (spans x.1 x.2.1))) : Int)), (17, .d true .int t17_1)], [(7, .sl true .int out_1), (12, .sl true tSpot (List.drop (Int.toNat (0 : Int)) (List.take (Int.toNat (List.length x.1 : Int)) (spans x.1 x.2.1))))]) (Eq.mpr (by kernel_rfl) hb))
  exact Eq.mpr (by kernel_rfl) h0
theorem cLines_ok : ConOK Go.Proofs.Try.prog 78 cLines := by
  refine cLines_law ?_
  intro p b reached hw hp Λ1 h1
  unfold cLines_0
  obtain ⟨g1, g2⟩ := hp
  obtain ⟨h8, hall⟩ := validP_ok g1
  have ho : (spans p b).length = p.length + 1 := (spansTo_ok hall g2 p.length (Nat.le_refl _)).1
  refine ⟨⟨g1, g2⟩, ⟨by omega, by omega, by omega, by omega⟩, ?_⟩
  have hl : (List.drop (Int.toNat (0 : Int)) (List.take (Int.toNat (p.length : Int)) (spans p b))).length = p.length := by
    simp; omega
  have key := upto (n := p.length) (Q := fun i => Λ1 (i : Int) (linesN p b reached i)) ?_ ?_ 0 (Nat.zero_le _)
  · exact key
  · apply h1; unfold cLines_1
    rw [hl, if_neg (by simp)]
    exact ⟨rfl, trivial⟩
  · intro i hi ih
    apply h1; unfold cLines_1
    have hg : List.getD (List.drop (Int.toNat (0 : Int)) (List.take (Int.toNat (p.length : Int)) (spans p b))) i tSpot.dflt = (spans p b).getD i dSpot := by
      rw [List.getD_eq_getElem?_getD, List.getD_eq_getElem?_getD, Int.toNat_natCast]
      simp [List.getElem?_take, hi]
    rw [hl, if_pos (by simpa using hi), Int.toNat_natCast i, hg]
    refine ⟨idx_nat hi, ?_⟩
    rw [linesN_next] at ih
    have hn := linesN_len p b reached i
    by_cases c : (((spans p b).getD i dSpot).1.1 == reached) = true
    · rw [if_pos c] at ih ⊢
      exact ⟨by simp only [List.length_cons, List.length_nil]; omega, inI_succ hi (by omega), ih⟩
    · rw [if_neg c] at ih ⊢
      exact ⟨inI_succ hi (by omega), ih⟩
abbrev cReached : Con := { A := (.cons (.sl tL) (.cons (.sl tR) .nil)), R := (.cons (.sl .int) (.cons .int .nil)), pre := fun x => True, F := fun x => ((if err6 x.1 x.2.1 = 0 then linesB x.1 x.2.1 true else []), err6 x.1 x.2.1, ()) }
def cReached_0  (p : (List Lin)) (b : (List Rng)) (y0 : (List Int)) (y1 : Int) : Prop :=
  True ∧ (if (((if validP p = 0 then argErr (validB b) else validP p)) != (0 : Int)) = true then (([] : List Int) = y0 ∧ ((if validP p = 0 then argErr (validB b) else validP p)) = y1 ∧ True) else ((validP p = 0 ∧ validB b = true) ∧ ((linesB p b true) = y0 ∧ (0 : Int) = y1 ∧ True)))
theorem cReached_law (h : ∀ (p : (List Lin)) (b : (List Rng)), cReached.A.wf (p, b, ()) → cReached_0  p b (if err6 p b = 0 then linesB p b true else []) (err6 p b)) : ConOK Go.Proofs.Try.prog 19 cReached := by
  refine lawL (Γ := [(77, cChecked), (78, cLines)]) (Θ := Th) (n := 16) [] ⟨cChecked_ok, cLines_ok, trivial⟩ (by kernel_rfl) th_ok mix_ok Go.Proofs.Try.func19 (by kernel_rfl) ?_
  intro x hw hp Λ hC
  have h0 := h x.1 x.2.1 hw  
  exact Eq.mpr (by kernel_rfl) h0
theorem cReached_ok : ConOK Go.Proofs.Try.prog 19 cReached := by
  refine cReached_law ?_
  intro p b hw
  unfold cReached_0
  refine ⟨trivial, ?_⟩
  show if (err6 p b != 0) = true then _ else _
  by_cases g : err6 p b = 0
  · rw [if_neg (by simp [g]), if_pos g]
    exact ⟨err6_ok g, rfl, g.symm, trivial⟩
  · rw [if_pos (by simpa using g), if_neg g]
    exact ⟨rfl, rfl, trivial⟩
end Go.Tk
