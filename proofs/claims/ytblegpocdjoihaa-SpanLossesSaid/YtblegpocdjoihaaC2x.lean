/- The extremes, and the first state in which two programs differ (layer 2). -/
import Derived.Test.YtblegpocdjoihaaC2w
set_option linter.unusedSimpArgs false
set_option linter.unusedVariables false
namespace Go.Tk
open Go Go.RowKit

theorem take_getD {α : Type} (d : α) {l : List α} {i : Nat} (hi : i < l.length) : l.take (i + 1) = l.take i ++ [l.getD i d] := by
  rw [List.take_add_one, List.getElem?_eq_getElem hi, List.getD_eq_getElem?_getD, List.getElem?_eq_getElem hi]; rfl
theorem firstErr_two (p q : List Lin) : firstErr [p, q] = if validP p = 0 then validP q else validP p := by
  show (if validP p = 0 then firstErr [q] else validP p) = _
  rw [firstErr_one]
theorem cErr2_eq (p q : List Lin) (c : Ctr) : (if firstErr [p, q] = 0 then validC c else firstErr [p, q]) = cErr2 p q c := by
  rw [firstErr_two]
  unfold cErr2 cErr
  by_cases g : validP p = 0
  · rw [if_pos g, if_pos g]
  · rw [if_neg g, if_neg g, if_neg g]
theorem cErr2_ok {p q : List Lin} {c : Ctr} (h : cErr2 p q c = 0) : validP p = 0 ∧ validP q = 0 ∧ validC c = 0 := by
  unfold cErr2 at h
  by_cases g : validP p = 0
  · rw [if_pos g] at h; exact ⟨g, cErr_ok h⟩
  · rw [if_neg g] at h; exact absurd h g

abbrev cExtremes : Con := { A := (.cons (.sl tL) (.cons tCt .nil)), R := (.cons .int (.cons .int (.cons .int .nil))), pre := fun x => True, F := fun x => (minE x.1 x.2.1, maxE x.1 x.2.1, cErr x.1 x.2.1, ()) }
def cExtremes_0 (Λ1 : Int → Int → Nat → Prop) (p : (List Lin)) (c : Ctr) (y0 : Int) (y1 : Int) (y2 : Int) : Prop :=
  True ∧ (if (((if firstErr [p] = 0 then validC c else firstErr [p])) != (0 : Int)) = true then ((0 : Int) = y0 ∧ (0 : Int) = y1 ∧ ((if firstErr [p] = 0 then validC c else firstErr [p])) = y2 ∧ True) else (True ∧ (((boxC c, seqC c)).1 ∧ Λ1 999 (-999) 0)))
def cExtremes_1 (Λ1 : Int → Int → Nat → Prop) (p : (List Lin)) (c : Ctr) (y0 : Int) (y1 : Int) (y2 : Int)  (least_1 : Int) (most_1 : Int) (k_1 : Nat) : Prop :=
  (∀ e1 : ((List Int) × Unit), (((boxC c, seqC c)).2)[k_1]? = some e1 → ((validP p = 0 ∧ validS e1.1 = true ∧ 0 ≤ c.2.2.1 ∧ c.2.2.1 ≤ 3) ∧ Λ1 (min least_1 (Rg (runS p e1.1) c.2.2.1)) (max most_1 (Rg (runS p e1.1) c.2.2.1)) (k_1 + 1))) ∧ (List.length (((boxC c, seqC c)).2) ≤ k_1 → (least_1 = y0 ∧ most_1 = y1 ∧ (0 : Int) = y2 ∧ True))
theorem cExtremes_law (h : ∀ (p : (List Lin)) (c : Ctr), cExtremes.A.wf (p, c, ()) → ∀ (Λ1 : Int → Int → Nat → Prop), (∀ (least_1 : Int) (most_1 : Int) (k_1 : Nat), cExtremes_1 Λ1 p c (minE p c) (maxE p c) (cErr p c) least_1 most_1 k_1 → Λ1 least_1 most_1 k_1) → cExtremes_0 Λ1 p c (minE p c) (maxE p c) (cErr p c)) : ConOK Go.Proofs.Try.prog 100 cExtremes := by
  refine lawL (Γ := [(123, cContracted), (125, cEnd), (124, cStates)]) (Θ := Th) (n := 35) [([1, 1, 1, 0, 1, 0], ⟨[(2, true), (3, true), (4, true), (5, true), (6, true), (8, true), (9, true)], [(2, false), (3, false), (8, true), (9, true), (4000000, true)]⟩)] ⟨cContracted_ok, cEnd_ok, cStates_ok, trivial⟩ (by kernel_rfl) th_ok mix_ok Go.Proofs.Try.func100 (by kernel_rfl) ?_
  intro x hw hp Λ hC
  have h0 := h x.1 x.2.1 hw (fun least_1 most_1 k_1 => Λ [1, 1, 1, 0, 1, 0] ([(2, .ptr 2 0 []), (3, .ptr 3 0 []), (4, .d true .int 0), (5, .d true .int 0), (6, .d true .int 0), (8, .ptr 8 0 []), (9, .ptr 9 0 [])], [(2, .box false (.sl tL) x.1), (3, .box false tCt x.2.1), (8, .box true .int least_1), (9, .box true .int most_1), (4000000, .rg true (.cons (.sl .int) .nil) (((boxC x.2.1, seqC x.2.1)).2) k_1)])) (fun least_1 most_1 k_1 hb => hC [1, 1, 1, 0, 1, 0] ([(2, .ptr 2 0 []), (3, .ptr 3 0 []), (4, .d true .int 0), (5, .d true .int 0), (6, .d true .int 0), (8, .ptr 8 0 []), (9, .ptr 9 0 [])], [(2, .box false (.sl tL) x.1), (3, .box false tCt x.2.1), (8, .box true .int least_1), (9, .box true .int most_1), (4000000, .rg true (.cons (.sl .int) .nil) (((boxC x.2.1, seqC x.2.1)).2) k_1)]) (Eq.mpr (by kernel_rfl) hb))
  exact Eq.mpr (by kernel_rfl) h0
theorem cExtremes_ok : ConOK Go.Proofs.Try.prog 100 cExtremes := by
  refine cExtremes_law ?_
  intro p c hw Λ1 h1
  unfold cExtremes_0
  rw [firstErr_one]
  refine ⟨trivial, ?_⟩
  by_cases g : cErr p c = 0
  · rw [if_neg (by simpa [cErr] using g)]
    obtain ⟨g1, g2⟩ := cErr_ok g
    obtain ⟨g3, g4⟩ := validC_ok g2
    obtain ⟨hb, ho, _⟩ := isCtr_box g3
    refine ⟨trivial, hb, ?_⟩
    have key : ∀ n k, n + k = (statesC c).length → Λ1 (((statesC c).take k).foldl (fun a s => min a (Rg (runS p s) c.2.2.1)) 999) (((statesC c).take k).foldl (fun a s => max a (Rg (runS p s) c.2.2.1)) (-999)) k := by
      intro n
      induction n with
      | zero =>
        intro k hk
        apply h1; unfold cExtremes_1
        refine ⟨fun e1 he => ?_, fun _ => ?_⟩
        · rw [List.getElem?_eq_none (by rw [seqC_len]; omega)] at he
          cases he
        · rw [List.take_of_length_le (by omega)]
          unfold minE maxE
          rw [if_pos g, if_pos g]
          exact ⟨rfl, rfl, g.symm, trivial⟩
      | succ n ih =>
        intro k hk
        apply h1; unfold cExtremes_1
        refine ⟨fun e1 he => ?_, fun h => absurd h (by rw [seqC_len]; omega)⟩
        obtain ⟨s, u⟩ := e1
        have he' := seqC_get.1 he
        have hv := stateC_valid hb (List.mem_of_getElem? he')
        refine ⟨⟨g1, hv, ho.1, ho.2⟩, ?_⟩
        have := ih (k + 1) (by omega)
        rw [List.take_add_one, he', List.foldl_append, List.foldl_append] at this
        exact this
    exact key _ 0 (Nat.add_zero _)
  · have g' : ¬ (if validP p = 0 then validC c else validP p) = 0 := g
    rw [if_pos (by simpa using g')]
    unfold minE maxE
    rw [if_neg g, if_neg g]
    exact ⟨rfl, rfl, rfl, trivial⟩
abbrev cExtremesR : Con := { A := (.cons (.sl tL) (.cons tCt .nil)), R := (.cons .int (.cons .int (.cons .int .nil))), pre := fun x => True, F := fun x => (minE x.1 x.2.1, maxE x.1 x.2.1, cErr x.1 x.2.1, ()) }
def cExtremesR_0 (Λ1 : Int → Int → Int → Prop) (p : (List Lin)) (c : Ctr) (y0 : Int) (y1 : Int) (y2 : Int) : Prop :=
  True ∧ (if ((cErr p c) != (0 : Int)) = true then ((0 : Int) = y0 ∧ (0 : Int) = y1 ∧ (cErr p c) = y2 ∧ True) else (validC c = 0 ∧ Λ1 (999 : Int) (-999 : Int) (0 : Int)))
def cExtremesR_1 (Λ1 : Int → Int → Int → Prop) (p : (List Lin)) (c : Ctr) (y0 : Int) (y1 : Int) (y2 : Int)  (lo_1 : Int) (hi_1 : Int) (i_1 : Int) : Prop :=
  if (decide (i_1 < (List.length (statesC c) : Int))) = true then (idx i_1 (List.length (statesC c) : Int) ∧ ((validP p = 0 ∧ validS (List.getD (statesC c) (Int.toNat i_1) ([] : List Int)) = true ∧ 0 ≤ c.2.2.1 ∧ c.2.2.1 ≤ 3) ∧ (inI (i_1 + (1 : Int)) ∧ Λ1 (min lo_1 (Rg (runS p (List.getD (statesC c) (Int.toNat i_1) ([] : List Int))) c.2.2.1)) (max hi_1 (Rg (runS p (List.getD (statesC c) (Int.toNat i_1) ([] : List Int))) c.2.2.1)) (i_1 + (1 : Int))))) else (lo_1 = y0 ∧ hi_1 = y1 ∧ (0 : Int) = y2 ∧ True)
theorem cExtremesR_law (h : ∀ (p : (List Lin)) (c : Ctr), cExtremesR.A.wf (p, c, ()) → ∀ (Λ1 : Int → Int → Int → Prop), (∀ (lo_1 : Int) (hi_1 : Int) (i_1 : Int), cExtremesR_1 Λ1 p c (minE p c) (maxE p c) (cErr p c) lo_1 hi_1 i_1 → Λ1 lo_1 hi_1 i_1) → cExtremesR_0 Λ1 p c (minE p c) (maxE p c) (cErr p c)) : ConOK Go.Proofs.Try.prog 101 cExtremesR := by
  refine lawL (Γ := [(126, cContractedR), (128, cMade), (127, cStatesR)]) (Θ := Th) (n := 43) [([1, 1, 1, 1, 0, 1, 0], ⟨[(0, false), (3, true), (8, true), (9, true), (10, false), (11, true)], [(3, false)]⟩)] ⟨cContractedR_ok, cMade_ok, cStatesR_ok, trivial⟩ (by kernel_rfl) th_ok mix_ok Go.Proofs.Try.func101 (by kernel_rfl) ?_
  intro x hw hp Λ hC
  have h0 := h x.1 x.2.1 hw (fun lo_1 hi_1 i_1 => Λ [1, 1, 1, 1, 0, 1, 0] ([(0, .d false (.sl tL) x.1), (3, .ptr 3 0 []), (8, .d true .int lo_1), (9, .d true .int hi_1), (10, .d false (.sl (.sl .int)) (statesC x.2.1)), (11, .d true .int i_1)], [(3, .box false tCt x.2.1)])) (fun lo_1 hi_1 i_1 hb => hC [1, 1, 1, 1, 0, 1, 0] ([(0, .d false (.sl tL) x.1), (3, .ptr 3 0 []), (8, .d true .int lo_1), (9, .d true .int hi_1), (10, .d false (.sl (.sl .int)) (statesC x.2.1)), (11, .d true .int i_1)], [(3, .box false tCt x.2.1)]) (Eq.mpr (by kernel_rfl) hb))
  exact Eq.mpr (by kernel_rfl) h0
theorem cExtremesR_ok : ConOK Go.Proofs.Try.prog 101 cExtremesR := by
  refine cExtremesR_law ?_
  intro p c hw Λ1 h1
  unfold cExtremesR_0
  refine ⟨trivial, ?_⟩
  unfold minE maxE at h1 ⊢
  by_cases g : cErr p c = 0
  · rw [if_neg (by simp [g])]
    obtain ⟨g1, g2⟩ := cErr_ok g
    obtain ⟨g3, g4⟩ := validC_ok g2
    obtain ⟨hb, ho, _⟩ := isCtr_box g3
    have hlen := statesC_len hb
    refine ⟨g2, ?_⟩
    rw [if_pos g, if_pos g] at h1
    have key := upto (n := (statesC c).length) (Q := fun i => Λ1 (((statesC c).take i).foldl (fun a s => min a (Rg (runS p s) c.2.2.1)) 999) (((statesC c).take i).foldl (fun a s => max a (Rg (runS p s) c.2.2.1)) (-999)) (i : Int)) ?_ ?_ 0 (Nat.zero_le _)
    · exact key
    · apply h1; unfold cExtremesR_1
      rw [if_neg (by simp), List.take_length]
      exact ⟨rfl, rfl, g.symm, trivial⟩
    · intro i hi ih
      apply h1; unfold cExtremesR_1
      rw [if_pos (by simpa using hi), Int.toNat_natCast]
      have hm : (statesC c).getD i [] ∈ statesC c := mem_getD hi
      refine ⟨idx_nat hi, ⟨g1, stateC_valid hb hm, ho.1, ho.2⟩, inI_succ hi (by omega), ?_⟩
      rw [take_getD [] hi, List.foldl_append, List.foldl_append] at ih
      exact ih
  · rw [if_pos (by simpa using g), if_neg g, if_neg g]
    exact ⟨rfl, rfl, rfl, trivial⟩
theorem fold_min_le (f : List Int → Int) (m : Int) : ∀ (l : List (List Int)) (a : Int), (m ≤ l.foldl (fun a s => min a (f s)) a) ↔ m ≤ a ∧ ∀ s ∈ l, m ≤ f s
  | [], a => by simp
  | x :: l, a => by
    rw [List.foldl_cons, fold_min_le f m l]
    simp only [List.mem_cons, forall_eq_or_imp]
    rw [Int.le_min, and_assoc]
theorem fold_le_max (f : List Int → Int) (m : Int) : ∀ (l : List (List Int)) (a : Int), (l.foldl (fun a s => max a (f s)) a ≤ m) ↔ a ≤ m ∧ ∀ s ∈ l, f s ≤ m
  | [], a => by simp
  | x :: l, a => by
    rw [List.foldl_cons, fold_le_max f m l]
    simp only [List.mem_cons, forall_eq_or_imp]
    rw [Int.max_le, and_assoc]
theorem min_le_max {p : List Lin} {c : Ctr} (e : cErr p c = 0) : minE p c ≤ maxE p c := by
  have hb := (isCtr_box (validC_ok (cErr_ok e).2).1).1
  have hm : c.1 ∈ statesC c := List.mem_of_getElem? (stateC_head hb)
  unfold minE maxE
  rw [if_pos e, if_pos e]
  have h1 := ((fold_min_le (fun s => Rg (runS p s) c.2.2.1) _ (statesC c) 999).1 (Int.le_refl _)).2 _ hm
  have h2 := ((fold_le_max (fun s => Rg (runS p s) c.2.2.1) _ (statesC c) (-999)).1 (Int.le_refl _)).2 _ hm
  exact Int.le_trans h1 h2
theorem keeps_ext {p : List Lin} {c : Ctr} (e : cErr p c = 0) : (badL p c).isEmpty = (decide (c.2.2.2.1 ≤ minE p c) && decide (maxE p c ≤ c.2.2.2.2.1)) := by
  obtain ⟨hb, ho, hm⟩ := isCtr_box (validC_ok (cErr_ok e).2).1
  unfold minE maxE badL
  rw [if_pos e, if_pos e, Bool.eq_iff_iff, Bool.and_eq_true, decide_eq_true_eq, decide_eq_true_eq, fold_min_le, fold_le_max, List.isEmpty_iff, List.filter_eq_nil_iff]
  constructor
  · intro h
    have w : ∀ s ∈ statesC c, c.2.2.2.1 ≤ Rg (runS p s) c.2.2.1 ∧ Rg (runS p s) c.2.2.1 ≤ c.2.2.2.2.1 := by
      intro s hs
      have := h s hs
      unfold keepS within at this
      simpa using this
    exact ⟨⟨by omega, fun s hs => (w s hs).1⟩, ⟨by omega, fun s hs => (w s hs).2⟩⟩
  · rintro ⟨⟨_, h1⟩, ⟨_, h2⟩⟩ s hs
    have a := h1 s hs
    have b := h2 s hs
    unfold keepS within
    simp [a, b]
theorem difL_self (p : List Lin) (c : Ctr) : difL p p c = [] := by
  unfold difL
  rw [List.filter_eq_nil_iff]
  simp
theorem cErr2_self (p : List Lin) (c : Ctr) : cErr2 p p c = cErr p c := by
  unfold cErr2
  by_cases g : validP p = 0
  · rw [if_pos g]
  · rw [if_neg g]; unfold cErr; rw [if_neg g]
end Go.Tk
