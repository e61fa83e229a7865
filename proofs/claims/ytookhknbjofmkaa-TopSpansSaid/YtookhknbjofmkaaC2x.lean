/- The extremes, and the first state in which two programs differ (layer 2). -/
import Derived.Test.YtookhknbjofmkaaC2w
set_option linter.unusedSimpArgs false
set_option linter.unusedVariables false
namespace Go.Tk
open Go Go.RowKit

theorem take_getD {α : Type} (d : α) {l : List α} {i : Nat} (hi : i < l.length) : l.take (i + 1) = l.take i ++ [l.getD i d] := by
  rw [List.take_add_one, List.getElem?_eq_getElem hi, List.getD_eq_getElem?_getD, List.getElem?_eq_getElem hi]; rfl
theorem firstErr_two (p q : List Lin) : firstErr [p, q] = if validP p = 0 then validP q else validP p := by
  show (if validP p = 0 then firstErr [q] else validP p) = _
  rw [firstErr_one]
theorem cErr2_eq (p q : List Lin) (c : Ctr) : (if firstErr [p, q] = 0 then validC c else firstErr [p, q]) = cErr2 p q c := by
  rw [firstErr_two]
  unfold cErr2 cErr
  by_cases g : validP p = 0
  · rw [if_pos g, if_pos g]
  · rw [if_neg g, if_neg g, if_neg g]
theorem cErr2_ok {p q : List Lin} {c : Ctr} (h : cErr2 p q c = 0) : validP p = 0 ∧ validP q = 0 ∧ validC c = 0 := by
  unfold cErr2 at h
  by_cases g : validP p = 0
  · rw [if_pos g] at h; exact ⟨g, cErr_ok h⟩
  · rw [if_neg g] at h; exact absurd h g

abbrev cExtremes : Con := { A := (.cons (.sl tL) (.cons tCt .nil)), R := (.cons .int (.cons .int (.cons .int .nil))), pre := fun x => True, F := fun x => (minE x.1 x.2.1, maxE x.1 x.2.1, cErr x.1 x.2.1, ()) }
def cExtremes_0 (Λ1 : Int → Int → Nat → Prop) (p : (List Lin)) (c : Ctr) (y0 : Int) (y1 : Int) (y2 : Int) : Prop :=
  True ∧ (if (((if firstErr [p] = 0 then validC c else firstErr [p])) != (0 : Int)) = true then ((0 : Int) = y0 ∧ (0 : Int) = y1 ∧ ((if firstErr [p] = 0 then validC c else firstErr [p])) = y2 ∧ True) else (True ∧ (((boxC c, seqC c)).1 ∧ Λ1 999 (-999) 0)))
def cExtremes_1 (Λ1 : Int → Int → Nat → Prop) (p : (List Lin)) (c : Ctr) (y0 : Int) (y1 : Int) (y2 : Int)  (least_1 : Int) (most_1 : Int) (k_1 : Nat) : Prop :=
  (∀ e1 : ((List Int) × Unit), (((boxC c, seqC c)).2)[k_1]? = some e1 → ((validP p = 0 ∧ validS e1.1 = true ∧ 0 ≤ c.2.2.1 ∧ c.2.2.1 ≤ 3) ∧ Λ1 (min least_1 (Rg (runS p e1.1) c.2.2.1)) (max most_1 (Rg (runS p e1.1) c.2.2.1)) (k_1 + 1))) ∧ (List.length (((boxC c, seqC c)).2) ≤ k_1 → (least_1 = y0 ∧ most_1 = y1 ∧ (0 : Int) = y2 ∧ True))
theorem cExtremes_law (h : ∀ (p : (List Lin)) (c : Ctr), cExtremes.A.wf (p, c, ()) → ∀ (Λ1 : Int → Int → Nat → Prop), (∀ (least_1 : Int) (most_1 : Int) (k_1 : Nat), cExtremes_1 Λ1 p c (minE p c) (maxE p c) (cErr p c) least_1 most_1 k_1 → Λ1 least_1 most_1 k_1) → cExtremes_0 Λ1 p c (minE p c) (maxE p c) (cErr p c)) : ConOK Go.Proofs.Try.prog 13 cExtremes := by
  refine lawL (Γ := [(59, cContracted), (65, cEnd), (64, cStates)]) (Θ := Th) (n := 35) [([1, 1, 1, 0, 1, 0], ⟨[(2, true), (3, true), (4, true), (5, true), (6, true), (8, true), (9, true)], [(2, false), (3, false), (8, true), (9, true), (4000000, true)]⟩)] ⟨cContracted_ok, cEnd_ok, cStates_ok, trivial⟩ (by kernel_rfl) th_ok mix_ok Go.Proofs.Try.func13 (by kernel_rfl) ?_
  intro x hw hp Λ hC
  have h0 := h x.1 x.2.1 hw (fun least_1 most_1 k_1 => Λ [1, 1, 1, 0, 1, 0] ([(2, .ptr 2 0 []), (3, .ptr 3 0 []), (4, .d true .int 0), (5, .d true .int 0), (6, .d true .int 0), (8, .ptr 8 0 []), (9, .ptr 9 0 [])], [(2, .box false (.sl tL) x.1), (3, .box false tCt x.2.1), (8, .box true .int least_1), (9, .box true .int most_1), (4000000, .rg true (.cons (.sl .int) .nil) (((boxC x.2.1, seqC x.2.1)).2) k_1)])) (fun least_1 most_1 k_1 hb => hC [1, 1, 1, 0, 1, 0] ([(2, .ptr 2 0 []), (3, .ptr 3 0 []), (4, .d true .int 0), (5, .d true .int 0), (6, .d true .int 0), (8, .ptr 8 0 []), (9, .ptr 9 0 [])], [(2, .box false (.sl tL) x.1), (3, .box false tCt x.2.1), (8, .box true .int least_1), (9, .box true .int most_1), (4000000, .rg true (.cons (.sl .int) .nil) (((boxC x.2.1, seqC x.2.1)).2) k_1)]) (Eq.mpr (by kernel_rfl) hb))
  exact Eq.mpr (by kernel_rfl) h0
theorem cExtremes_ok : ConOK Go.Proofs.Try.prog 13 cExtremes := by
  refine cExtremes_law ?_
  intro p c hw Λ1 h1
  unfold cExtremes_0
  rw [firstErr_one]
  refine ⟨trivial, ?_⟩
  by_cases g : cErr p c = 0
  · rw [if_neg (by simpa [cErr] using g)]
    obtain ⟨g1, g2⟩ := cErr_ok g
    obtain ⟨g3, g4⟩ := validC_ok g2
    obtain ⟨hb, ho, _⟩ := isCtr_box g3
    refine ⟨trivial, hb, ?_⟩
    have key : ∀ n k, n + k = (statesC c).length → Λ1 (((statesC c).take k).foldl (fun a s => min a (Rg (runS p s) c.2.2.1)) 999) (((statesC c).take k).foldl (fun a s => max a (Rg (runS p s) c.2.2.1)) (-999)) k := by
      intro n
      induction n with
      | zero =>
        intro k hk
        apply h1; unfold cExtremes_1
        refine ⟨fun e1 he => ?_, fun _ => ?_⟩
        · rw [List.getElem?_eq_none (by rw [seqC_len]; omega)] at he
          cases he
        · rw [List.take_of_length_le (by omega)]
          unfold minE maxE
          rw [if_pos g, if_pos g]
          exact ⟨rfl, rfl, g.symm, trivial⟩
      | succ n ih =>
        intro k hk
        apply h1; unfold cExtremes_1
        refine ⟨fun e1 he => ?_, fun h => absurd h (by rw [seqC_len]; omega)⟩
        obtain ⟨s, u⟩ := e1
        have he' := seqC_get.1 he
        have hv := stateC_valid hb (List.mem_of_getElem? he')
        refine ⟨⟨g1, hv, ho.1, ho.2⟩, ?_⟩
        have := ih (k + 1) (by omega)
        rw [List.take_add_one, he', List.foldl_append, List.foldl_append] at this
        exact this
    exact key _ 0 (Nat.add_zero _)
  · have g' : ¬ (if validP p = 0 then validC c else validP p) = 0 := g
    rw [if_pos (by simpa using g')]
    unfold minE maxE
    rw [if_neg g, if_neg g]
    exact ⟨rfl, rfl, rfl, trivial⟩
abbrev cDiffer1 : Con := { A := (.cons (.sl .int) (.cons (.ref (.sl tL)) (.cons (.ref tCt) (.cons (.ref (.sl tL)) .nil)))), R := (.cons .bool .nil), pre := fun x => validP x.2.1 = 0 ∧ validP x.2.2.2.1 = 0 ∧ validS x.1 = true ∧ 0 ≤ x.2.2.1.2.2.1 ∧ x.2.2.1.2.2.1 ≤ 3, F := fun x => (decide (Rg (runS x.2.1 x.1) x.2.2.1.2.2.1 ≠ Rg (runS x.2.2.2.1 x.1) x.2.2.1.2.2.1), ()) }
def cDiffer1_0  (in_ : (List Int)) (c0 : (List Lin)) (c1 : Ctr) (c2 : (List Lin)) (y0 : Bool) : Prop :=
  (validP c0 = 0 ∧ validS in_ = true ∧ 0 ≤ c1.2.2.1 ∧ c1.2.2.1 ≤ 3) ∧ ((validP c2 = 0 ∧ validS in_ = true ∧ 0 ≤ c1.2.2.1 ∧ c1.2.2.1 ≤ 3) ∧ (((Rg (runS c0 in_) c1.2.2.1) != (Rg (runS c2 in_) c1.2.2.1)) = y0 ∧ True))
theorem cDiffer1_law (h : ∀ (in_ : (List Int)) (c0 : (List Lin)) (c1 : Ctr) (c2 : (List Lin)), cDiffer1.A.wf (in_, c0, c1, c2, ()) → (validP c0 = 0 ∧ validP c2 = 0 ∧ validS in_ = true ∧ 0 ≤ c1.2.2.1 ∧ c1.2.2.1 ≤ 3) → cDiffer1_0  in_ c0 c1 c2 (decide (Rg (runS c0 in_) c1.2.2.1 ≠ Rg (runS c2 in_) c1.2.2.1))) : ConOK Go.Proofs.Try.prog 76 cDiffer1 := by
  refine lawL (Γ := [(65, cEnd)]) (Θ := Th) (n := 17) [] ⟨cEnd_ok, trivial⟩ (by kernel_rfl) th_ok mix_ok Go.Proofs.Try.func76 (by kernel_rfl) ?_
  intro x hw hp Λ hC
  have h0 := h x.1 x.2.1 x.2.2.1 x.2.2.2.1 hw hp  
  exact Eq.mpr (by kernel_rfl) h0
theorem cDiffer1_ok : ConOK Go.Proofs.Try.prog 76 cDiffer1 := by
  refine cDiffer1_law ?_
  intro in_ c0 c1 c2 hw hp
  unfold cDiffer1_0
  obtain ⟨p1, p2, p3⟩ := hp
  refine ⟨⟨p1, p3⟩, ⟨p2, p3⟩, ?_, trivial⟩
  rw [Bool.eq_iff_iff]; simp
abbrev cDiffer : Con := { A := (.cons (.sl tL) (.cons (.sl tL) (.cons tCt .nil))), R := (.cons (.sl .int) (.cons .bool (.cons .int .nil))), pre := fun x => True, F := fun x => ((if cErr2 x.1 x.2.1 x.2.2.1 = 0 then (difL x.1 x.2.1 x.2.2.1).headD [] else []), (cErr2 x.1 x.2.1 x.2.2.1 == 0 && !(difL x.1 x.2.1 x.2.2.1).isEmpty), cErr2 x.1 x.2.1 x.2.2.1, ()) }
def cDiffer_0  (p : (List Lin)) (q : (List Lin)) (c : Ctr) (y0 : (List Int)) (y1 : Bool) (y2 : Int) : Prop :=
  True ∧ (if (((if firstErr [p, q] = 0 then validC c else firstErr [p, q])) != (0 : Int)) = true then (([] : List Int) = y0 ∧ false = y1 ∧ ((if firstErr [p, q] = 0 then validC c else firstErr [p, q])) = y2 ∧ True) else ((boxC c ∧ ∀ s' ∈ statesC c, (fun (xx : ((List Int) × Unit)) => validP p = 0 ∧ validP q = 0 ∧ validS xx.1 = true ∧ 0 ≤ c.2.2.1 ∧ c.2.2.1 ≤ 3, fun (xx : ((List Int) × Unit)) => (decide (Rg (runS p xx.1) c.2.2.1 ≠ Rg (runS q xx.1) c.2.2.1), ())).1 (s', ())) ∧ (((((statesC c).filter (fun s' => ((fun (xx : ((List Int) × Unit)) => validP p = 0 ∧ validP q = 0 ∧ validS xx.1 = true ∧ 0 ≤ c.2.2.1 ∧ c.2.2.1 ≤ 3, fun (xx : ((List Int) × Unit)) => (decide (Rg (runS p xx.1) c.2.2.1 ≠ Rg (runS q xx.1) c.2.2.1), ())).2 (s', ())).1)).headD [])) = y0 ∧ ((!((statesC c).filter (fun s' => ((fun (xx : ((List Int) × Unit)) => validP p = 0 ∧ validP q = 0 ∧ validS xx.1 = true ∧ 0 ≤ c.2.2.1 ∧ c.2.2.1 ≤ 3, fun (xx : ((List Int) × Unit)) => (decide (Rg (runS p xx.1) c.2.2.1 ≠ Rg (runS q xx.1) c.2.2.1), ())).2 (s', ())).1)).isEmpty)) = y1 ∧ (0 : Int) = y2 ∧ True)))
theorem cDiffer_law (h : ∀ (p : (List Lin)) (q : (List Lin)) (c : Ctr), cDiffer.A.wf (p, q, c, ()) → cDiffer_0  p q c (if cErr2 p q c = 0 then (difL p q c).headD [] else []) (cErr2 p q c == 0 && !(difL p q c).isEmpty) (cErr2 p q c)) : ConOK Go.Proofs.Try.prog 18 cDiffer := by
  refine lawX (X := { subs := [], frz := [3, 4, 5], U := [], mul := [], nst := [], nls := [], itf := none }) (hX := xok0 _) (Γ := [(59, cContracted), (76, cDiffer1), (60, cFirst0)]) (Θ := Th) (n := 28) [] ⟨cContracted_ok, cDiffer1_ok, cFirst0_ok, trivial⟩ (by kernel_rfl) th_ok mix_ok Go.Proofs.Try.func18 (by kernel_rfl) ?_
  intro x hw hp Λ hC
  have h0 := h x.1 x.2.1 x.2.2.1 hw  
  exact Eq.mpr (by kernel_rfl) h0
theorem cDiffer_ok : ConOK Go.Proofs.Try.prog 18 cDiffer := by
  refine cDiffer_law ?_
  intro p q c hw
  unfold cDiffer_0
  rw [cErr2_eq]
  refine ⟨trivial, ?_⟩
  by_cases g : cErr2 p q c = 0
  · rw [if_neg (by simp [g])]
    obtain ⟨g1, g1', g2⟩ := cErr2_ok g
    obtain ⟨g3, g4⟩ := validC_ok g2
    obtain ⟨hb, ho, _⟩ := isCtr_box g3
    refine ⟨⟨hb, fun s' hs => ⟨g1, g1', stateC_valid hb hs, ho.1, ho.2⟩⟩, ?_, ?_, g.symm, trivial⟩
    · rw [if_pos g]; rfl
    · rw [g]; rfl
  · rw [if_pos (by simpa using g), if_neg g]
    refine ⟨rfl, ?_, rfl, trivial⟩
    rw [show (cErr2 p q c == 0) = false by simpa using g]; rfl
theorem fold_min_le (f : List Int → Int) (m : Int) : ∀ (l : List (List Int)) (a : Int), (m ≤ l.foldl (fun a s => min a (f s)) a) ↔ m ≤ a ∧ ∀ s ∈ l, m ≤ f s
  | [], a => by simp
  | x :: l, a => by
    rw [List.foldl_cons, fold_min_le f m l]
    simp only [List.mem_cons, forall_eq_or_imp]
    rw [Int.le_min, and_assoc]
theorem fold_le_max (f : List Int → Int) (m : Int) : ∀ (l : List (List Int)) (a : Int), (l.foldl (fun a s => max a (f s)) a ≤ m) ↔ a ≤ m ∧ ∀ s ∈ l, f s ≤ m
  | [], a => by simp
  | x :: l, a => by
    rw [List.foldl_cons, fold_le_max f m l]
    simp only [List.mem_cons, forall_eq_or_imp]
    rw [Int.max_le, and_assoc]
theorem min_le_max {p : List Lin} {c : Ctr} (e : cErr p c = 0) : minE p c ≤ maxE p c := by
  have hb := (isCtr_box (validC_ok (cErr_ok e).2).1).1
  have hm : c.1 ∈ statesC c := List.mem_of_getElem? (stateC_head hb)
  unfold minE maxE
  rw [if_pos e, if_pos e]
  have h1 := ((fold_min_le (fun s => Rg (runS p s) c.2.2.1) _ (statesC c) 999).1 (Int.le_refl _)).2 _ hm
  have h2 := ((fold_le_max (fun s => Rg (runS p s) c.2.2.1) _ (statesC c) (-999)).1 (Int.le_refl _)).2 _ hm
  exact Int.le_trans h1 h2
theorem keeps_ext {p : List Lin} {c : Ctr} (e : cErr p c = 0) : (badL p c).isEmpty = (decide (c.2.2.2.1 ≤ minE p c) && decide (maxE p c ≤ c.2.2.2.2.1)) := by
  obtain ⟨hb, ho, hm⟩ := isCtr_box (validC_ok (cErr_ok e).2).1
  unfold minE maxE badL
  rw [if_pos e, if_pos e, Bool.eq_iff_iff, Bool.and_eq_true, decide_eq_true_eq, decide_eq_true_eq, fold_min_le, fold_le_max, List.isEmpty_iff, List.filter_eq_nil_iff]
  constructor
  · intro h
    have w : ∀ s ∈ statesC c, c.2.2.2.1 ≤ Rg (runS p s) c.2.2.1 ∧ Rg (runS p s) c.2.2.1 ≤ c.2.2.2.2.1 := by
      intro s hs
      have := h s hs
      unfold keepS within at this
      simpa using this
    exact ⟨⟨by omega, fun s hs => (w s hs).1⟩, ⟨by omega, fun s hs => (w s hs).2⟩⟩
  · rintro ⟨⟨_, h1⟩, ⟨_, h2⟩⟩ s hs
    have a := h1 s hs
    have b := h2 s hs
    unfold keepS within
    simp [a, b]
theorem difL_self (p : List Lin) (c : Ctr) : difL p p c = [] := by
  unfold difL
  rw [List.filter_eq_nil_iff]
  simp
theorem cErr2_self (p : List Lin) (c : Ctr) : cErr2 p p c = cErr p c := by
  unfold cErr2
  by_cases g : validP p = 0
  · rw [if_pos g]
  · rw [if_neg g]; unfold cErr; rw [if_neg g]
end Go.Tk
