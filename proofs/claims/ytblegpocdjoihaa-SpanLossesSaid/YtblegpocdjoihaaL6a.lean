import Derived.Test.YtblegpocdjoihaaC6c
import Derived.Test.YtblegpocdjoihaaP6c
set_option linter.unusedSimpArgs false
set_option linter.unusedVariables false
namespace Go.Tk
open Go Go.RowKit

abbrev cLarge6 : Con := { A := (.cons (.sl .int) .nil), R := (.cons .bool .nil), pre := fun x => True, F := fun x => (decide (100 < x.1.length), ()) }
def cLarge6_0  (l : (List Int)) (y0 : Bool) : Prop :=
  (decide ((List.length l : Int) > (100 : Int))) = y0 ∧ True
theorem cLarge6_law (h : ∀ (l : (List Int)), cLarge6.A.wf (l, ()) → cLarge6_0  l (decide (100 < l.length))) : ConOK Go.Proofs.Try.prog 30 cLarge6 := by
  refine lawL (Γ := []) (Θ := Th) (n := 6) [] trivial (by kernel_rfl) th_ok mix_ok Go.Proofs.Try.func30 (by kernel_rfl) ?_
  intro x hw hp Λ hC
  have h0 := h x.1 hw  
  exact Eq.mpr (by kernel_rfl) h0
theorem cLarge6_ok : ConOK Go.Proofs.Try.prog 30 cLarge6 := by
  refine cLarge6_law ?_
  intro l hw
  unfold cLarge6_0
  exact ⟨by simp; omega, trivial⟩
abbrev cSpanBoxes : Con := { A := (.cons (.sl tR) (.cons (.sl .int) .nil)), R := (.cons .bool .nil), pre := fun x => True, F := fun x => (true, ()) }
def cSpanBoxes_0  (b : (List Rng)) (in_ : (List Int)) (y0 : Bool) : Prop :=
  True ∧ (if (decide (100 < b.length)) = true then (true = true ∧ (True ∧ (true = y0 ∧ True))) else (True ∧ (True ∧ (if (bif false then true else (decide (100 < in_.length))) = true then (True ∧ (true = y0 ∧ True)) else (True ∧ (True ∧ (True ∧ (True ∧ (True ∧ (True ∧ (if ((argErr (validB b)) == (argErr (validB b))) = true then (True ∧ (if (bif true then ((hasOK b in_ && hasB b in_) == (hasOK b in_ && hasB b in_)) else false) = true then (True ∧ (if (bif true then ((argErr (hasOK b in_)) == (argErr (hasOK b in_))) else false) = true then (True ∧ (if (bif true then (((if validB b then sizeB b else 0)) == ((if validB b then sizeB b else 0))) else false) = true then (True ∧ (if (bif true then ((argErr (validB b)) == (argErr (validB b))) else false) = true then (True ∧ (True ∧ ((bif true then true else false) = y0 ∧ True))) else (false = false ∧ (false = y0 ∧ True)))) else (false = false ∧ (false = false ∧ (false = y0 ∧ True))))) else (false = false ∧ (false = false ∧ (false = false ∧ (false = y0 ∧ True)))))) else (false = false ∧ (false = false ∧ (false = false ∧ (false = false ∧ (false = y0 ∧ True))))))) else (false = false ∧ (false = false ∧ (false = false ∧ (false = false ∧ (false = false ∧ (false = y0 ∧ True)))))))))))))))))
theorem cSpanBoxes_law (h : ∀ (b : (List Rng)) (in_ : (List Int)), cSpanBoxes.A.wf (b, in_, ()) → cSpanBoxes_0  b in_ true) : ConOK Go.Proofs.Try.prog 8 cSpanBoxes := by
  refine lawL (Γ := [(33, cHas), (37, cHasR), (18, cKnown6), (30, cLarge6), (17, cLongB), (38, cSize), (39, cSizeR), (40, cValB), (41, cValBR)]) (Θ := Th) (n := 70) [] ⟨cHas_ok, cHasR_ok, cKnown6_ok, cLarge6_ok, cLongB_ok, cSize_ok, cSizeR_ok, cValB_ok, cValBR_ok, trivial⟩ (by kernel_rfl) th_ok mix_ok Go.Proofs.Try.func8 (by kernel_rfl) ?_
  intro x hw hp Λ hC
  have h0 := h x.1 x.2.1 hw  
  exact Eq.mpr (by kernel_rfl) h0
theorem cSpanBoxes_ok : ConOK Go.Proofs.Try.prog 8 cSpanBoxes := by
  refine cSpanBoxes_law ?_
  intro b in_ hw
  unfold cSpanBoxes_0
  simp
abbrev cSpanHulls : Con := { A := (.cons (.sl tR) (.cons (.sl tR) .nil)), R := (.cons .bool .nil), pre := fun x => True, F := fun x => (true, ()) }
def cSpanHulls_0 (Λ1 : Bool → Int → (List Rng) → Prop) (a : (List Rng)) (b : (List Rng)) (y0 : Bool) : Prop :=
  True ∧ (if (decide (100 < a.length)) = true then (true = true ∧ (True ∧ (true = y0 ∧ True))) else (True ∧ (True ∧ (if (bif false then true else (decide (100 < b.length))) = true then (True ∧ (true = y0 ∧ True)) else (List.length ([] : List Rng) + List.length a ≤ 4294967296 ∧ (True ∧ (True ∧ (True ∧ (True ∧ (((if twoOK (([] : List Rng) ++ a) b then join hull2 (([] : List Rng) ++ a) b else [])).length ≤ 1000000 ∧ (if (!(decide (((if twoOK (([] : List Rng) ++ a) b then join hull2 (([] : List Rng) ++ a) b else [])) = ((if twoOK a b then join hull2 a b else []))))) = true then (true = true ∧ (true = true ∧ (true = true ∧ (false = y0 ∧ True)))) else (True ∧ (if (bif false then true else ((argErr (twoOK (([] : List Rng) ++ a) b)) != (argErr (twoOK a b)))) = true then (true = true ∧ (true = true ∧ (false = y0 ∧ True))) else (True ∧ (if (bif false then true else (!((twoOK a b && decide (join hull2 a b = b)) == (twoOK a b && decide (join hull2 a b = b))))) = true then (true = true ∧ (false = y0 ∧ True)) else (True ∧ (if (bif false then true else ((argErr (twoOK a b)) != (argErr (twoOK a b)))) = true then (false = y0 ∧ True) else (True ∧ (True ∧ (if ((argErr (twoOK (([] : List Rng) ++ a) b)) != (0 : Int)) = true then (true = true ∧ Λ1 true (0 : Int) ((if twoOK (([] : List Rng) ++ a) b then join hull2 (([] : List Rng) ++ a) b else []))) else (if ((argErr (twoOK a ((if twoOK (([] : List Rng) ++ a) b then join hull2 (([] : List Rng) ++ a) b else [])))) == (0 : Int)) = true then (True ∧ (if (bif true then ((argErr (twoOK b ((if twoOK (([] : List Rng) ++ a) b then join hull2 (([] : List Rng) ++ a) b else [])))) == (0 : Int)) else false) = true then (True ∧ (if (bif true then (twoOK a ((if twoOK (([] : List Rng) ++ a) b then join hull2 (([] : List Rng) ++ a) b else [])) && decide (join hull2 a ((if twoOK (([] : List Rng) ++ a) b then join hull2 (([] : List Rng) ++ a) b else [])) = ((if twoOK (([] : List Rng) ++ a) b then join hull2 (([] : List Rng) ++ a) b else [])))) else false) = true then (True ∧ (True ∧ Λ1 (bif false then true else (bif true then (twoOK b ((if twoOK (([] : List Rng) ++ a) b then join hull2 (([] : List Rng) ++ a) b else [])) && decide (join hull2 b ((if twoOK (([] : List Rng) ++ a) b then join hull2 (([] : List Rng) ++ a) b else [])) = ((if twoOK (([] : List Rng) ++ a) b then join hull2 (([] : List Rng) ++ a) b else [])))) else false)) (0 : Int) ((if twoOK (([] : List Rng) ++ a) b then join hull2 (([] : List Rng) ++ a) b else [])))) else (false = false ∧ (True ∧ Λ1 (bif false then true else false) (0 : Int) ((if twoOK (([] : List Rng) ++ a) b then join hull2 (([] : List Rng) ++ a) b else [])))))) else (false = false ∧ (false = false ∧ (True ∧ Λ1 (bif false then true else false) (0 : Int) ((if twoOK (([] : List Rng) ++ a) b then join hull2 (([] : List Rng) ++ a) b else []))))))) else (false = false ∧ (false = false ∧ (false = false ∧ (True ∧ Λ1 (bif false then true else false) (0 : Int) ((if twoOK (([] : List Rng) ++ a) b then join hull2 (([] : List Rng) ++ a) b else [])))))))))))))))))))))))))))
def cSpanHulls_1 (Λ1 : Bool → Int → (List Rng) → Prop) (a : (List Rng)) (b : (List Rng)) (y0 : Bool)  (ok_1 : Bool) (k_1 : Int) (x_1 : (List Rng)) : Prop :=
  if (decide (k_1 < (List.length x_1 : Int))) = true then (idx k_1 (List.length x_1 : Int) ∧ (inI (k_1 + (1 : Int)) ∧ Λ1 ok_1 (k_1 + (1 : Int)) (List.set x_1 (Int.toNat k_1) (1, 0, ())))) else (if ok_1 = true then ((([] : List Rng) ++ a).length ≤ 1000000 ∧ (True ∧ (if (bif true then (decide ((([] : List Rng) ++ a) = a)) else false) = true then (True ∧ (True ∧ ((bif true then true else false) = y0 ∧ True))) else (false = false ∧ (false = y0 ∧ True))))) else (false = false ∧ (false = false ∧ (false = y0 ∧ True))))
theorem cSpanHulls_law (h : ∀ (a : (List Rng)) (b : (List Rng)), cSpanHulls.A.wf (a, b, ()) → ∀ (Λ1 : Bool → Int → (List Rng) → Prop), (∀ (ok_1 : Bool) (k_1 : Int) (x_1 : (List Rng)), cSpanHulls_1 Λ1 a b true ok_1 k_1 x_1 → Λ1 ok_1 k_1 x_1) → cSpanHulls_0 Λ1 a b true) : ConOK Go.Proofs.Try.prog 7 cSpanHulls := by
  refine lawL (Γ := [(34, cHull), (35, cHullRe), (18, cKnown6), (17, cLongB), (23, cSameR), (29, cWithinB), (36, cWithinRB)]) (Θ := Th) (n := 120) [([1, 1, 1, 1, 1, 1, 1, 1, 1, 1, 1, 0, 1, 0], ⟨[(0, false), (5, true), (6, true), (18, true), (19, true)], [(27, true), (33, true)]⟩)] ⟨cHull_ok, cHullRe_ok, cKnown6_ok, cLongB_ok, cSameR_ok, cWithinB_ok, cWithinRB_ok, trivial⟩ (by kernel_rfl) th_ok mix_ok Go.Proofs.Try.func7 (by kernel_rfl) ?_
  intro x hw hp Λ hC
  have h0 := h x.1 x.2.1 hw (fun ok_1 k_1 x_1 => Λ [1, 1, 1, 1, 1, 1, 1, 1, 1, 1, 1, 0, 1, 0] ([(0, .d false (.sl tR) x.1), (5, .own 27 0), (6, .own 33 0), (18, .d true .bool ok_1), (19, .d true .int k_1)], [(27, .sl true tR (([] : List Rng) ++ x.1)), (33, .sl true tR x_1)])) (fun ok_1 k_1 x_1 hb => hC [1, 1, 1, 1, 1, 1, 1, 1, 1, 1, 1, 0, 1, 0] ([(0, .d false (.sl tR) x.1), (5, .own 27 0), (6, .own 33 0), (18, .d true .bool ok_1), (19, .d true .int k_1)], [(27, .sl true tR (([] : List Rng) ++ x.1)), (33, .sl true tR x_1)]) (Eq.mpr (by kernel_rfl) hb))
  exact Eq.mpr (by kernel_rfl) h0
theorem cSpanHulls_ok : ConOK Go.Proofs.Try.prog 7 cSpanHulls := by
  refine cSpanHulls_law ?_
  intro a b hw Λ1 h1
  unfold cSpanHulls_0
  by_cases c1 : 100 < a.length
  · simp [c1]
  by_cases c2 : 100 < b.length
  · simp [c1, c2]
  have hΛ : ∀ x : List Rng, x.length ≤ 1000 → Λ1 true 0 x := by
    intro x hx
    refine upto (n := x.length) (Q := fun k => ∀ x' : List Rng, x'.length = x.length → Λ1 true (k : Int) x') ?_ ?_ 0 (Nat.zero_le _) x rfl
    · intro x' hl
      apply h1; unfold cSpanHulls_1
      rw [if_neg (by rw [hl]; simp)]
      have : a.length ≤ 1000000 := by omega
      simp [this]
    · intro k hk ih x' hl
      apply h1; unfold cSpanHulls_1
      rw [if_pos (by rw [hl]; simpa using hk)]
      exact ⟨⟨by omega, by omega⟩, by unfold inI; omega, ih _ (by rw [List.length_set]; exact hl)⟩
  have l1 : a.length ≤ 4294967296 := by omega
  cases h : twoOK a b
  · have := hΛ [] (by simp)
    simp [c1, c2, l1, h, argErr, this]
  · obtain ⟨v1, v2⟩ := twoOK_iff.1 h
    have hv := join_ok v1 v2
    have t1 : twoOK a (join hull2 a b) = true := twoOK_iff.2 ⟨v1, hv⟩
    have t2 : twoOK b (join hull2 a b) = true := twoOK_iff.2 ⟨v2, hv⟩
    have hl := validB_len hv
    have l2 : (join hull2 a b).length ≤ 1000000 := by omega
    have := hΛ (join hull2 a b) (by omega)
    simp [c1, c2, l1, l2, h, t1, t2, argErr, this, join_left v1 v2, join_right v1 v2]
abbrev cSpanMeets : Con := { A := (.cons (.sl tR) (.cons (.sl tR) (.cons (.sl .int) .nil))), R := (.cons .bool .nil), pre := fun x => True, F := fun x => (true, ()) }
def cSpanMeets_0  (a : (List Rng)) (b : (List Rng)) (in_ : (List Int)) (y0 : Bool) : Prop :=
  True ∧ (if (decide (100 < a.length)) = true then (true = true ∧ (true = true ∧ (True ∧ (true = y0 ∧ True)))) else (True ∧ (True ∧ (if (bif false then true else (decide (100 < b.length))) = true then (true = true ∧ (True ∧ (true = y0 ∧ True))) else (True ∧ (True ∧ (if (bif false then true else (decide (100 < in_.length))) = true then (True ∧ (true = y0 ∧ True)) else (True ∧ (True ∧ ((meetB a b).length ≤ 1000000 ∧ (if (!(decide ((meetB a b) = (meetB a b)))) = true then (true = true ∧ (true = true ∧ (false = y0 ∧ True))) else (True ∧ (if (bif false then true else (!((twoOK a b && validB (join meet2 a b)) == (twoOK a b && validB (join meet2 a b))))) = true then (true = true ∧ (false = y0 ∧ True)) else (True ∧ (if (bif false then true else ((argErr (twoOK a b)) != (argErr (twoOK a b)))) = true then (false = y0 ∧ True) else (True ∧ (True ∧ (if ((argErr (twoOK a b)) != (0 : Int)) = true then (true = true ∧ (true = true ∧ (True ∧ (true = y0 ∧ True)))) else (True ∧ (if (bif false then true else ((argErr (hasOK a in_)) != (0 : Int))) = true then (true = true ∧ (True ∧ (true = y0 ∧ True))) else (True ∧ (if (bif false then true else ((argErr (hasOK b in_)) != (0 : Int))) = true then (True ∧ (true = y0 ∧ True)) else (if (!(twoOK a b && validB (join meet2 a b))) = true then (if (hasOK a in_ && hasB a in_) = true then (True ∧ (if (!(bif true then (hasOK b in_ && hasB b in_) else false)) = true then (True ∧ (True ∧ ((bif true then true else false) = y0 ∧ True))) else (false = false ∧ (false = y0 ∧ True)))) else (false = false ∧ (True ∧ (True ∧ ((bif true then true else false) = y0 ∧ True))))) else (True ∧ (if ((argErr (hasOK (meetB a b) in_)) == (0 : Int)) = true then (if (hasOK a in_ && hasB a in_) = true then (True ∧ (True ∧ (if (bif true then ((hasOK (meetB a b) in_ && hasB (meetB a b) in_) == (bif true then (hasOK b in_ && hasB b in_) else false)) else false) = true then (True ∧ (True ∧ ((bif true then true else false) = y0 ∧ True))) else (false = false ∧ (false = y0 ∧ True))))) else (false = false ∧ (True ∧ (if (bif true then ((hasOK (meetB a b) in_ && hasB (meetB a b) in_) == false) else false) = true then (True ∧ (True ∧ ((bif true then true else false) = y0 ∧ True))) else (false = false ∧ (false = y0 ∧ True)))))) else (false = false ∧ (false = false ∧ (false = y0 ∧ True))))))))))))))))))))))))))))
theorem cSpanMeets_law (h : ∀ (a : (List Rng)) (b : (List Rng)) (in_ : (List Int)), cSpanMeets.A.wf (a, b, in_, ()) → cSpanMeets_0  a b in_ true) : ConOK Go.Proofs.Try.prog 9 cSpanMeets := by
  refine lawL (Γ := [(33, cHas), (18, cKnown6), (30, cLarge6), (17, cLongB), (42, cMeet), (43, cMeetR), (23, cSameR)]) (Θ := Th) (n := 110) [] ⟨cHas_ok, cKnown6_ok, cLarge6_ok, cLongB_ok, cMeet_ok, cMeetR_ok, cSameR_ok, trivial⟩ (by kernel_rfl) th_ok mix_ok Go.Proofs.Try.func9 (by kernel_rfl) ?_
  intro x hw hp Λ hC
  have h0 := h x.1 x.2.1 x.2.2.1 hw  
  exact Eq.mpr (by kernel_rfl) h0
theorem cSpanMeets_ok : ConOK Go.Proofs.Try.prog 9 cSpanMeets := by
  refine cSpanMeets_law ?_
  intro a b in_ hw
  unfold cSpanMeets_0
  by_cases c1 : 100 < a.length
  · simp [c1]
  by_cases c2 : 100 < b.length
  · simp [c1, c2]
  by_cases c3 : 100 < in_.length
  · simp [c1, c2, c3]
  have hl : (meetB a b).length ≤ 1000000 := by
    unfold meetB
    split
    · unfold join; rw [List.length_zipWith]; omega
    · simp
  cases h : twoOK a b
  · simp [c1, c2, c3, hl, h, argErr]
  cases g1 : hasOK a in_
  · simp [c1, c2, c3, hl, h, g1, argErr]
  cases g2 : hasOK b in_
  · simp [c1, c2, c3, hl, h, g1, g2, argErr]
  obtain ⟨v1, v2⟩ := twoOK_iff.1 h
  have vs := (hasOK_iff.1 g1).2
  cases hm : validB (join meet2 a b)
  · have hno : (hasB a in_ && hasB b in_) = false := by
      cases k1 : hasB a in_
      · rfl
      cases k2 : hasB b in_
      · rfl
      rw [meet_valid v1 v2 vs k1 k2] at hm; cases hm
    cases k1 : hasB a in_
    · simp [c1, c2, c3, hl, h, g1, g2, hm, argErr, k1]
    · rw [k1] at hno
      simp at hno
      simp [c1, c2, c3, hl, h, g1, g2, hm, argErr, k1, hno]
  · have hx : meetB a b = join meet2 a b := by unfold meetB; rw [h, hm]; rfl
    have g3 : hasOK (join meet2 a b) in_ = true := hasOK_iff.2 ⟨hm, vs⟩
    rw [hx] at hl
    have := hasB_meet v1 v2 vs
    cases k1 : hasB a in_ <;> cases k2 : hasB b in_ <;> simp [c1, c2, c3, hl, h, g1, g2, g3, hm, hx, argErr, k1, k2, this]
abbrev cSpanHalves : Con := { A := (.cons (.sl tR) (.cons .int (.cons (.sl .int) .nil))), R := (.cons .bool .nil), pre := fun x => True, F := fun x => (true, ()) }
def cSpanHalves_0  (b : (List Rng)) (register : Int) (in_ : (List Int)) (y0 : Bool) : Prop :=
  True ∧ (if (decide (100 < b.length)) = true then (true = true ∧ (True ∧ (true = y0 ∧ True))) else (True ∧ (True ∧ (if (bif false then true else (decide (100 < in_.length))) = true then (True ∧ (true = y0 ∧ True)) else (True ∧ (True ∧ ((halfLow b register).length ≤ 1000000 ∧ (if (!(decide ((halfLow b register) = (halfLow b register)))) = true then (true = true ∧ (true = true ∧ (false = y0 ∧ True))) else ((halfHigh b register).length ≤ 1000000 ∧ (True ∧ (if (bif false then true else (!(decide ((halfHigh b register) = (halfHigh b register))))) = true then (true = true ∧ (false = y0 ∧ True)) else (True ∧ (if (bif false then true else ((halfErr b register) != (halfErr b register))) = true then (false = y0 ∧ True) else (True ∧ (if ((halfErr b register) != (0 : Int)) = true then (true = true ∧ (True ∧ (true = y0 ∧ True))) else (True ∧ (if (bif false then true else ((argErr (hasOK b in_)) != (0 : Int))) = true then (True ∧ (true = y0 ∧ True)) else (True ∧ (True ∧ (if ((argErr (hasOK (halfLow b register) in_)) == (0 : Int)) = true then (True ∧ (if (bif true then ((argErr (hasOK (halfHigh b register) in_)) == (0 : Int)) else false) = true then (if (hasOK (halfLow b register) in_ && hasB (halfLow b register) in_) = true then (True ∧ (True ∧ (if (bif true then (!(bif true then (hasOK (halfHigh b register) in_ && hasB (halfHigh b register) in_) else false)) else false) = true then (if (hasOK (halfLow b register) in_ && hasB (halfLow b register) in_) = true then (true = true ∧ (True ∧ (if (bif true then ((hasOK b in_ && hasB b in_) == true) else false) = true then (True ∧ (True ∧ ((bif true then true else false) = y0 ∧ True))) else (false = false ∧ (false = y0 ∧ True))))) else (True ∧ (True ∧ (if (bif true then ((hasOK b in_ && hasB b in_) == (bif false then true else (hasOK (halfHigh b register) in_ && hasB (halfHigh b register) in_))) else false) = true then (True ∧ (True ∧ ((bif true then true else false) = y0 ∧ True))) else (false = false ∧ (false = y0 ∧ True)))))) else (false = false ∧ (false = false ∧ (false = y0 ∧ True)))))) else (false = false ∧ (True ∧ (if (bif true then true else false) = true then (if (hasOK (halfLow b register) in_ && hasB (halfLow b register) in_) = true then (true = true ∧ (True ∧ (if (bif true then ((hasOK b in_ && hasB b in_) == true) else false) = true then (True ∧ (True ∧ ((bif true then true else false) = y0 ∧ True))) else (false = false ∧ (false = y0 ∧ True))))) else (True ∧ (True ∧ (if (bif true then ((hasOK b in_ && hasB b in_) == (bif false then true else (hasOK (halfHigh b register) in_ && hasB (halfHigh b register) in_))) else false) = true then (True ∧ (True ∧ ((bif true then true else false) = y0 ∧ True))) else (false = false ∧ (false = y0 ∧ True)))))) else (false = false ∧ (false = false ∧ (false = y0 ∧ True))))))) else (false = false ∧ (false = false ∧ (false = false ∧ (false = y0 ∧ True)))))) else (false = false ∧ (false = false ∧ (false = false ∧ (false = false ∧ (false = y0 ∧ True)))))))))))))))))))))))))
theorem cSpanHalves_law (h : ∀ (b : (List Rng)) (register : Int) (in_ : (List Int)), cSpanHalves.A.wf (b, register, in_, ()) → cSpanHalves_0  b register in_ true) : ConOK Go.Proofs.Try.prog 6 cSpanHalves := by
  refine lawL (Γ := [(31, cHalves), (32, cHalvesR), (33, cHas), (18, cKnown6), (30, cLarge6), (17, cLongB), (23, cSameR)]) (Θ := Th) (n := 104) [] ⟨cHalves_ok, cHalvesR_ok, cHas_ok, cKnown6_ok, cLarge6_ok, cLongB_ok, cSameR_ok, trivial⟩ (by kernel_rfl) th_ok mix_ok Go.Proofs.Try.func6 (by kernel_rfl) ?_
  intro x hw hp Λ hC
  have h0 := h x.1 x.2.1 x.2.2.1 hw  
  exact Eq.mpr (by kernel_rfl) h0
theorem cSpanHalves_ok : ConOK Go.Proofs.Try.prog 6 cSpanHalves := by
  refine cSpanHalves_law ?_
  intro b register in_ hw
  unfold cSpanHalves_0
  by_cases c1 : 100 < b.length
  · simp [c1]
  by_cases c2 : 100 < in_.length
  · simp [c1, c2]
  have hl : (halfLow b register).length ≤ 1000000 := by
    unfold halfLow
    split
    · rw [List.length_set]; omega
    · simp
  have hl2 : (halfHigh b register).length ≤ 1000000 := by
    unfold halfHigh
    split
    · rw [List.length_set]; omega
    · simp
  by_cases h : halfErr b register = 0
  · cases g : hasOK b in_
    · simp [c1, c2, hl, hl2, h, g, argErr]
    have vs := (hasOK_iff.1 g).2
    have g1 : hasOK (halfLow b register) in_ = true := hasOK_iff.2 ⟨halfLow_ok h, vs⟩
    have g2 : hasOK (halfHigh b register) in_ = true := hasOK_iff.2 ⟨halfHigh_ok h, vs⟩
    obtain ⟨k1, k2⟩ := half_has h vs
    cases m1 : hasB (halfLow b register) in_ <;> cases m2 : hasB (halfHigh b register) in_ <;> simp [c1, c2, hl, hl2, h, g, g1, g2, argErr, k2, m1, m2] <;> simp [m1, m2] at k1
  · simp [c1, c2, hl, hl2, h]
abbrev cSpanGrows : Con := { A := (.cons (.sl tL) (.cons (.sl tR) (.cons (.sl tR) .nil))), R := (.cons .bool .nil), pre := fun x => True, F := fun x => (true, ()) }
def cSpanGrows_0  (p : (List Lin)) (a : (List Rng)) (b : (List Rng)) (y0 : Bool) : Prop :=
  True ∧ (if (decide (100 < p.length)) = true then (true = true ∧ (true = true ∧ (True ∧ (true = y0 ∧ True)))) else (True ∧ (True ∧ (if (bif false then true else (decide (100 < a.length))) = true then (true = true ∧ (True ∧ (true = y0 ∧ True))) else (True ∧ (True ∧ (if (bif false then true else (decide (100 < b.length))) = true then (True ∧ (true = y0 ∧ True)) else (True ∧ (True ∧ (True ∧ (if ((argErr (twoOK a b)) != (0 : Int)) = true then (true = true ∧ (true = true ∧ (true = true ∧ (True ∧ (true = y0 ∧ True))))) else (True ∧ (if (bif false then true else ((err6 p a) != (0 : Int))) = true then (true = true ∧ (true = true ∧ (True ∧ (true = y0 ∧ True)))) else (True ∧ (if (bif false then true else ((err6 p b) != (0 : Int))) = true then (true = true ∧ (True ∧ (true = y0 ∧ True))) else (True ∧ (if (bif false then true else (!(twoOK a b && decide (join hull2 a b = b)))) = true then (True ∧ (true = y0 ∧ True)) else (True ∧ (if ((argErr (twoOK ((if err6 p a = 0 then afterB p a else [])) ((if err6 p b = 0 then afterB p b else [])))) == (0 : Int)) = true then (True ∧ (if (bif true then (twoOK ((if err6 p a = 0 then afterB p a else [])) ((if err6 p b = 0 then afterB p b else [])) && decide (join hull2 ((if err6 p a = 0 then afterB p a else [])) ((if err6 p b = 0 then afterB p b else [])) = ((if err6 p b = 0 then afterB p b else [])))) else false) = true then (True ∧ (True ∧ ((bif true then true else false) = y0 ∧ True))) else (false = false ∧ (false = y0 ∧ True)))) else (false = false ∧ (false = false ∧ (false = y0 ∧ True))))))))))))))))))))))
theorem cSpanGrows_law (h : ∀ (p : (List Lin)) (a : (List Rng)) (b : (List Rng)), cSpanGrows.A.wf (p, a, b, ()) → cSpanGrows_0  p a b true) : ConOK Go.Proofs.Try.prog 5 cSpanGrows := by
  refine lawL (Γ := [(19, cAfter), (18, cKnown6), (17, cLongB), (16, cLongL), (29, cWithinB)]) (Θ := Th) (n := 73) [] ⟨cAfter_ok, cKnown6_ok, cLongB_ok, cLongL_ok, cWithinB_ok, trivial⟩ (by kernel_rfl) th_ok mix_ok Go.Proofs.Try.func5 (by kernel_rfl) ?_
  intro x hw hp Λ hC
  have h0 := h x.1 x.2.1 x.2.2.1 hw  
  exact Eq.mpr (by kernel_rfl) h0
theorem cSpanGrows_ok : ConOK Go.Proofs.Try.prog 5 cSpanGrows := by
  refine cSpanGrows_law ?_
  intro p a b hw
  unfold cSpanGrows_0
  by_cases c1 : 100 < p.length
  · simp [c1]
  by_cases c2 : 100 < a.length
  · simp [c1, c2]
  by_cases c3 : 100 < b.length
  · simp [c1, c2, c3]
  cases h : twoOK a b
  · simp [c1, c2, c3, h, argErr]
  by_cases e1 : err6 p a = 0
  · by_cases e2 : err6 p b = 0
    · obtain ⟨p1, v1⟩ := err6_ok e1
      obtain ⟨_, v2⟩ := err6_ok e2
      obtain ⟨_, hall⟩ := validP_ok p1
      by_cases hj : join hull2 a b = b
      · have := after_mono hall v1 v2 hj
        have t : twoOK (afterB p a) (afterB p b) = true := twoOK_iff.2 ⟨afterB_ok hall v1, afterB_ok hall v2⟩
        simp [c1, c2, c3, h, e1, e2, hj, t, this, argErr]
      · simp [c1, c2, c3, h, e1, e2, hj, argErr]
    · simp [c1, c2, c3, h, e1, e2, argErr]
  · simp [c1, c2, c3, h, e1, argErr]
end Go.Tk
