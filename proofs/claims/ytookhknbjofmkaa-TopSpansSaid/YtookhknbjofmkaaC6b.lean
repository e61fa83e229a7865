import Derived.Test.YtookhknbjofmkaaC6
import Derived.Test.YtookhknbjofmkaaP6b
set_option linter.unusedSimpArgs false
set_option linter.unusedVariables false
namespace Go.Tk
open Go Go.RowKit

abbrev cAfter : Con := { A := (.cons (.sl tL) (.cons (.sl tR) .nil)), R := (.cons (.sl tR) (.cons .int .nil)), pre := fun x => True, F := fun x => ((if err6 x.1 x.2.1 = 0 then afterB x.1 x.2.1 else []), err6 x.1 x.2.1, ()) }
def cAfter_0  (p : (List Lin)) (b : (List Rng)) (y0 : (List Rng)) (y1 : Int) : Prop :=
  True ∧ (if (((if validP p = 0 then argErr (validB b) else validP p)) != (0 : Int)) = true then (([] : List Rng) = y0 ∧ ((if validP p = 0 then argErr (validB b) else validP p)) = y1 ∧ True) else ((validP p = 0 ∧ validB b = true) ∧ (((List.getD (spans p b) p.length tSpot.dflt).2.1) = y0 ∧ (0 : Int) = y1 ∧ True)))
theorem cAfter_law (h : ∀ (p : (List Lin)) (b : (List Rng)), cAfter.A.wf (p, b, ()) → cAfter_0  p b (if err6 p b = 0 then afterB p b else []) (err6 p b)) : ConOK Go.Proofs.Try.prog 24 cAfter := by
  refine lawL (Γ := [(82, cAfter0), (77, cChecked)]) (Θ := Th) (n := 16) [] ⟨cAfter0_ok, cChecked_ok, trivial⟩ (by kernel_rfl) th_ok mix_ok Go.Proofs.Try.func24 (by kernel_rfl) ?_
  intro x hw hp Λ hC
  have h0 := h x.1 x.2.1 hw  
  exact Eq.mpr (by kernel_rfl) h0
theorem cAfter_ok : ConOK Go.Proofs.Try.prog 24 cAfter := by
  refine cAfter_law ?_
  intro p b hw
  unfold cAfter_0
  refine ⟨trivial, ?_⟩
  show if (err6 p b != 0) = true then _ else _
  by_cases h : err6 p b = 0
  · rw [if_neg (by simp [h]), if_pos h]
    exact ⟨err6_ok h, rfl, h.symm, trivial⟩
  · rw [if_pos (by simpa using h), if_neg h]
    exact ⟨rfl, rfl, trivial⟩
theorem shr1 (n : Int) : shrI n 1 = n / 2 := by
  unfold shrI
  rw [Int.fdiv_eq_ediv_of_nonneg _ (by decide)]; rfl

abbrev cHalves : Con := { A := (.cons (.sl tR) (.cons .int .nil)), R := (.cons (.sl tR) (.cons (.sl tR) (.cons .int .nil))), pre := fun x => True, F := fun x => (halfLow x.1 x.2.1, halfHigh x.1 x.2.1, halfErr x.1 x.2.1, ()) }
def cHalves_0  (b : (List Rng)) (register : Int) (y0 : (List Rng)) (y1 : (List Rng)) (y2 : Int) : Prop :=
  True ∧ (if ((argErr (validB b)) != (0 : Int)) = true then (([] : List Rng) = y0 ∧ ([] : List Rng) = y1 ∧ (argErr (validB b)) = y2 ∧ True) else (True ∧ (if (!(within register (0 : Int) (3 : Int))) = true then (([] : List Rng) = y0 ∧ ([] : List Rng) = y1 ∧ (1 : Int) = y2 ∧ True) else (idx register (List.length b : Int) ∧ (if ((List.getD b (Int.toNat register) tR.dflt).1 == (List.getD b (Int.toNat register) tR.dflt).2.1) = true then (([] : List Rng) = y0 ∧ ([] : List Rng) = y1 ∧ (6 : Int) = y2 ∧ True) else (inI ((List.getD b (Int.toNat register) tR.dflt).1 + (List.getD b (Int.toNat register) tR.dflt).2.1) ∧ (((0 : Int) ≤ 1 ∧ (1 : Int) < 64) ∧ (b.length ≤ 1000000 ∧ (b.length ≤ 1000000 ∧ (inI ((shrI ((List.getD b (Int.toNat register) tR.dflt).1 + (List.getD b (Int.toNat register) tR.dflt).2.1) 1) + (1 : Int)) ∧ (idx register (List.length b : Int) ∧ (idx register (List.length b : Int) ∧ ((List.set b (Int.toNat register) ((List.getD b (Int.toNat register) tR.dflt).1, (shrI ((List.getD b (Int.toNat register) tR.dflt).1 + (List.getD b (Int.toNat register) tR.dflt).2.1) 1), ())) = y0 ∧ (List.set b (Int.toNat register) (((shrI ((List.getD b (Int.toNat register) tR.dflt).1 + (List.getD b (Int.toNat register) tR.dflt).2.1) 1) + (1 : Int)), (List.getD b (Int.toNat register) tR.dflt).2.1, ())) = y1 ∧ (0 : Int) = y2 ∧ True)))))))))))))
theorem cHalves_law (h : ∀ (b : (List Rng)) (register : Int), cHalves.A.wf (b, register, ()) → cHalves_0  b register (halfLow b register) (halfHigh b register) (halfErr b register)) : ConOK Go.Proofs.Try.prog 31 cHalves := by
  refine lawL (Γ := [(94, cCloneR), (87, cValB), (93, cWithin6)]) (Θ := Th) (n := 52) [] ⟨cCloneR_ok, cValB_ok, cWithin6_ok, trivial⟩ (by kernel_rfl) th_ok mix_ok Go.Proofs.Try.func31 (by kernel_rfl) ?_
  intro x hw hp Λ hC
  have h0 := h x.1 x.2.1 hw  
  exact Eq.mpr (by kernel_rfl) h0
theorem cHalves_ok : ConOK Go.Proofs.Try.prog 31 cHalves := by
  refine cHalves_law ?_
  intro b register hw
  unfold cHalves_0
  refine ⟨trivial, ?_⟩
  cases hv : validB b
  · rw [if_pos (by rfl)]
    have e : halfErr b register = 1 := by unfold halfErr; rw [if_neg (by simp [hv])]
    unfold halfLow halfHigh
    rw [e, if_neg (by decide), if_neg (by decide)]
    exact ⟨rfl, rfl, rfl, trivial⟩
  rw [if_neg (by simp [argErr])]
  refine ⟨trivial, ?_⟩
  by_cases hr : 0 ≤ register ∧ register ≤ 3
  · rw [if_neg (by rw [within_iff.2 hr]; simp)]
    have hb := validB_len hv
    have hg := validB_get hv hr.1 hr.2
    have hI : idx register (b.length : Int) := ⟨hr.1, by omega⟩
    refine ⟨hI, ?_⟩
    unfold Rd at hg
    by_cases he : (List.getD b register.toNat tR.dflt).1 = (List.getD b register.toNat tR.dflt).2.1
    · have e : halfErr b register = 6 := by unfold halfErr Rd; rw [if_pos ⟨hv, hr⟩, if_pos he]
      rw [if_pos (by simpa using he)]
      unfold halfLow halfHigh
      rw [e, if_neg (by decide), if_neg (by decide)]
      exact ⟨rfl, rfl, rfl, trivial⟩
    · have e : halfErr b register = 0 := by unfold halfErr Rd; rw [if_pos ⟨hv, hr⟩, if_neg he]
      rw [if_neg (by simpa using he)]
      unfold halfLow halfHigh midR Rd
      rw [e, if_pos rfl, if_pos rfl, shr1]
      exact ⟨by unfold inI; omega, ⟨by decide, by decide⟩, by omega, by omega, by unfold inI; omega, hI, hI, rfl, rfl, rfl, trivial⟩
  · have e : halfErr b register = 1 := by unfold halfErr; rw [if_neg (by rintro ⟨_, h⟩; exact hr h)]
    rw [if_pos (by
      have : within register 0 3 = false := by
        cases hw : within register 0 3
        · rfl
        · exact absurd (within_iff.1 hw) hr
      rw [this]; rfl)]
    unfold halfLow halfHigh
    rw [e, if_neg (by decide), if_neg (by decide)]
    exact ⟨rfl, rfl, rfl, trivial⟩
abbrev cHas0 : Con := { A := (.cons (.sl tR) (.cons (.sl .int) .nil)), R := (.cons .bool .nil), pre := fun x => x.1.length ≤ x.2.1.length ∧ x.1.length ≤ 1000, F := fun x => (hasB x.1 x.2.1, ()) }
def cHas0_0 (Λ1 : Int → Prop) (b : (List Rng)) (in_ : (List Int)) (y0 : Bool) : Prop :=
  Λ1 (0 : Int)
def cHas0_1 (Λ1 : Int → Prop) (b : (List Rng)) (in_ : (List Int)) (y0 : Bool)  (t9_1 : Int) : Prop :=
  if (decide (t9_1 < (List.length b : Int))) = true then (idx t9_1 (List.length b : Int) ∧ (idx t9_1 (List.length in_ : Int) ∧ (True ∧ (if (!(within (List.getD in_ (Int.toNat t9_1) 0) ((List.getD b (Int.toNat t9_1) tR.dflt).1) ((List.getD b (Int.toNat t9_1) tR.dflt).2.1))) = true then (false = y0 ∧ True) else (inI (t9_1 + (1 : Int)) ∧ Λ1 (t9_1 + (1 : Int))))))) else (true = y0 ∧ True)
theorem cHas0_law (h : ∀ (b : (List Rng)) (in_ : (List Int)), cHas0.A.wf (b, in_, ()) → (b.length ≤ in_.length ∧ b.length ≤ 1000) → ∀ (Λ1 : Int → Prop), (∀ (t9_1 : Int), cHas0_1 Λ1 b in_ (hasB b in_) t9_1 → Λ1 t9_1) → cHas0_0 Λ1 b in_ (hasB b in_)) : ConOK Go.Proofs.Try.prog 88 cHas0 := by
  refine lawL (Γ := [(93, cWithin6)]) (Θ := Th) (n := 25) [([1, 0, 1, 0], ⟨[(1, false), (7, false), (8, true), (9, true)], []⟩)] ⟨cWithin6_ok, trivial⟩ (by kernel_rfl) th_ok mix_ok Go.Proofs.Try.func88 (by kernel_rfl) ?_
  intro x hw hp Λ hC
  have h0 := h x.1 x.2.1 hw hp (fun t9_1 => Λ [1, 0, 1, 0] ([(1, .d false (.sl .int) x.2.1), (7, .d false (.sl tR) x.1), (8, .d true .int (List.length x.1 : Int)), (9, .d true .int t9_1)], [])) (fun t9_1 hb => hC [1, 0, 1, 0] ([(1, .d false (.sl .int) x.2.1), (7, .d false (.sl tR) x.1), (8, .d true .int (List.length x.1 : Int)), (9, .d true .int t9_1)], []) (Eq.mpr (by kernel_rfl) hb))
  exact Eq.mpr (by kernel_rfl) h0
theorem cHas0_ok : ConOK Go.Proofs.Try.prog 88 cHas0 := by
  refine cHas0_law ?_
  intro b in_ hw hp Λ1 h1
  unfold cHas0_0
  refine upto (n := b.length) (Q := fun i => ((List.zipWith (fun (r : Rng) n => within n r.1 r.2.1) b in_).take i).all id = true → Λ1 i) ?_ ?_ 0 (Nat.zero_le _) rfl
  · intro ha
    rw [List.take_of_length_le (by simp only [List.length_zipWith]; omega)] at ha
    apply h1; unfold cHas0_1; rw [if_neg (by simp)]
    exact ⟨ha.symm, trivial⟩
  · intro i hi ih ha
    apply h1; unfold cHas0_1; rw [if_pos (by simpa using hi), Int.toNat_natCast]
    refine ⟨idx_nat hi, idx_nat (by omega), trivial, ?_⟩
    cases hv : within (List.getD in_ i 0) (List.getD b i tR.dflt).1 (List.getD b i tR.dflt).2.1
    · rw [if_pos (by rfl)]
      exact ⟨(zipAll_false (fun (r : Rng) n => within n r.1 r.2.1) tR.dflt 0 hi (by omega) hv).symm, trivial⟩
    · rw [if_neg (by simp)]
      exact ⟨inI_succ hi (by omega), ih (zipAll_next (fun (r : Rng) n => within n r.1 r.2.1) tR.dflt 0 hi (by omega) ha hv)⟩
abbrev cHas : Con := { A := (.cons (.sl tR) (.cons (.sl .int) .nil)), R := (.cons .bool (.cons .int .nil)), pre := fun x => True, F := fun x => (hasOK x.1 x.2.1 && hasB x.1 x.2.1, argErr (hasOK x.1 x.2.1), ()) }
def cHas_0  (b : (List Rng)) (in_ : (List Int)) (y0 : Bool) (y1 : Int) : Prop :=
  True ∧ (if ((argErr (validB b)) != (0 : Int)) = true then (false = y0 ∧ (argErr (validB b)) = y1 ∧ True) else (True ∧ (if ((argErr (validS in_)) != (0 : Int)) = true then (false = y0 ∧ (1 : Int) = y1 ∧ True) else ((b.length ≤ in_.length ∧ b.length ≤ 1000) ∧ ((hasB b in_) = y0 ∧ (0 : Int) = y1 ∧ True)))))
theorem cHas_law (h : ∀ (b : (List Rng)) (in_ : (List Int)), cHas.A.wf (b, in_, ()) → cHas_0  b in_ (hasOK b in_ && hasB b in_) (argErr (hasOK b in_))) : ConOK Go.Proofs.Try.prog 27 cHas := by
  refine lawL (Γ := [(88, cHas0), (87, cValB), (83, cValS)]) (Θ := Th) (n := 18) [] ⟨cHas0_ok, cValB_ok, cValS_ok, trivial⟩ (by kernel_rfl) th_ok mix_ok Go.Proofs.Try.func27 (by kernel_rfl) ?_
  intro x hw hp Λ hC
  have h0 := h x.1 x.2.1 hw  
  exact Eq.mpr (by kernel_rfl) h0
theorem cHas_ok : ConOK Go.Proofs.Try.prog 27 cHas := by
  refine cHas_law ?_
  intro b in_ hw
  unfold cHas_0
  refine ⟨trivial, ?_⟩
  unfold hasOK
  cases hv : validB b
  · exact ⟨rfl, rfl, trivial⟩
  rw [if_neg (by simp [argErr])]
  refine ⟨trivial, ?_⟩
  cases hs : validS in_
  · exact ⟨rfl, rfl, trivial⟩
  rw [if_neg (by simp [argErr])]
  have := validB_len hv
  have := validS_len hs
  exact ⟨by omega, rfl, rfl, trivial⟩
abbrev cEqualR : Con := { A := (.cons (.sl tR) (.cons (.sl tR) .nil)), R := (.cons .bool .nil), pre := fun x => x.1.length ≤ 1000000, F := fun x => (decide (x.1 = x.2.1), ()) }
def cEqualR_0 (Λ1 : Int → Prop) (s1 : (List Rng)) (s2 : (List Rng)) (y0 : Bool) : Prop :=
  if ((List.length s1 : Int) != (List.length s2 : Int)) = true then (false = y0 ∧ True) else Λ1 (0 : Int)
def cEqualR_1 (Λ1 : Int → Prop) (s1 : (List Rng)) (s2 : (List Rng)) (y0 : Bool)  (t13_1 : Int) : Prop :=
  if (decide (t13_1 < (List.length s1 : Int))) = true then (idx t13_1 (List.length s1 : Int) ∧ (idx t13_1 (List.length s2 : Int) ∧ (if (!(T.eqB tR (List.getD s1 (Int.toNat t13_1) tR.dflt) (List.getD s2 (Int.toNat t13_1) tR.dflt))) = true then (false = y0 ∧ True) else (inI (t13_1 + (1 : Int)) ∧ Λ1 (t13_1 + (1 : Int)))))) else (true = y0 ∧ True)
theorem cEqualR_law (h : ∀ (s1 : (List Rng)) (s2 : (List Rng)), cEqualR.A.wf (s1, s2, ()) → (s1.length ≤ 1000000) → ∀ (Λ1 : Int → Prop), (∀ (t13_1 : Int), cEqualR_1 Λ1 s1 s2 (decide (s1 = s2)) t13_1 → Λ1 t13_1) → cEqualR_0 Λ1 s1 s2 (decide (s1 = s2))) : ConOK Go.Proofs.Try.prog 90 cEqualR := by
  refine lawL (Γ := []) (Θ := Th) (n := 26) [([1, 1, 0, 1, 0], ⟨[(0, false), (1, false), (12, true), (13, true)], []⟩)] trivial (by kernel_rfl) th_ok mix_ok Go.Proofs.Try.func90 (by kernel_rfl) ?_
  intro x hw hp Λ hC
  have h0 := h x.1 x.2.1 hw hp (fun t13_1 => Λ [1, 1, 0, 1, 0] ([(0, .d false (.sl tR) x.1), (1, .d false (.sl tR) x.2.1), (12, .d true .int (List.length x.1 : Int)), (13, .d true .int t13_1)], [])) (fun t13_1 hb => hC [1, 1, 0, 1, 0] ([(0, .d false (.sl tR) x.1), (1, .d false (.sl tR) x.2.1), (12, .d true .int (List.length x.1 : Int)), (13, .d true .int t13_1)], []) (Eq.mpr (by kernel_rfl) hb))
  exact Eq.mpr (by kernel_rfl) h0
theorem cEqualR_ok : ConOK Go.Proofs.Try.prog 90 cEqualR := by
  refine cEqualR_law ?_
  intro s1 s2 hw hp Λ1 h1
  unfold cEqualR_0
  by_cases hl : s1.length = s2.length
  · rw [if_neg (by simp [hl])]
    refine upto (n := s1.length) (Q := fun i => s1.take i = s2.take i → Λ1 i) ?_ ?_ 0 (Nat.zero_le _) rfl
    · intro ha
      rw [List.take_length, List.take_of_length_le (by omega)] at ha
      apply h1; unfold cEqualR_1; rw [if_neg (by simp)]
      exact ⟨by simp [ha], trivial⟩
    · intro i hi ih ha
      apply h1; unfold cEqualR_1; rw [if_pos (by simpa using hi), Int.toNat_natCast]
      refine ⟨idx_nat hi, idx_nat (by omega), ?_⟩
      by_cases hv : List.getD s1 i tR.dflt = List.getD s2 i tR.dflt
      · rw [if_neg (by rw [(eqB_iff rfl).2 hv]; simp)]
        exact ⟨inI_succ hi (by omega), ih (take_eq_next tR.dflt hi hl ha hv)⟩
      · rw [if_pos (by rw [(eqB_neg rfl).2 hv]; rfl)]
        exact ⟨by simp [ne_at tR.dflt hv], trivial⟩
  · rw [if_pos (by simp; omega)]
    exact ⟨by simp; exact fun e => hl (by rw [e]), trivial⟩
theorem twoErr {a b : List Rng} : (if validB a = true then argErr (validB b) else 1) = argErr (twoOK a b) := by
  unfold twoOK
  cases validB a <;> cases validB b <;> rfl

abbrev cWithinB : Con := { A := (.cons (.sl tR) (.cons (.sl tR) .nil)), R := (.cons .bool (.cons .int .nil)), pre := fun x => True, F := fun x => (twoOK x.1 x.2.1 && decide (join hull2 x.1 x.2.1 = x.2.1), argErr (twoOK x.1 x.2.1), ()) }
def cWithinB_0  (a : (List Rng)) (b : (List Rng)) (y0 : Bool) (y1 : Int) : Prop :=
  True ∧ (if (((if validB a = true then argErr (validB b) else 1)) != (0 : Int)) = true then (false = y0 ∧ ((if validB a = true then argErr (validB b) else 1)) = y1 ∧ True) else ((a.length ≤ b.length ∧ a.length ≤ 1000 ∧ ∀ r s, tR.wf r → tR.wf s → (fun (xx : (Rng × Rng × Unit)) => True, fun (xx : (Rng × Rng × Unit)) => (hull2 xx.1 xx.2.1, ())).1 (r, s, ())) ∧ ((join (fun r s => ((fun (xx : (Rng × Rng × Unit)) => True, fun (xx : (Rng × Rng × Unit)) => (hull2 xx.1 xx.2.1, ())).2 (r, s, ())).1) a b).length ≤ 1000000 ∧ ((decide ((join (fun r s => ((fun (xx : (Rng × Rng × Unit)) => True, fun (xx : (Rng × Rng × Unit)) => (hull2 xx.1 xx.2.1, ())).2 (r, s, ())).1) a b) = b)) = y0 ∧ (0 : Int) = y1 ∧ True))))
theorem cWithinB_law (h : ∀ (a : (List Rng)) (b : (List Rng)), cWithinB.A.wf (a, b, ()) → cWithinB_0  a b (twoOK a b && decide (join hull2 a b = b)) (argErr (twoOK a b))) : ConOK Go.Proofs.Try.prog 28 cWithinB := by
  refine lawL (Γ := [(90, cEqualR), (92, cHull2), (91, cJoin), (89, cTwo6)]) (Θ := Th) (n := 18) [] ⟨cEqualR_ok, cHull2_ok, cJoin_ok, cTwo6_ok, trivial⟩ (by kernel_rfl) th_ok mix_ok Go.Proofs.Try.func28 (by kernel_rfl) ?_
  intro x hw hp Λ hC
  have h0 := h x.1 x.2.1 hw  
  exact Eq.mpr (by kernel_rfl) h0
theorem cWithinB_ok : ConOK Go.Proofs.Try.prog 28 cWithinB := by
  refine cWithinB_law ?_
  intro a b hw
  unfold cWithinB_0
  refine ⟨trivial, ?_⟩
  rw [twoErr]
  cases h : twoOK a b
  · exact ⟨rfl, rfl, trivial⟩
  · rw [if_neg (by simp [argErr])]
    unfold twoOK at h
    rw [Bool.and_eq_true] at h
    have := validB_len h.1
    have := validB_len h.2
    exact ⟨⟨by omega, by omega, fun _ _ _ _ => trivial⟩, by unfold join; rw [List.length_zipWith]; omega, rfl, rfl, trivial⟩
abbrev cHull : Con := { A := (.cons (.sl tR) (.cons (.sl tR) .nil)), R := (.cons (.osl tR) (.cons .int .nil)), pre := fun x => True, F := fun x => ((if twoOK x.1 x.2.1 then join hull2 x.1 x.2.1 else []), argErr (twoOK x.1 x.2.1), ()) }
def cHull_0  (a : (List Rng)) (b : (List Rng)) (y0 : (List Rng)) (y1 : Int) : Prop :=
  True ∧ (if (((if validB a = true then argErr (validB b) else 1)) != (0 : Int)) = true then (((if validB a = true then argErr (validB b) else 1)) = y1 ∧ ([] : List Rng) = y0) else ((a.length ≤ b.length ∧ a.length ≤ 1000 ∧ ∀ r s, tR.wf r → tR.wf s → (fun (xx : (Rng × Rng × Unit)) => True, fun (xx : (Rng × Rng × Unit)) => (hull2 xx.1 xx.2.1, ())).1 (r, s, ())) ∧ ((0 : Int) = y1 ∧ (join (fun r s => ((fun (xx : (Rng × Rng × Unit)) => True, fun (xx : (Rng × Rng × Unit)) => (hull2 xx.1 xx.2.1, ())).2 (r, s, ())).1) a b) = y0)))
theorem cHull_law (h : ∀ (a : (List Rng)) (b : (List Rng)), cHull.A.wf (a, b, ()) → cHull_0  a b (if twoOK a b then join hull2 a b else []) (argErr (twoOK a b))) : ConOK Go.Proofs.Try.prog 32 cHull := by
  refine lawL (Γ := [(92, cHull2), (91, cJoin), (89, cTwo6)]) (Θ := Th) (n := 16) [] ⟨cHull2_ok, cJoin_ok, cTwo6_ok, trivial⟩ (by kernel_rfl) th_ok mix_ok Go.Proofs.Try.func32 (by kernel_rfl) ?_
  intro x hw hp Λ hC
  have h0 := h x.1 x.2.1 hw  
  exact Eq.mpr (by kernel_rfl) h0
theorem cHull_ok : ConOK Go.Proofs.Try.prog 32 cHull := by
  refine cHull_law ?_
  intro a b hw
  unfold cHull_0
  refine ⟨trivial, ?_⟩
  rw [twoErr]
  cases h : twoOK a b
  · exact ⟨rfl, rfl⟩
  · rw [if_neg (by simp [argErr])]
    unfold twoOK at h
    rw [Bool.and_eq_true] at h
    have := validB_len h.1
    have := validB_len h.2
    exact ⟨⟨by omega, by omega, fun _ _ _ _ => trivial⟩, rfl, rfl⟩
abbrev cOf0 : Con := { A := (.cons (.sl .int) (.cons (.sl .int) .nil)), R := (.cons (.osl tR) .nil), pre := fun x => x.1.length ≤ x.2.1.length ∧ x.1.length ≤ 1000, F := fun x => (boxOf x.1 x.2.1, ()) }
def cOf0_0 (Λ1 : Int → (List Rng) → Prop) (low : (List Int)) (high : (List Int)) (y0 : (List Rng)) : Prop :=
  Λ1 (0 : Int) ([] : List Rng)
def cOf0_1 (Λ1 : Int → (List Rng) → Prop) (low : (List Int)) (high : (List Int)) (y0 : (List Rng))  (t10_1 : Int) (out_1 : (List Rng)) : Prop :=
  if (decide (t10_1 < (List.length low : Int))) = true then (idx t10_1 (List.length low : Int) ∧ (idx t10_1 (List.length high : Int) ∧ (List.length out_1 + List.length [((List.getD low (Int.toNat t10_1) 0), (List.getD high (Int.toNat t10_1) 0), ())] ≤ 4294967296 ∧ (inI (t10_1 + (1 : Int)) ∧ Λ1 (t10_1 + (1 : Int)) (out_1 ++ [((List.getD low (Int.toNat t10_1) 0), (List.getD high (Int.toNat t10_1) 0), ())]))))) else out_1 = y0
theorem cOf0_law (h : ∀ (low : (List Int)) (high : (List Int)), cOf0.A.wf (low, high, ()) → (low.length ≤ high.length ∧ low.length ≤ 1000) → ∀ (Λ1 : Int → (List Rng) → Prop), (∀ (t10_1 : Int) (out_1 : (List Rng)), cOf0_1 Λ1 low high (boxOf low high) t10_1 out_1 → Λ1 t10_1 out_1) → cOf0_0 Λ1 low high (boxOf low high)) : ConOK Go.Proofs.Try.prog 81 cOf0 := by
  refine lawL (Γ := []) (Θ := Th) (n := 26) [([1, 1, 0, 1, 0], ⟨[(1, false), (5, true), (8, false), (9, true), (10, true)], [(5, true)]⟩)] trivial (by kernel_rfl) th_ok mix_ok Go.Proofs.Try.func81 (by kernel_rfl) ?_
  intro x hw hp Λ hC
  have h0 := h x.1 x.2.1 hw hp (fun t10_1 out_1 => Λ [1, 1, 0, 1, 0] ([(1, .d false (.sl .int) x.2.1), (5, .own 5 0), (8, .d false (.sl .int) x.1), (9, .d true .int (List.length x.1 : Int)), (10, .d true .int t10_1)], [(5, .sl true tR out_1)])) (fun t10_1 out_1 hb => hC [1, 1, 0, 1, 0] ([(1, .d false (.sl .int) x.2.1), (5, .own 5 0), (8, .d false (.sl .int) x.1), (9, .d true .int (List.length x.1 : Int)), (10, .d true .int t10_1)], [(5, .sl true tR out_1)]) (Eq.mpr (by kernel_rfl) hb))
  exact Eq.mpr (by kernel_rfl) h0
theorem cOf0_ok : ConOK Go.Proofs.Try.prog 81 cOf0 := by
  refine cOf0_law ?_
  intro low high hw hp Λ1 h1
  unfold cOf0_0
  refine upto (n := low.length) (Q := fun i => Λ1 i ((boxOf low high).take i)) ?_ ?_ 0 (Nat.zero_le _)
  · apply h1; unfold cOf0_1; rw [if_neg (by simp)]
    rw [List.take_of_length_le (by unfold boxOf; simp only [List.length_zipWith]; omega)]
  · intro i hi ih
    apply h1; unfold cOf0_1; rw [if_pos (by simpa using hi), Int.toNat_natCast]
    refine ⟨idx_nat hi, idx_nat (by omega), ?_, inI_succ hi (by omega), ?_⟩
    · simp only [boxOf, List.length_take, List.length_zipWith, List.length_cons, List.length_nil]; omega
    · unfold boxOf at ih
      rw [zip_snoc2 _ 0 0 hi (by omega)] at ih
      exact ih
abbrev cPoint : Con := { A := (.cons (.sl .int) .nil), R := (.cons (.sl tR) (.cons .int .nil)), pre := fun x => True, F := fun x => ((if validS x.1 then boxOf x.1 x.1 else []), argErr (validS x.1), ()) }
def cPoint_0  (in_ : (List Int)) (y0 : (List Rng)) (y1 : Int) : Prop :=
  True ∧ (if ((argErr (validS in_)) != (0 : Int)) = true then (([] : List Rng) = y0 ∧ (1 : Int) = y1 ∧ True) else ((in_.length ≤ in_.length ∧ in_.length ≤ 1000) ∧ ((boxOf in_ in_) = y0 ∧ (0 : Int) = y1 ∧ True)))
theorem cPoint_law (h : ∀ (in_ : (List Int)), cPoint.A.wf (in_, ()) → cPoint_0  in_ (if validS in_ then boxOf in_ in_ else []) (argErr (validS in_))) : ConOK Go.Proofs.Try.prog 25 cPoint := by
  refine lawL (Γ := [(81, cOf0), (83, cValS)]) (Θ := Th) (n := 10) [] ⟨cOf0_ok, cValS_ok, trivial⟩ (by kernel_rfl) th_ok mix_ok Go.Proofs.Try.func25 (by kernel_rfl) ?_
  intro x hw hp Λ hC
  have h0 := h x.1 hw  
  exact Eq.mpr (by kernel_rfl) h0
theorem cPoint_ok : ConOK Go.Proofs.Try.prog 25 cPoint := by
  refine cPoint_law ?_
  intro in_ hw
  unfold cPoint_0
  refine ⟨trivial, ?_⟩
  cases h : validS in_
  · exact ⟨rfl, rfl, trivial⟩
  · have := validS_len h
    exact ⟨⟨by omega, by omega⟩, rfl, rfl, trivial⟩
theorem sizeB_take (b : List Rng) {i : Nat} (hi : i < b.length) : ((b.map fun r => r.2.1 - r.1).take (i + 1)).sum = ((b.map fun r => r.2.1 - r.1).take i).sum + ((List.getD b i tR.dflt).2.1 - (List.getD b i tR.dflt).1) := by
  rw [sum_next _ (by simpa using hi)]
  simp [List.getD_eq_getElem?_getD, hi]

theorem sizeB_bd {b : List Rng} (h : validB b = true) : ∀ i, i ≤ b.length → 0 ≤ ((b.map fun r => r.2.1 - r.1).take i).sum ∧ ((b.map fun r => r.2.1 - r.1).take i).sum ≤ 1998 * i
  | 0, _ => by simp
  | i + 1, hi => by
    have ih := sizeB_bd h i (by omega)
    have hl := validB_len h
    have g := validB_get h (i := (i : Int)) (by omega) (by omega)
    unfold Rd at g
    rw [Int.toNat_natCast] at g
    rw [sizeB_take b (by omega)]
    omega

abbrev cSize : Con := { A := (.cons (.sl tR) .nil), R := (.cons .int (.cons .int .nil)), pre := fun x => True, F := fun x => ((if validB x.1 then sizeB x.1 else 0), argErr (validB x.1), ()) }
def cSize_0 (Λ1 : Int → Int → Prop) (b : (List Rng)) (y0 : Int) (y1 : Int) : Prop :=
  True ∧ (if ((argErr (validB b)) != (0 : Int)) = true then ((0 : Int) = y0 ∧ (argErr (validB b)) = y1 ∧ True) else Λ1 (0 : Int) (0 : Int))
def cSize_1 (Λ1 : Int → Int → Prop) (b : (List Rng)) (y0 : Int) (y1 : Int)  (sum_1 : Int) (t15_1 : Int) : Prop :=
  if (decide (t15_1 < (List.length b : Int))) = true then (idx t15_1 (List.length b : Int) ∧ (inI ((List.getD b (Int.toNat t15_1) tR.dflt).2.1 - (List.getD b (Int.toNat t15_1) tR.dflt).1) ∧ (inI (sum_1 + ((List.getD b (Int.toNat t15_1) tR.dflt).2.1 - (List.getD b (Int.toNat t15_1) tR.dflt).1)) ∧ (inI (t15_1 + (1 : Int)) ∧ Λ1 (sum_1 + ((List.getD b (Int.toNat t15_1) tR.dflt).2.1 - (List.getD b (Int.toNat t15_1) tR.dflt).1)) (t15_1 + (1 : Int)))))) else (sum_1 = y0 ∧ (0 : Int) = y1 ∧ True)
theorem cSize_law (h : ∀ (b : (List Rng)), cSize.A.wf (b, ()) → ∀ (Λ1 : Int → Int → Prop), (∀ (sum_1 : Int) (t15_1 : Int), cSize_1 Λ1 b (if validB b then sizeB b else 0) (argErr (validB b)) sum_1 t15_1 → Λ1 sum_1 t15_1) → cSize_0 Λ1 b (if validB b then sizeB b else 0) (argErr (validB b))) : ConOK Go.Proofs.Try.prog 29 cSize := by
  refine lawL (Γ := [(87, cValB)]) (Θ := Th) (n := 28) [([1, 1, 1, 0, 1, 0], ⟨[(5, true), (13, false), (14, true), (15, true)], []⟩)] ⟨cValB_ok, trivial⟩ (by kernel_rfl) th_ok mix_ok Go.Proofs.Try.func29 (by kernel_rfl) ?_
  intro x hw hp Λ hC
  have h0 := h x.1 hw (fun sum_1 t15_1 => Λ [1, 1, 1, 0, 1, 0] ([(5, .d true .int sum_1), (13, .d false (.sl tR) x.1), (14, .d true .int (List.length x.1 : Int)), (15, .d true .int t15_1)], [])) (fun sum_1 t15_1 hb => hC [1, 1, 1, 0, 1, 0] ([(5, .d true .int sum_1), (13, .d false (.sl tR) x.1), (14, .d true .int (List.length x.1 : Int)), (15, .d true .int t15_1)], []) (Eq.mpr (by kernel_rfl) hb))
  exact Eq.mpr (by kernel_rfl) h0
theorem cSize_ok : ConOK Go.Proofs.Try.prog 29 cSize := by
  refine cSize_law ?_
  intro b hw Λ1 h1
  unfold cSize_0
  refine ⟨trivial, ?_⟩
  cases h : validB b
  · exact ⟨rfl, rfl, trivial⟩
  rw [if_neg (by simp [argErr])]
  have hl := validB_len h
  refine upto (n := b.length) (Q := fun i => Λ1 ((b.map fun r => r.2.1 - r.1).take i).sum i) ?_ ?_ 0 (Nat.zero_le _)
  · apply h1; unfold cSize_1; rw [if_neg (by simp), h]
    refine ⟨?_, rfl, trivial⟩
    rw [List.take_of_length_le (by simp)]; rfl
  · intro i hi ih
    rw [sizeB_take b hi] at ih
    have g := validB_get h (i := (i : Int)) (by omega) (by omega)
    unfold Rd at g
    rw [Int.toNat_natCast] at g
    have := sizeB_bd h i (by omega)
    apply h1; unfold cSize_1; rw [if_pos (by simpa using hi), Int.toNat_natCast]
    exact ⟨idx_nat hi, by unfold inI; omega, by unfold inI; omega, inI_succ hi (by omega), ih⟩
end Go.Tk
