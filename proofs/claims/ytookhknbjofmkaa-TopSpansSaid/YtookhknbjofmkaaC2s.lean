import Derived.Test.YtookhknbjofmkaaC2t
import Derived.Test.YtookhknbjofmkaaP2s
set_option linter.unusedSimpArgs false
set_option linter.unusedVariables false
namespace Go.Tk
open Go Go.RowKit

abbrev cCloneS : Con := { A := (.cons (.sl .int) .nil), R := (.cons (.osl .int) .nil), pre := fun x => x.1.length ≤ 1000000, F := fun x => (x.1, ()) }
def cCloneS_0  (s : (List Int)) (y0 : (List Int)) : Prop :=
  (s = [] → ([] : List Int) = y0) ∧ (True → (List.length ([] : List Int) + List.length s ≤ 4294967296 ∧ (([] : List Int) ++ s) = y0))
theorem cCloneS_law (h : ∀ (s : (List Int)), cCloneS.A.wf (s, ()) → (s.length ≤ 1000000) → cCloneS_0  s s) : ConOK Go.Proofs.Try.prog 71 cCloneS := by
  refine lawL (Γ := []) (Θ := Th) (n := 8) [] trivial (by kernel_rfl) th_ok mix_ok Go.Proofs.Try.func71 (by kernel_rfl) ?_
  intro x hw hp Λ hC
  have h0 := h x.1 hw hp  
  exact Eq.mpr (by kernel_rfl) h0
theorem cCloneS_ok : ConOK Go.Proofs.Try.prog 71 cCloneS := by
  refine cCloneS_law ?_
  intro s hw hp
  unfold cCloneS_0
  exact ⟨fun h => h.symm, fun _ => ⟨by simp only [List.length_nil]; omega, by simp⟩⟩
abbrev cStates1 : Con := { A := (.cons (.ref tCt) .nil), R := .seq true (.cons (.sl .int) .nil), pre := fun _ => True, F := fun x => ((boxC x.1, seqC x.1) : Prop × List ((List Int) × Unit)) }
def cStates1_0 (Λ1 : (List Int) → Nat → Prop) (Λ2 : Nat → Int → (List Int) → Prop) (c0 : Ctr) (y0 : List ((List Int) × Unit)) : Prop :=
  c0.1.length ≤ 1000000 ∧ Λ1 c0.1 0
def cStates1_1 (Λ1 : (List Int) → Nat → Prop) (Λ2 : Nat → Int → (List Int) → Prop) (c0 : Ctr) (y0 : List ((List Int) × Unit))  (in_1 : (List Int)) (k_1 : Nat) : Prop :=
  in_1.length ≤ 1000000 ∧ (y0[k_1]? = some (in_1, ()) ∧ (inI ((List.length in_1 : Int) - (1 : Int)) ∧ Λ2 k_1 ((List.length in_1 : Int) - (1 : Int)) in_1) ∧ True)
def cStates1_2 (Λ1 : (List Int) → Nat → Prop) (Λ2 : Nat → Int → (List Int) → Prop) (c0 : Ctr) (y0 : List ((List Int) × Unit)) (k_1 : Nat) (r_2 : Int) (in_2 : (List Int)) : Prop :=
  if (decide (r_2 ≥ (0 : Int))) = true then (idx r_2 (List.length in_2 : Int) ∧ (idx r_2 (List.length c0.2.1 : Int) ∧ (True ∧ (if (bif true then ((List.getD in_2 (Int.toNat r_2) 0) == (List.getD c0.2.1 (Int.toNat r_2) 0)) else false) = true then (idx r_2 (List.length c0.1 : Int) ∧ (idx r_2 (List.length in_2 : Int) ∧ (inI (r_2 - (1 : Int)) ∧ Λ2 k_1 (r_2 - (1 : Int)) (List.set in_2 (Int.toNat r_2) (List.getD c0.1 (Int.toNat r_2) 0))))) else (if (decide (r_2 < (0 : Int))) = true then (k_1 + 1) = List.length y0 else (idx r_2 (List.length in_2 : Int) ∧ (inI ((List.getD in_2 (Int.toNat r_2) 0) + (1 : Int)) ∧ (idx r_2 (List.length in_2 : Int) ∧ Λ1 (List.set in_2 (Int.toNat r_2) ((List.getD in_2 (Int.toNat r_2) 0) + (1 : Int))) (k_1 + 1))))))))) else (false = false ∧ (if (decide (r_2 < (0 : Int))) = true then (k_1 + 1) = List.length y0 else (idx r_2 (List.length in_2 : Int) ∧ (inI ((List.getD in_2 (Int.toNat r_2) 0) + (1 : Int)) ∧ (idx r_2 (List.length in_2 : Int) ∧ Λ1 (List.set in_2 (Int.toNat r_2) ((List.getD in_2 (Int.toNat r_2) 0) + (1 : Int))) (k_1 + 1))))))
theorem cStates1_law (h : ∀ (c0 : Ctr), cStates1.A.wf (c0, ()) → ((boxC c0, seqC c0)).1 → ∀ (Λ1 : (List Int) → Nat → Prop) (Λ2 : Nat → Int → (List Int) → Prop), (∀ (in_1 : (List Int)) (k_1 : Nat), cStates1_1 Λ1 Λ2 c0 ((boxC c0, seqC c0)).2 in_1 k_1 → Λ1 in_1 k_1) → (∀ (k_1 : Nat) (r_2 : Int) (in_2 : (List Int)), cStates1_2 Λ1 Λ2 c0 ((boxC c0, seqC c0)).2 k_1 r_2 in_2 → Λ2 k_1 r_2 in_2) → cStates1_0 Λ1 Λ2 c0 ((boxC c0, seqC c0)).2) : ConOK Go.Proofs.Try.prog 130 cStates1 := by
  refine lawIt (X := { subs := [], frz := [], U := [], mul := [], nst := [], nls := [], itf := some true }) (hX := xok0 _) (Γ := [(71, cCloneS)]) (Θ := Th) (n := 48) [([1, 0], ⟨[(0, true), (1, false), (3, true)], [(7, true), (5000000, true)]⟩), ([1, 0, 0, 0, 1, 1, 0, 0], ⟨[(0, true), (1, false), (3, true), (4, true)], [(7, true), (5000000, true)]⟩)] ⟨cCloneS_ok, trivial⟩ (by kernel_rfl) th_ok mix_ok Go.Proofs.Try.func130 (by kernel_rfl) ?_
  intro x hw hp Λ hC
  have h0 := h x.1 hw hp (fun in_1 k_1 => Λ [1, 0] ([(0, .yld), (1, .d false (.ref tCt) x.1), (3, .own 7 0)], [(7, .sl true .int in_1), (5000000, .it (.cons (.sl .int) .nil) (cStates1.F x).2 k_1)])) (fun k_1 r_2 in_2 => Λ [1, 0, 0, 0, 1, 1, 0, 0] ([(0, .yld), (1, .d false (.ref tCt) x.1), (3, .own 7 0), (4, .d true .int r_2)], [(7, .sl true .int in_2), (5000000, .it (.cons (.sl .int) .nil) (cStates1.F x).2 (k_1 + 1))])) (fun in_1 k_1 hb => hC [1, 0] ([(0, .yld), (1, .d false (.ref tCt) x.1), (3, .own 7 0)], [(7, .sl true .int in_1), (5000000, .it (.cons (.sl .int) .nil) (cStates1.F x).2 k_1)]) (Eq.mpr (by kernel_rfl) hb)) (fun k_1 r_2 in_2 hb => hC [1, 0, 0, 0, 1, 1, 0, 0] ([(0, .yld), (1, .d false (.ref tCt) x.1), (3, .own 7 0), (4, .d true .int r_2)], [(7, .sl true .int in_2), (5000000, .it (.cons (.sl .int) .nil) (cStates1.F x).2 (k_1 + 1))]) (Eq.mpr (by kernel_rfl) hb))
  exact Eq.mpr (by kernel_rfl) h0
theorem cStates1_ok : ConOK Go.Proofs.Try.prog 130 cStates1 := by
  refine cStates1_law ?_
  intro c0 hw hp Λ1 Λ2 h1 h2
  unfold cStates1_0
  have l1 := validS_len hp.1
  have l2 := validS_len hp.2.1
  have inner : ∀ (k : Nat) (r : Nat), r ≤ 4 → ∀ s : List Int, s.length = 4 → (∀ i, i < 4 → -999 ≤ s.getD i 0 ∧ s.getD i 0 ≤ 999) → (∀ s', odo c0.1 c0.2.1 r s = some s' → Λ1 s' (k + 1)) → (odo c0.1 c0.2.1 r s = none → k + 1 = (seqC c0).length) → Λ2 k ((r : Int) - 1) s := by
    intro k r
    induction r with
    | zero =>
      intro _ s hs _ _ g
      apply h2; unfold cStates1_2
      rw [if_neg (by simp), if_pos (by simp)]
      exact ⟨rfl, g rfl⟩
    | succ r ih =>
      intro hr s hs hb g1 g2
      rw [show ((r + 1 : Nat) : Int) - 1 = (r : Int) by omega]
      have w := boxC_wid hp (i := r) (by omega)
      have b := hb r (by omega)
      unfold odo at g1 g2
      apply h2; unfold cStates1_2
      rw [if_pos (by simp), Int.toNat_natCast]
      refine ⟨idx_nat (by omega), idx_nat (by omega), trivial, ?_⟩
      by_cases e : s.getD r 0 = c0.2.1.getD r 0
      · rw [if_pos e] at g1 g2
        rw [if_pos (by simpa using e)]
        refine ⟨idx_nat (by omega), idx_nat (by omega), by unfold inI; omega, ih (by omega) _ (by simpa using hs) ?_ g1 g2⟩
        intro i hi
        rw [List.getD_eq_getElem?_getD, List.getElem?_set]
        by_cases e2 : r = i
        · subst e2
          rw [if_pos rfl, if_pos (by omega)]
          exact ⟨w.2.1, w.2.2.1⟩
        · rw [if_neg e2, ← List.getD_eq_getElem?_getD]
          exact hb i hi
      · rw [if_neg e] at g1 g2
        rw [if_neg (by simpa using e), if_neg (by simp)]
        exact ⟨idx_nat (by omega), by unfold inI; omega, idx_nat (by omega), g1 _ rfl⟩
  have outer : ∀ (n k : Nat), n + k = (statesC c0).length → ∀ s, (statesC c0)[k]? = some s → Λ1 s k := by
    intro n
    induction n with
    | zero =>
      intro k hk s hs
      rw [List.getElem?_eq_none (by omega)] at hs
      cases hs
    | succ n ih =>
      intro k hk s hs
      have hm := (stateC_iff hp).1 (List.mem_of_getElem? hs)
      have hn := stateC_next hp hs
      apply h1; unfold cStates1_1
      refine ⟨by omega, seqC_get.2 hs, ⟨by unfold inI; omega, ?_⟩, trivial⟩
      rw [show ((List.length s : Nat) : Int) - 1 = ((4 : Nat) : Int) - 1 by omega]
      refine inner k 4 (Nat.le_refl _) s hm.1 ?_ ?_ ?_
      · intro i hi
        have w := boxC_wid hp (i := i) hi
        have := hm.2 i hi
        omega
      · intro s' e
        exact ih (k + 1) (by omega) s' (by rw [hn, e])
      · intro e
        rw [e] at hn
        have h3 := List.getElem?_eq_none_iff.1 hn
        have h4 : k < (statesC c0).length := by
          by_cases g : k < (statesC c0).length
          · exact g
          · rw [List.getElem?_eq_none (by omega)] at hs; cases hs
        rw [seqC_len]; omega
  exact ⟨by omega, outer _ 0 (Nat.add_zero _) _ (stateC_head hp)⟩
abbrev cStates : Con := { A := (.cons tCt .nil), R := (.cons (.seq true (.cons (.sl .int) .nil)) .nil), pre := fun x => True, F := fun x => ((boxC x.1, seqC x.1), ()), al := true }
def cStates_0  (c : Ctr) (y0 : (Prop × List ((List Int) × Unit))) : Prop :=
  ((boxC c, seqC c)) = y0 ∧ True
theorem cStates_law (h : ∀ (c : Ctr), cStates.A.wf (c, ()) → cStates_0  c (boxC c, seqC c)) : ConOK Go.Proofs.Try.prog 64 cStates := by
  refine lawX (X := { subs := [], frz := [1], U := [], mul := [], nst := [], nls := [], itf := none }) (hX := xok0 _) (Γ := [(130, cStates1)]) (Θ := Th) (n := 4) [] ⟨cStates1_ok, trivial⟩ (by kernel_rfl) th_ok mix_ok Go.Proofs.Try.func64 (by kernel_rfl) ?_
  intro x hw hp Λ hC
  have h0 := h x.1 hw  
  exact Eq.mpr (by kernel_rfl) h0
theorem cStates_ok : ConOK Go.Proofs.Try.prog 64 cStates := by
  refine cStates_law ?_
  intro c hw
  unfold cStates_0
  exact ⟨rfl, trivial⟩
abbrev cIsBad : Con := { A := (.cons (.sl tL) (.cons tCt (.cons (.sl .int) .nil))), R := (.cons .bool .nil), pre := fun x => validP x.1 = 0 ∧ validS x.2.2.1 = true ∧ 0 ≤ x.2.1.2.2.1 ∧ x.2.1.2.2.1 ≤ 3, F := fun x => (!(within (Rg (runS x.1 x.2.2.1) x.2.1.2.2.1) x.2.1.2.2.2.1 x.2.1.2.2.2.2.1), ()) }
def cIsBad_0  (p : (List Lin)) (c : Ctr) (in_ : (List Int)) (y0 : Bool) : Prop :=
  (validP p = 0 ∧ validS in_ = true ∧ 0 ≤ c.2.2.1 ∧ c.2.2.1 ≤ 3) ∧ (True ∧ ((!(within (Rg (runS p in_) c.2.2.1) c.2.2.2.1 c.2.2.2.2.1)) = y0 ∧ True))
theorem cIsBad_law (h : ∀ (p : (List Lin)) (c : Ctr) (in_ : (List Int)), cIsBad.A.wf (p, c, in_, ()) → (validP p = 0 ∧ validS in_ = true ∧ 0 ≤ c.2.2.1 ∧ c.2.2.1 ≤ 3) → cIsBad_0  p c in_ (!(within (Rg (runS p in_) c.2.2.1) c.2.2.2.1 c.2.2.2.2.1))) : ConOK Go.Proofs.Try.prog 62 cIsBad := by
  refine lawL (Γ := [(65, cEnd), (129, cWithin2)]) (Θ := Th) (n := 18) [] ⟨cEnd_ok, cWithin2_ok, trivial⟩ (by kernel_rfl) th_ok mix_ok Go.Proofs.Try.func62 (by kernel_rfl) ?_
  intro x hw hp Λ hC
  have h0 := h x.1 x.2.1 x.2.2.1 hw hp  
  exact Eq.mpr (by kernel_rfl) h0
theorem cIsBad_ok : ConOK Go.Proofs.Try.prog 62 cIsBad := by
  refine cIsBad_law ?_
  intro p c in_ hw hp
  unfold cIsBad_0
  exact ⟨hp, trivial, rfl, trivial⟩
abbrev cContracted : Con := { A := (.cons tCt (.cons (.sl (.sl tL)) .nil)), R := (.cons .int .nil), pre := fun x => True, F := fun x => ((if firstErr x.2.1 = 0 then validC x.1 else firstErr x.2.1), ()) }
def cContracted_0 (Λ1 : Int → Prop) (c : Ctr) (programs : (List (List Lin))) (y0 : Int) : Prop :=
  Λ1 (0 : Int)
def cContracted_1 (Λ1 : Int → Prop) (c : Ctr) (programs : (List (List Lin))) (y0 : Int)  (t10_1 : Int) : Prop :=
  if (decide (t10_1 < (List.length programs : Int))) = true then (idx t10_1 (List.length programs : Int) ∧ (True ∧ (if ((validP (List.getD programs (Int.toNat t10_1) ([] : List Lin))) != (0 : Int)) = true then ((validP (List.getD programs (Int.toNat t10_1) ([] : List Lin))) = y0 ∧ True) else (inI (t10_1 + (1 : Int)) ∧ Λ1 (t10_1 + (1 : Int)))))) else (True ∧ ((validC c) = y0 ∧ True))
theorem cContracted_law (h : ∀ (c : Ctr) (programs : (List (List Lin))), cContracted.A.wf (c, programs, ()) → ∀ (Λ1 : Int → Prop), (∀ (t10_1 : Int), cContracted_1 Λ1 c programs (if firstErr programs = 0 then validC c else firstErr programs) t10_1 → Λ1 t10_1) → cContracted_0 Λ1 c programs (if firstErr programs = 0 then validC c else firstErr programs)) : ConOK Go.Proofs.Try.prog 59 cContracted := by
  refine lawL (Γ := [(66, cValC), (68, cValP)]) (Θ := Th) (n := 22) [([1, 0, 1, 0], ⟨[(2, true), (8, false), (9, true), (10, true)], [(2, false)]⟩)] ⟨cValC_ok, cValP_ok, trivial⟩ (by kernel_rfl) th_ok mix_ok Go.Proofs.Try.func59 (by kernel_rfl) ?_
  intro x hw hp Λ hC
  have h0 := h x.1 x.2.1 hw (fun t10_1 => Λ [1, 0, 1, 0] ([(2, .ptr 2 0 []), (8, .d false (.sl (.sl tL)) x.2.1), (9, .d true .int (List.length x.2.1 : Int)), (10, .d true .int t10_1)], [(2, .box false tCt x.1)])) (fun t10_1 hb => hC [1, 0, 1, 0] ([(2, .ptr 2 0 []), (8, .d false (.sl (.sl tL)) x.2.1), (9, .d true .int (List.length x.2.1 : Int)), (10, .d true .int t10_1)], [(2, .box false tCt x.1)]) (Eq.mpr (by kernel_rfl) hb))
  exact Eq.mpr (by kernel_rfl) h0
theorem cContracted_ok : ConOK Go.Proofs.Try.prog 59 cContracted := by
  refine cContracted_law ?_
  intro c programs hw Λ1 h1
  unfold cContracted_0
  have key : ∀ n i, i + n = programs.length → firstErr programs = firstErr (programs.drop i) → Λ1 i := by
    intro n
    induction n with
    | zero =>
      intro i hi e
      apply h1; unfold cContracted_1
      rw [if_neg (by simp; omega)]
      rw [List.drop_eq_nil_of_le (by omega)] at e
      refine ⟨trivial, ?_, trivial⟩
      rw [if_pos (by rw [e]; rfl)]
    | succ n ih =>
      intro i hi e
      have hl : i < programs.length := by omega
      apply h1; unfold cContracted_1
      rw [if_pos (by simpa using hl), Int.toNat_natCast]
      have hd : programs.drop i = programs.getD i [] :: programs.drop (i + 1) := by
        rw [List.drop_eq_getElem_cons hl]; simp [List.getD_eq_getElem?_getD, hl]
      rw [hd, firstErr] at e
      refine ⟨idx_nat hl, trivial, ?_⟩
      by_cases g : validP (programs.getD i []) = 0
      · rw [if_pos g] at e
        rw [if_neg (by simpa using g)]
        exact ⟨inI_succ hl hw.2.1.1, ih (i + 1) (by omega) e⟩
      · rw [if_neg g] at e
        rw [if_pos (by simpa using g)]
        refine ⟨?_, trivial⟩
        rw [e, if_neg g]
  exact key programs.length 0 (by omega) rfl
abbrev cBad : Con := { A := (.cons (.sl tL) (.cons tCt .nil)), R := (.cons .int (.cons .int .nil)), pre := fun x => True, F := fun x => ((if cErr x.1 x.2.1 = 0 then ((badL x.1 x.2.1).length : Int) else 0), cErr x.1 x.2.1, ()) }
def cBad_0 (Λ1 : Int → Nat → Prop) (p : (List Lin)) (c : Ctr) (y0 : Int) (y1 : Int) : Prop :=
  True ∧ (if (((if firstErr [p] = 0 then validC c else firstErr [p])) != (0 : Int)) = true then ((0 : Int) = y0 ∧ ((if firstErr [p] = 0 then validC c else firstErr [p])) = y1 ∧ True) else (True ∧ (((boxC c, seqC c)).1 ∧ Λ1 0 0)))
def cBad_1 (Λ1 : Int → Nat → Prop) (p : (List Lin)) (c : Ctr) (y0 : Int) (y1 : Int)  (n_1 : Int) (k_1 : Nat) : Prop :=
  (∀ e1 : ((List Int) × Unit), (((boxC c, seqC c)).2)[k_1]? = some e1 → ((validP p = 0 ∧ validS e1.1 = true ∧ 0 ≤ c.2.2.1 ∧ c.2.2.1 ≤ 3) ∧ (if (!(within (Rg (runS p e1.1) c.2.2.1) c.2.2.2.1 c.2.2.2.2.1)) = true then (inI (n_1 + (1 : Int)) ∧ Λ1 (n_1 + (1 : Int)) (k_1 + 1)) else Λ1 n_1 (k_1 + 1)))) ∧ (List.length (((boxC c, seqC c)).2) ≤ k_1 → (n_1 = y0 ∧ (0 : Int) = y1 ∧ True))
theorem cBad_law (h : ∀ (p : (List Lin)) (c : Ctr), cBad.A.wf (p, c, ()) → ∀ (Λ1 : Int → Nat → Prop), (∀ (n_1 : Int) (k_1 : Nat), cBad_1 Λ1 p c (if cErr p c = 0 then ((badL p c).length : Int) else 0) (cErr p c) n_1 k_1 → Λ1 n_1 k_1) → cBad_0 Λ1 p c (if cErr p c = 0 then ((badL p c).length : Int) else 0) (cErr p c)) : ConOK Go.Proofs.Try.prog 12 cBad := by
  refine lawL (Γ := [(59, cContracted), (62, cIsBad), (64, cStates)]) (Θ := Th) (n := 26) [([1, 1, 1, 0, 1, 0], ⟨[(2, true), (3, true), (4, true), (5, true), (7, true)], [(2, false), (3, false), (7, true), (4000000, true)]⟩)] ⟨cContracted_ok, cIsBad_ok, cStates_ok, trivial⟩ (by kernel_rfl) th_ok mix_ok Go.Proofs.Try.func12 (by kernel_rfl) ?_
  intro x hw hp Λ hC
  have h0 := h x.1 x.2.1 hw (fun n_1 k_1 => Λ [1, 1, 1, 0, 1, 0] ([(2, .ptr 2 0 []), (3, .ptr 3 0 []), (4, .d true .int 0), (5, .d true .int 0), (7, .ptr 7 0 [])], [(2, .box false (.sl tL) x.1), (3, .box false tCt x.2.1), (7, .box true .int n_1), (4000000, .rg true (.cons (.sl .int) .nil) (((boxC x.2.1, seqC x.2.1)).2) k_1)])) (fun n_1 k_1 hb => hC [1, 1, 1, 0, 1, 0] ([(2, .ptr 2 0 []), (3, .ptr 3 0 []), (4, .d true .int 0), (5, .d true .int 0), (7, .ptr 7 0 [])], [(2, .box false (.sl tL) x.1), (3, .box false tCt x.2.1), (7, .box true .int n_1), (4000000, .rg true (.cons (.sl .int) .nil) (((boxC x.2.1, seqC x.2.1)).2) k_1)]) (Eq.mpr (by kernel_rfl) hb))
  exact Eq.mpr (by kernel_rfl) h0
theorem cBad_ok : ConOK Go.Proofs.Try.prog 12 cBad := by
  refine cBad_law ?_
  intro p c hw Λ1 h1
  unfold cBad_0
  rw [firstErr_one]
  refine ⟨trivial, ?_⟩
  by_cases g : cErr p c = 0
  · rw [if_neg (by simpa [cErr] using g)]
    obtain ⟨g1, g2⟩ := cErr_ok g
    obtain ⟨g3, g4⟩ := validC_ok g2
    obtain ⟨hb, ho, _⟩ := isCtr_box g3
    refine ⟨trivial, hb, ?_⟩
    have hlen := statesC_len hb
    have key : ∀ n k, n + k = (statesC c).length → Λ1 (((((statesC c).take k).filter fun s => !keepS p c s).length : Nat) : Int) k := by
      intro n
      induction n with
      | zero =>
        intro k hk
        apply h1; unfold cBad_1
        refine ⟨fun e1 he => ?_, fun _ => ?_⟩
        · rw [List.getElem?_eq_none (by rw [seqC_len]; omega)] at he
          cases he
        · rw [if_pos g, g, List.take_of_length_le (by omega)]
          exact ⟨rfl, rfl, trivial⟩
      | succ n ih =>
        intro k hk
        apply h1; unfold cBad_1
        refine ⟨fun e1 he => ?_, fun h => absurd h (by rw [seqC_len]; omega)⟩
        obtain ⟨s, u⟩ := e1
        have he' := seqC_get.1 he
        have hk2 : k < (statesC c).length := by omega
        have hv := stateC_valid hb (List.mem_of_getElem? he')
        refine ⟨⟨g1, hv, ho.1, ho.2⟩, ?_⟩
        have := ih (k + 1) (by omega)
        rw [List.take_add_one, he', List.filter_append, List.length_append] at this
        have hle : (((statesC c).take k).filter fun s => !keepS p c s).length ≤ (statesC c).length := Nat.le_trans (List.length_filter_le _ _) (by rw [List.length_take]; omega)
        cases hs : keepS p c s
        · rw [if_pos (by show (!keepS p c s) = true; rw [hs]; rfl)]
          refine ⟨by unfold inI; omega, ?_⟩
          simpa [hs] using this
        · rw [if_neg (by show ¬ (!keepS p c s) = true; rw [hs]; simp)]
          simpa [hs] using this
    exact key _ 0 (Nat.add_zero _)
  · rw [if_pos (by simpa [cErr] using g), if_neg g]
    exact ⟨rfl, rfl, trivial⟩
abbrev cFirst0 : Con := { A := (.cons tCt (.cons (.fn (.cons (.sl .int) .nil) (.cons .bool .nil)) .nil)), R := (.cons (.sl .int) (.cons .bool .nil)), pre := fun x => boxC x.1 ∧ ∀ s' ∈ statesC x.1, x.2.1.1 (s', ()), F := fun x => ((((statesC x.1).filter (fun s' => (x.2.1.2 (s', ())).1)).headD []), (!((statesC x.1).filter (fun s' => (x.2.1.2 (s', ())).1)).isEmpty), ()) }
def cFirst0_0 (Λ1 : Nat → Prop) (c : Ctr) (is_ : (T.fn (.cons (.sl .int) .nil) (.cons .bool .nil)).den) (y0 : (List Int)) (y1 : Bool) : Prop :=
  True ∧ (((boxC c, seqC c)).1 ∧ Λ1 0)
def cFirst0_1 (Λ1 : Nat → Prop) (c : Ctr) (is_ : (T.fn (.cons (.sl .int) .nil) (.cons .bool .nil)).den) (y0 : (List Int)) (y1 : Bool)  (k_1 : Nat) : Prop :=
  (∀ e1 : ((List Int) × Unit), (((boxC c, seqC c)).2)[k_1]? = some e1 → (is_.1 (e1.1, ()) ∧ (if (!((is_.2 (e1.1, ())).1)) = true then Λ1 (k_1 + 1) else (e1.1 ≠ [] ∧ (e1.1 = y0 ∧ (!(List.isEmpty e1.1)) = y1 ∧ True))))) ∧ (List.length (((boxC c, seqC c)).2) ≤ k_1 → (([] : List Int) = y0 ∧ (!(List.isEmpty ([] : List Int))) = y1 ∧ True))
theorem cFirst0_law (h : ∀ (c : Ctr) (is_ : (T.fn (.cons (.sl .int) .nil) (.cons .bool .nil)).den), cFirst0.A.wf (c, is_, ()) → (boxC c ∧ ∀ s' ∈ statesC c, is_.1 (s', ())) → ∀ (Λ1 : Nat → Prop), (∀ (k_1 : Nat), cFirst0_1 Λ1 c is_ (((statesC c).filter (fun s' => (is_.2 (s', ())).1)).headD []) (!((statesC c).filter (fun s' => (is_.2 (s', ())).1)).isEmpty) k_1 → Λ1 k_1) → cFirst0_0 Λ1 c is_ (((statesC c).filter (fun s' => (is_.2 (s', ())).1)).headD []) (!((statesC c).filter (fun s' => (is_.2 (s', ())).1)).isEmpty)) : ConOK Go.Proofs.Try.prog 60 cFirst0 := by
  refine lawX (X := { subs := [], frz := [], U := [], mul := [], nst := [], nls := [6], itf := none }) (hX := xok0 _) (Γ := [(64, cStates)]) (Θ := Th) (n := 19) [([1, 0, 1, 1, 0, 1, 0], ⟨[(3, true), (4, true), (5, true), (6, true)], [(3, false), (4, true), (6, true), (4000000, true)]⟩)] ⟨cStates_ok, trivial⟩ (by kernel_rfl) th_ok mix_ok Go.Proofs.Try.func60 (by kernel_rfl) ?_
  intro x hw hp Λ hC
  have h0 := h x.1 x.2.1 hw hp (fun k_1 => Λ [1, 0, 1, 1, 0, 1, 0] ([(3, .ptr 3 0 []), (4, .own 4 0), (5, .d true .bool false), (6, .ptr 6 0 [])], [(3, .box false (.fn (.cons (.sl .int) .nil) (.cons .bool .nil)) x.2.1), (4, .sl true .int ([] : List Int)), (6, .box true (.nsl .int) ([] : List Int)), (4000000, .rg true (.cons (.sl .int) .nil) (((boxC x.1, seqC x.1)).2) k_1)])) (fun k_1 hb => hC [1, 0, 1, 1, 0, 1, 0] ([(3, .ptr 3 0 []), (4, .own 4 0), (5, .d true .bool false), (6, .ptr 6 0 [])], [(3, .box false (.fn (.cons (.sl .int) .nil) (.cons .bool .nil)) x.2.1), (4, .sl true .int ([] : List Int)), (6, .box true (.nsl .int) ([] : List Int)), (4000000, .rg true (.cons (.sl .int) .nil) (((boxC x.1, seqC x.1)).2) k_1)]) (Eq.mpr (by kernel_rfl) hb))
  exact Eq.mpr (by kernel_rfl) h0
theorem cFirst0_ok : ConOK Go.Proofs.Try.prog 60 cFirst0 := by
  refine cFirst0_law ?_
  intro c is_ hw hp Λ1 h1
  unfold cFirst0_0
  obtain ⟨hb, hf⟩ := hp
  refine ⟨trivial, hb, ?_⟩
  have key : ∀ n k, n + k = (statesC c).length → ((statesC c).take k).find? (fun s' => (is_.2 (s', ())).1) = none → Λ1 k := by
    intro n
    induction n with
    | zero =>
      intro k hk hn
      apply h1; unfold cFirst0_1
      refine ⟨fun e1 he => ?_, fun _ => ?_⟩
      · rw [List.getElem?_eq_none (by rw [seqC_len]; omega)] at he
        cases he
      · rw [← find_head, ← find_some]
        rw [List.take_of_length_le (by omega)] at hn
        rw [hn]
        exact ⟨rfl, rfl, trivial⟩
    | succ n ih =>
      intro k hk hn
      apply h1; unfold cFirst0_1
      refine ⟨fun e1 he => ?_, fun h => absurd h (by rw [seqC_len]; omega)⟩
      obtain ⟨s, u⟩ := e1
      have he' := seqC_get.1 he
      have hm := List.mem_of_getElem? he'
      have hl := ((stateC_iff hb).1 hm).1
      refine ⟨hf s hm, ?_⟩
      show if (!(is_.2 (s, ())).1) = true then _ else _
      cases hs : (is_.2 (s, ())).1
      · rw [if_pos (by rfl)]
        exact ih (k + 1) (by omega) (find_next hn he' hs)
      · rw [if_neg (by simp), ← find_head, ← find_some, find_at hn he' hs]
        have hne : s ≠ [] := by intro e; rw [e] at hl; cases hl
        refine ⟨hne, rfl, ?_, trivial⟩
        cases s with
        | nil => exact absurd rfl hne
        | cons a t => rfl
  exact key _ 0 (Nat.add_zero _) rfl
abbrev cFirst1 : Con := { A := (.cons (.sl .int) (.cons (.ref (.sl tL)) (.cons (.ref tCt) .nil))), R := (.cons .bool .nil), pre := fun x => validP x.2.1 = 0 ∧ validS x.1 = true ∧ 0 ≤ x.2.2.1.2.2.1 ∧ x.2.2.1.2.2.1 ≤ 3, F := fun x => (!keepS x.2.1 x.2.2.1 x.1, ()) }
def cFirst1_0  (in_ : (List Int)) (c0 : (List Lin)) (c1 : Ctr) (y0 : Bool) : Prop :=
  (validP c0 = 0 ∧ validS in_ = true ∧ 0 ≤ c1.2.2.1 ∧ c1.2.2.1 ≤ 3) ∧ ((!(within (Rg (runS c0 in_) c1.2.2.1) c1.2.2.2.1 c1.2.2.2.2.1)) = y0 ∧ True)
theorem cFirst1_law (h : ∀ (in_ : (List Int)) (c0 : (List Lin)) (c1 : Ctr), cFirst1.A.wf (in_, c0, c1, ()) → (validP c0 = 0 ∧ validS in_ = true ∧ 0 ≤ c1.2.2.1 ∧ c1.2.2.1 ≤ 3) → cFirst1_0  in_ c0 c1 (!keepS c0 c1 in_)) : ConOK Go.Proofs.Try.prog 61 cFirst1 := by
  refine lawL (Γ := [(62, cIsBad)]) (Θ := Th) (n := 9) [] ⟨cIsBad_ok, trivial⟩ (by kernel_rfl) th_ok mix_ok Go.Proofs.Try.func61 (by kernel_rfl) ?_
  intro x hw hp Λ hC
  have h0 := h x.1 x.2.1 x.2.2.1 hw hp  
  exact Eq.mpr (by kernel_rfl) h0
theorem cFirst1_ok : ConOK Go.Proofs.Try.prog 61 cFirst1 := by
  refine cFirst1_law ?_
  intro in_ c0 c1 hw hp
  unfold cFirst1_0
  exact ⟨hp, rfl, trivial⟩
abbrev cFirst : Con := { A := (.cons (.sl tL) (.cons tCt .nil)), R := (.cons (.sl .int) (.cons .bool (.cons .int .nil))), pre := fun x => True, F := fun x => ((if cErr x.1 x.2.1 = 0 then (badL x.1 x.2.1).headD [] else []), (cErr x.1 x.2.1 == 0 && !(badL x.1 x.2.1).isEmpty), cErr x.1 x.2.1, ()) }
def cFirst_0  (p : (List Lin)) (c : Ctr) (y0 : (List Int)) (y1 : Bool) (y2 : Int) : Prop :=
  True ∧ (if (((if firstErr [p] = 0 then validC c else firstErr [p])) != (0 : Int)) = true then (([] : List Int) = y0 ∧ false = y1 ∧ ((if firstErr [p] = 0 then validC c else firstErr [p])) = y2 ∧ True) else ((boxC c ∧ ∀ s' ∈ statesC c, (fun (xx : ((List Int) × Unit)) => validP p = 0 ∧ validS xx.1 = true ∧ 0 ≤ c.2.2.1 ∧ c.2.2.1 ≤ 3, fun (xx : ((List Int) × Unit)) => (!keepS p c xx.1, ())).1 (s', ())) ∧ (((((statesC c).filter (fun s' => ((fun (xx : ((List Int) × Unit)) => validP p = 0 ∧ validS xx.1 = true ∧ 0 ≤ c.2.2.1 ∧ c.2.2.1 ≤ 3, fun (xx : ((List Int) × Unit)) => (!keepS p c xx.1, ())).2 (s', ())).1)).headD [])) = y0 ∧ ((!((statesC c).filter (fun s' => ((fun (xx : ((List Int) × Unit)) => validP p = 0 ∧ validS xx.1 = true ∧ 0 ≤ c.2.2.1 ∧ c.2.2.1 ≤ 3, fun (xx : ((List Int) × Unit)) => (!keepS p c xx.1, ())).2 (s', ())).1)).isEmpty)) = y1 ∧ (0 : Int) = y2 ∧ True)))
theorem cFirst_law (h : ∀ (p : (List Lin)) (c : Ctr), cFirst.A.wf (p, c, ()) → cFirst_0  p c (if cErr p c = 0 then (badL p c).headD [] else []) (cErr p c == 0 && !(badL p c).isEmpty) (cErr p c)) : ConOK Go.Proofs.Try.prog 7 cFirst := by
  refine lawX (X := { subs := [], frz := [2, 3], U := [], mul := [], nst := [], nls := [], itf := none }) (hX := xok0 _) (Γ := [(59, cContracted), (60, cFirst0), (61, cFirst1)]) (Θ := Th) (n := 25) [] ⟨cContracted_ok, cFirst0_ok, cFirst1_ok, trivial⟩ (by kernel_rfl) th_ok mix_ok Go.Proofs.Try.func7 (by kernel_rfl) ?_
  intro x hw hp Λ hC
  have h0 := h x.1 x.2.1 hw  
  exact Eq.mpr (by kernel_rfl) h0
theorem cFirst_ok : ConOK Go.Proofs.Try.prog 7 cFirst := by
  refine cFirst_law ?_
  intro p c hw
  unfold cFirst_0
  rw [firstErr_one]
  refine ⟨trivial, ?_⟩
  by_cases g : cErr p c = 0
  · rw [if_neg (by simpa [cErr] using g)]
    obtain ⟨g1, g2⟩ := cErr_ok g
    obtain ⟨g3, g4⟩ := validC_ok g2
    obtain ⟨hb, ho, _⟩ := isCtr_box g3
    refine ⟨⟨hb, fun s' hs => ⟨g1, stateC_valid hb hs, ho.1, ho.2⟩⟩, ?_, ?_, g.symm, trivial⟩
    · rw [if_pos g]; rfl
    · rw [g]; rfl
  · have g' : ¬ (if validP p = 0 then validC c else validP p) = 0 := g
    rw [if_pos (by simpa using g'), if_neg g]
    refine ⟨rfl, ?_, rfl, trivial⟩
    rw [show (cErr p c == 0) = false by simpa using g]; rfl
abbrev cKeeps : Con := { A := (.cons (.sl tL) (.cons tCt .nil)), R := (.cons .bool (.cons .int .nil)), pre := fun x => True, F := fun x => ((cErr x.1 x.2.1 == 0 && (badL x.1 x.2.1).isEmpty), cErr x.1 x.2.1, ()) }
def cKeeps_0  (p : (List Lin)) (c : Ctr) (y0 : Bool) (y1 : Int) : Prop :=
  True ∧ (if ((cErr p c) == (0 : Int)) = true then (True ∧ ((bif true then (!((cErr p c == 0 && !(badL p c).isEmpty))) else false) = y0 ∧ (cErr p c) = y1 ∧ True)) else (false = false ∧ (false = y0 ∧ (cErr p c) = y1 ∧ True)))
theorem cKeeps_law (h : ∀ (p : (List Lin)) (c : Ctr), cKeeps.A.wf (p, c, ()) → cKeeps_0  p c (cErr p c == 0 && (badL p c).isEmpty) (cErr p c)) : ConOK Go.Proofs.Try.prog 11 cKeeps := by
  refine lawL (Γ := [(7, cFirst)]) (Θ := Th) (n := 23) [] ⟨cFirst_ok, trivial⟩ (by kernel_rfl) th_ok mix_ok Go.Proofs.Try.func11 (by kernel_rfl) ?_
  intro x hw hp Λ hC
  have h0 := h x.1 x.2.1 hw  
  exact Eq.mpr (by kernel_rfl) h0
theorem cKeeps_ok : ConOK Go.Proofs.Try.prog 11 cKeeps := by
  refine cKeeps_law ?_
  intro p c hw
  unfold cKeeps_0
  refine ⟨trivial, ?_⟩
  by_cases g : cErr p c = 0
  · simp [g]
  · simp [g]
end Go.Tk
