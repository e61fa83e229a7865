/- Merged: C2t C4h C4i C4j P4p P4q C4k P4r C4m C4l C4n. -/
import Derived.Test.YtjimjngkeaaifaaGreatMg1
set_option linter.unusedSimpArgs false
set_option linter.unusedVariables false
namespace Go.Tk
open Go Go.RowKit

abbrev cIsTest : Con := { A := (.cons tTs .nil), R := (.cons .bool .nil), pre := fun x => True, F := fun x => (isTst x.1, ()) }
def cIsTest_0  (t : Tst) (y0 : Bool) : Prop :=
  True ∧ (if (validS t.1) = true then (True ∧ (True ∧ (if (bif true then (isReg t.2.1) else false) = true then (True ∧ (True ∧ ((bif true then (isVal t.2.2.1) else false) = y0 ∧ True))) else (false = false ∧ (false = y0 ∧ True))))) else (false = false ∧ (false = false ∧ (false = y0 ∧ True))))
theorem cIsTest_law (h : ∀ (t : Tst), cIsTest.A.wf (t, ()) → cIsTest_0  t (isTst t)) : ConOK Go.Proofs.Tryz.prog 122 cIsTest := by
  refine lawL (Γ := [(137, cIsReg2), (136, cIsState), (138, cIsVal2)]) (Θ := Th) (n := 16) [] ⟨cIsReg2_ok, cIsState_ok, cIsVal2_ok, trivial⟩ (by kernel_rfl) th_ok mix_ok Go.Proofs.Tryz.func122 (by kernel_rfl) ?_
  intro x hw hp Λ hC
  have h0 := h x.1 hw  
  exact Eq.mpr (by kernel_rfl) h0
theorem cIsTest_ok : ConOK Go.Proofs.Tryz.prog 122 cIsTest := by
  refine cIsTest_law ?_
  intro t hw
  unfold cIsTest_0
  refine ⟨trivial, ?_⟩
  unfold isTst
  cases validS t.1
  · simp
  · cases isReg t.2.1 <;> simp
abbrev cNotTest : Con := { A := (.cons tTs .nil), R := (.cons .bool .nil), pre := fun x => True, F := fun x => (!(isTst x.1), ()) }
def cNotTest_0  (t : Tst) (y0 : Bool) : Prop :=
  True ∧ ((!(isTst t)) = y0 ∧ True)
theorem cNotTest_law (h : ∀ (t : Tst), cNotTest.A.wf (t, ()) → cNotTest_0  t (!(isTst t))) : ConOK Go.Proofs.Tryz.prog 121 cNotTest := by
  refine lawL (Γ := [(122, cIsTest)]) (Θ := Th) (n := 6) [] ⟨cIsTest_ok, trivial⟩ (by kernel_rfl) th_ok mix_ok Go.Proofs.Tryz.func121 (by kernel_rfl) ?_
  intro x hw hp Λ hC
  have h0 := h x.1 hw  
  exact Eq.mpr (by kernel_rfl) h0
theorem cNotTest_ok : ConOK Go.Proofs.Tryz.prog 121 cNotTest := by
  refine cNotTest_law ?_
  intro t hw
  unfold cNotTest_0
  exact ⟨trivial, rfl, trivial⟩
abbrev cIndexT : Con := { A := (.cons (.sl tTs) (.cons (.fn (.cons tTs .nil) (.cons .bool .nil)) .nil)), R := (.cons .int .nil), pre := fun x => ∀ r', tTs.wf r' → x.2.1.1 (r', ()), F := fun x => (idxF (fun r' => (x.2.1.2 (r', ())).1) x.1, ()) }
def cIndexT_0 (Λ1 : Int → Prop) (s : (List Tst)) (f : (T.fn (.cons tTs .nil) (.cons .bool .nil)).den) (y0 : Int) : Prop :=
  Λ1 (0 : Int)
def cIndexT_1 (Λ1 : Int → Prop) (s : (List Tst)) (f : (T.fn (.cons tTs .nil) (.cons .bool .nil)).den) (y0 : Int)  (t8_1 : Int) : Prop :=
  if (decide (t8_1 < (List.length s : Int))) = true then (idx t8_1 (List.length s : Int) ∧ (f.1 ((List.getD s (Int.toNat t8_1) tTs.dflt), ()) ∧ (if ((f.2 ((List.getD s (Int.toNat t8_1) tTs.dflt), ())).1) = true then (t8_1 = y0 ∧ True) else (inI (t8_1 + (1 : Int)) ∧ Λ1 (t8_1 + (1 : Int)))))) else ((-1 : Int) = y0 ∧ True)
theorem cIndexT_law (h : ∀ (s : (List Tst)) (f : (T.fn (.cons tTs .nil) (.cons .bool .nil)).den), cIndexT.A.wf (s, f, ()) → (∀ r', tTs.wf r' → f.1 (r', ())) → ∀ (Λ1 : Int → Prop), (∀ (t8_1 : Int), cIndexT_1 Λ1 s f (idxF (fun r' => (f.2 (r', ())).1) s) t8_1 → Λ1 t8_1) → cIndexT_0 Λ1 s f (idxF (fun r' => (f.2 (r', ())).1) s)) : ConOK Go.Proofs.Tryz.prog 135 cIndexT := by
  refine lawL (Γ := []) (Θ := Th) (n := 19) [([1, 0, 1, 0], ⟨[(0, false), (1, false), (7, true), (8, true)], []⟩)] trivial (by kernel_rfl) th_ok mix_ok Go.Proofs.Tryz.func135 (by kernel_rfl) ?_
  intro x hw hp Λ hC
  have h0 := h x.1 x.2.1 hw hp (fun t8_1 => Λ [1, 0, 1, 0] ([(0, .d false (.sl tTs) x.1), (1, .d false (.fn (.cons tTs .nil) (.cons .bool .nil)) x.2.1), (7, .d true .int (List.length x.1 : Int)), (8, .d true .int t8_1)], [])) (fun t8_1 hb => hC [1, 0, 1, 0] ([(0, .d false (.sl tTs) x.1), (1, .d false (.fn (.cons tTs .nil) (.cons .bool .nil)) x.2.1), (7, .d true .int (List.length x.1 : Int)), (8, .d true .int t8_1)], []) (Eq.mpr (by kernel_rfl) hb))
  exact Eq.mpr (by kernel_rfl) h0
theorem cIndexT_ok : ConOK Go.Proofs.Tryz.prog 135 cIndexT := by
  refine cIndexT_law ?_
  intro s f hw hp Λ1 h1
  unfold cIndexT_0
  refine upto (n := s.length) (Q := fun i => (s.take i).any (fun r => (f.2 (r, ())).1) = false → Λ1 i) ?_ ?_ 0 (Nat.zero_le _) rfl
  · intro ha
    rw [List.take_length] at ha
    apply h1; unfold cIndexT_1; rw [if_neg (by simp), idxF_none ha]
    exact ⟨rfl, trivial⟩
  · intro i hi ih ha
    apply h1; unfold cIndexT_1; rw [if_pos (by simpa using hi), Int.toNat_natCast]
    refine ⟨idx_nat hi, hp _ (hw.1.2 _ (mem_getD hi)), ?_⟩
    cases hv : (f.2 (List.getD s i tTs.dflt, ())).1
    · rw [if_neg (by simp)]
      exact ⟨inI_succ hi hw.1.1, ih (any_take_next (p := fun r => (f.2 (r, ())).1) tTs.dflt hi ha hv)⟩
    · rw [if_pos (by rfl), idxF_at (p := fun r => (f.2 (r, ())).1) tTs.dflt hi ha hv]
      exact ⟨rfl, trivial⟩
abbrev cContT : Con := { A := (.cons (.sl tTs) (.cons (.fn (.cons tTs .nil) (.cons .bool .nil)) .nil)), R := (.cons .bool .nil), pre := fun x => ∀ r', tTs.wf r' → x.2.1.1 (r', ()), F := fun x => (x.1.any (fun r' => (x.2.1.2 (r', ())).1), ()) }
def cContT_0  (s : (List Tst)) (f : (T.fn (.cons tTs .nil) (.cons .bool .nil)).den) (y0 : Bool) : Prop :=
  (∀ r', tTs.wf r' → f.1 (r', ())) ∧ ((decide ((idxF (fun r' => (f.2 (r', ())).1) s) ≥ (0 : Int))) = y0 ∧ True)
theorem cContT_law (h : ∀ (s : (List Tst)) (f : (T.fn (.cons tTs .nil) (.cons .bool .nil)).den), cContT.A.wf (s, f, ()) → (∀ r', tTs.wf r' → f.1 (r', ())) → cContT_0  s f (s.any (fun r' => (f.2 (r', ())).1))) : ConOK Go.Proofs.Tryz.prog 120 cContT := by
  refine lawL (Γ := [(135, cIndexT)]) (Θ := Th) (n := 9) [] ⟨cIndexT_ok, trivial⟩ (by kernel_rfl) th_ok mix_ok Go.Proofs.Tryz.func120 (by kernel_rfl) ?_
  intro x hw hp Λ hC
  have h0 := h x.1 x.2.1 hw hp  
  exact Eq.mpr (by kernel_rfl) h0
theorem cContT_ok : ConOK Go.Proofs.Tryz.prog 120 cContT := by
  refine cContT_law ?_
  intro s f hw hp
  unfold cContT_0
  exact ⟨hp, idxF_any _ _, trivial⟩
abbrev cValT : Con := { A := (.cons (.sl tTs) .nil), R := (.cons .int .nil), pre := fun x => True, F := fun x => (validT x.1, ()) }
def cValT_0  (l : (List Tst)) (y0 : Int) : Prop :=
  if (decide ((List.length l : Int) > (8 : Int))) = true then ((3 : Int) = y0 ∧ True) else ((∀ r', tTs.wf r' → (fun (xx : (Tst × Unit)) => True, fun (xx : (Tst × Unit)) => (!(isTst xx.1), ())).1 (r', ())) ∧ (if (l.any (fun r' => ((fun (xx : (Tst × Unit)) => True, fun (xx : (Tst × Unit)) => (!(isTst xx.1), ())).2 (r', ())).1)) = true then ((1 : Int) = y0 ∧ True) else ((0 : Int) = y0 ∧ True)))
theorem cValT_law (h : ∀ (l : (List Tst)), cValT.A.wf (l, ()) → cValT_0  l (validT l)) : ConOK Go.Proofs.Tryz.prog 94 cValT := by
  refine lawL (Γ := [(120, cContT), (121, cNotTest)]) (Θ := Th) (n := 8) [] ⟨cContT_ok, cNotTest_ok, trivial⟩ (by kernel_rfl) th_ok mix_ok Go.Proofs.Tryz.func94 (by kernel_rfl) ?_
  intro x hw hp Λ hC
  have h0 := h x.1 hw  
  exact Eq.mpr (by kernel_rfl) h0
theorem cValT_ok : ConOK Go.Proofs.Tryz.prog 94 cValT := by
  refine cValT_law ?_
  intro l hw
  unfold cValT_0
  unfold validT
  simp only [decide_eq_true_eq]
  by_cases h : l.length > 8
  · rw [if_pos (by omega), if_pos h]; exact ⟨rfl, trivial⟩
  · rw [if_neg (by omega), if_neg h]
    refine ⟨fun _ _ => trivial, ?_⟩
    show if (l.any fun r => !isTst r) = true then _ else _
    rw [any_not_all]
    cases l.all isTst <;> exact ⟨rfl, trivial⟩
abbrev cTested : Con := { A := (.cons (.sl tTs) (.cons (.sl (.sl tL)) .nil)), R := (.cons .int .nil), pre := fun x => True, F := fun x => (errT x.2.1 x.1, ()) }
def cTested_0 (Λ1 : Int → Prop) (l : (List Tst)) (programs : (List (List Lin))) (y0 : Int) : Prop :=
  Λ1 (0 : Int)
def cTested_1 (Λ1 : Int → Prop) (l : (List Tst)) (programs : (List (List Lin))) (y0 : Int)  (t10_1 : Int) : Prop :=
  if (decide (t10_1 < (List.length programs : Int))) = true then (idx t10_1 (List.length programs : Int) ∧ (True ∧ (if ((validP (List.getD programs (Int.toNat t10_1) ([] : List Lin))) != (0 : Int)) = true then ((validP (List.getD programs (Int.toNat t10_1) ([] : List Lin))) = y0 ∧ True) else (inI (t10_1 + (1 : Int)) ∧ Λ1 (t10_1 + (1 : Int)))))) else (True ∧ ((validT l) = y0 ∧ True))
theorem cTested_law (h : ∀ (l : (List Tst)) (programs : (List (List Lin))), cTested.A.wf (l, programs, ()) → ∀ (Λ1 : Int → Prop), (∀ (t10_1 : Int), cTested_1 Λ1 l programs (errT programs l) t10_1 → Λ1 t10_1) → cTested_0 Λ1 l programs (errT programs l)) : ConOK Go.Proofs.Tryz.prog 87 cTested := by
  refine lawL (Γ := [(80, cValP), (94, cValT)]) (Θ := Th) (n := 22) [([1, 0, 1, 0], ⟨[(0, false), (8, false), (9, true), (10, true)], []⟩)] ⟨cValP_ok, cValT_ok, trivial⟩ (by kernel_rfl) th_ok mix_ok Go.Proofs.Tryz.func87 (by kernel_rfl) ?_
  intro x hw hp Λ hC
  have h0 := h x.1 x.2.1 hw (fun t10_1 => Λ [1, 0, 1, 0] ([(0, .d false (.sl tTs) x.1), (8, .d false (.sl (.sl tL)) x.2.1), (9, .d true .int (List.length x.2.1 : Int)), (10, .d true .int t10_1)], [])) (fun t10_1 hb => hC [1, 0, 1, 0] ([(0, .d false (.sl tTs) x.1), (8, .d false (.sl (.sl tL)) x.2.1), (9, .d true .int (List.length x.2.1 : Int)), (10, .d true .int t10_1)], []) (Eq.mpr (by kernel_rfl) hb))
  exact Eq.mpr (by kernel_rfl) h0
theorem cTested_ok : ConOK Go.Proofs.Tryz.prog 87 cTested := by
  refine cTested_law ?_
  intro l programs hw Λ1 h1
  unfold cTested_0
  have key : ∀ n i, i + n = programs.length → firstErr programs = firstErr (programs.drop i) → Λ1 i := by
    intro n
    induction n with
    | zero =>
      intro i hi e
      apply h1; unfold cTested_1
      rw [if_neg (by simp; omega)]
      rw [List.drop_eq_nil_of_le (by omega)] at e
      refine ⟨trivial, ?_, trivial⟩
      unfold errT
      rw [if_pos (by rw [e]; rfl)]
    | succ n ih =>
      intro i hi e
      have hl : i < programs.length := by omega
      apply h1; unfold cTested_1
      rw [if_pos (by simpa using hl), Int.toNat_natCast]
      have hd : programs.drop i = programs.getD i [] :: programs.drop (i + 1) := by
        rw [List.drop_eq_getElem_cons hl]; simp [List.getD_eq_getElem?_getD, hl]
      rw [hd, firstErr] at e
      refine ⟨idx_nat hl, trivial, ?_⟩
      by_cases g : validP (programs.getD i []) = 0
      · rw [if_pos g] at e
        rw [if_neg (by simpa using g)]
        exact ⟨inI_succ hl hw.2.1.1, ih (i + 1) (by omega) e⟩
      · rw [if_neg g] at e
        rw [if_pos (by simpa using g)]
        refine ⟨?_, trivial⟩
        unfold errT
        rw [e, if_neg g]
  exact key programs.length 0 (by omega) rfl
abbrev cEnd : Con := { A := (.cons (.sl tL) (.cons (.sl .int) (.cons .int .nil))), R := (.cons .int .nil), pre := fun x => validP x.1 = 0 ∧ validS x.2.1 = true ∧ 0 ≤ x.2.2.1 ∧ x.2.2.1 ≤ 3, F := fun x => (Rg (runS x.1 x.2.1) x.2.2.1, ()) }
def cEnd_0  (p : (List Lin)) (in_ : (List Int)) (out : Int) (y0 : Int) : Prop :=
  True ∧ (idx out (List.length ((if err1 p in_ = 0 then runS p in_ else [])) : Int) ∧ ((List.getD ((if err1 p in_ = 0 then runS p in_ else [])) (Int.toNat out) 0) = y0 ∧ True))
theorem cEnd_law (h : ∀ (p : (List Lin)) (in_ : (List Int)) (out : Int), cEnd.A.wf (p, in_, out, ()) → (validP p = 0 ∧ validS in_ = true ∧ 0 ≤ out ∧ out ≤ 3) → cEnd_0  p in_ out (Rg (runS p in_) out)) : ConOK Go.Proofs.Tryz.prog 118 cEnd := by
  refine lawL (Γ := [(134, cRun)]) (Θ := Th) (n := 19) [] ⟨cRun_ok, trivial⟩ (by kernel_rfl) th_ok mix_ok Go.Proofs.Tryz.func118 (by kernel_rfl) ?_
  intro x hw hp Λ hC
  have h0 := h x.1 x.2.1 x.2.2.1 hw hp  
  exact Eq.mpr (by kernel_rfl) h0
theorem cEnd_ok : ConOK Go.Proofs.Tryz.prog 118 cEnd := by
  refine cEnd_law ?_
  intro p in_ out hw hp
  unfold cEnd_0
  obtain ⟨p1, p2, p3, p4⟩ := hp
  have e : err1 p in_ = 0 := by unfold err1; rw [if_pos p1, p2]; rfl
  have l4 := validS_len (runS_ok (p := p) p2)
  rw [if_pos e]
  exact ⟨trivial, ⟨p3, by omega⟩, rfl, trivial⟩
abbrev cPassT : Con := { A := (.cons (.sl tL) (.cons tTs .nil)), R := (.cons .bool .nil), pre := fun x => validP x.1 = 0 ∧ isTst x.2.1 = true, F := fun x => (passT x.1 x.2.1, ()) }
def cPassT_0  (p : (List Lin)) (t : Tst) (y0 : Bool) : Prop :=
  (validP p = 0 ∧ validS t.1 = true ∧ 0 ≤ t.2.1 ∧ t.2.1 ≤ 3) ∧ (((Rg (runS p t.1) t.2.1) == t.2.2.1) = y0 ∧ True)
theorem cPassT_law (h : ∀ (p : (List Lin)) (t : Tst), cPassT.A.wf (p, t, ()) → (validP p = 0 ∧ isTst t = true) → cPassT_0  p t (passT p t)) : ConOK Go.Proofs.Tryz.prog 90 cPassT := by
  refine lawL (Γ := [(118, cEnd)]) (Θ := Th) (n := 14) [] ⟨cEnd_ok, trivial⟩ (by kernel_rfl) th_ok mix_ok Go.Proofs.Tryz.func90 (by kernel_rfl) ?_
  intro x hw hp Λ hC
  have h0 := h x.1 x.2.1 hw hp  
  exact Eq.mpr (by kernel_rfl) h0
theorem cPassT_ok : ConOK Go.Proofs.Tryz.prog 90 cPassT := by
  refine cPassT_law ?_
  intro p t hw hp
  unfold cPassT_0
  obtain ⟨p1, p2⟩ := hp
  obtain ⟨q1, q2, q3⟩ := isTst_iff.1 p2
  exact ⟨⟨p1, q1, q2.1, q2.2⟩, rfl, trivial⟩
abbrev cWhere : Con := { A := (.cons (.sl tTs) (.cons (.fn (.cons tTs .nil) (.cons .bool .nil)) .nil)), R := (.cons (.osl .int) .nil), pre := fun x => x.1.length ≤ 1000000 ∧ ∀ t' ∈ x.1, tTs.wf t' → x.2.1.1 (t', ()), F := fun x => (whereL (fun t' => (x.2.1.2 (t', ())).1) x.1, ()) }
def cWhere_0 (Λ1 : Int → (List Int) → Prop) (l : (List Tst)) (is_ : (T.fn (.cons tTs .nil) (.cons .bool .nil)).den) (y0 : (List Int)) : Prop :=
  Λ1 (0 : Int) ([] : List Int)
def cWhere_1 (Λ1 : Int → (List Int) → Prop) (l : (List Tst)) (is_ : (T.fn (.cons tTs .nil) (.cons .bool .nil)).den) (y0 : (List Int))  (t10_1 : Int) (out_1 : (List Int)) : Prop :=
  if (decide (t10_1 < (List.length l : Int))) = true then (idx t10_1 (List.length l : Int) ∧ (is_.1 ((List.getD l (Int.toNat t10_1) tTs.dflt), ()) ∧ (if ((is_.2 ((List.getD l (Int.toNat t10_1) tTs.dflt), ())).1) = true then (List.length out_1 + List.length [t10_1] ≤ 4294967296 ∧ (inI (t10_1 + (1 : Int)) ∧ Λ1 (t10_1 + (1 : Int)) (out_1 ++ [t10_1]))) else (inI (t10_1 + (1 : Int)) ∧ Λ1 (t10_1 + (1 : Int)) out_1)))) else out_1 = y0
theorem cWhere_law (h : ∀ (l : (List Tst)) (is_ : (T.fn (.cons tTs .nil) (.cons .bool .nil)).den), cWhere.A.wf (l, is_, ()) → (l.length ≤ 1000000 ∧ ∀ t' ∈ l, tTs.wf t' → is_.1 (t', ())) → ∀ (Λ1 : Int → (List Int) → Prop), (∀ (t10_1 : Int) (out_1 : (List Int)), cWhere_1 Λ1 l is_ (whereL (fun t' => (is_.2 (t', ())).1) l) t10_1 out_1 → Λ1 t10_1 out_1) → cWhere_0 Λ1 l is_ (whereL (fun t' => (is_.2 (t', ())).1) l)) : ConOK Go.Proofs.Tryz.prog 88 cWhere := by
  refine lawL (Γ := []) (Θ := Th) (n := 24) [([1, 1, 0, 1, 0], ⟨[(1, false), (5, true), (8, false), (9, true), (10, true)], [(5, true)]⟩)] trivial (by kernel_rfl) th_ok mix_ok Go.Proofs.Tryz.func88 (by kernel_rfl) ?_
  intro x hw hp Λ hC
  have h0 := h x.1 x.2.1 hw hp (fun t10_1 out_1 => Λ [1, 1, 0, 1, 0] ([(1, .d false (.fn (.cons tTs .nil) (.cons .bool .nil)) x.2.1), (5, .own 5 0), (8, .d false (.sl tTs) x.1), (9, .d true .int (List.length x.1 : Int)), (10, .d true .int t10_1)], [(5, .sl true .int out_1)])) (fun t10_1 out_1 hb => hC [1, 1, 0, 1, 0] ([(1, .d false (.fn (.cons tTs .nil) (.cons .bool .nil)) x.2.1), (5, .own 5 0), (8, .d false (.sl tTs) x.1), (9, .d true .int (List.length x.1 : Int)), (10, .d true .int t10_1)], [(5, .sl true .int out_1)]) (Eq.mpr (by kernel_rfl) hb))
  exact Eq.mpr (by kernel_rfl) h0
theorem cWhere_ok : ConOK Go.Proofs.Tryz.prog 88 cWhere := by
  refine cWhere_law ?_
  intro l is_ hw hp Λ1 h1
  unfold cWhere_0
  obtain ⟨p1, p2⟩ := hp
  refine upto (n := l.length) (Q := fun i => Λ1 i (whereTo (fun t' => (is_.2 (t', ())).1) l i)) ?_ ?_ 0 (Nat.zero_le _)
  · apply h1; unfold cWhere_1; rw [if_neg (by simp)]; exact rfl
  · intro i hi ih
    apply h1; unfold cWhere_1; rw [if_pos (by simpa using hi), Int.toNat_natCast]
    have hm : List.getD l i tTs.dflt ∈ l := mem_getD hi
    refine ⟨idx_nat hi, p2 _ hm (hw.1.2 _ hm), ?_⟩
    unfold whereTo at ih
    have hle := whereTo_len (fun t' => (is_.2 (t', ())).1) l i
    cases hv : (is_.2 (List.getD l i tTs.dflt, ())).1
    · rw [hv, if_neg (by simp), List.append_nil] at ih
      rw [if_neg (by simp)]
      exact ⟨inI_succ hi (by omega), ih⟩
    · rw [hv, if_pos rfl] at ih
      rw [if_pos (by rfl)]
      exact ⟨by simp only [List.length_cons, List.length_nil]; omega, inI_succ hi (by omega), ih⟩
theorem errT_cases (p : List Lin) (l : List Tst) : errT [p] l = if validP p = 0 then validT l else validP p := by
  unfold errT firstErr firstErr
  by_cases e : validP p = 0
  · rw [if_pos e, if_pos rfl, if_pos e]
  · rw [if_neg e, if_neg e]
theorem errT2_cases (p q : List Lin) (l : List Tst) : errT [p, q] l = if validP p = 0 then errT [q] l else validP p := by
  rw [errT_cases]
  unfold errT firstErr firstErr firstErr
  by_cases e : validP p = 0
  · rw [if_pos e, if_pos e]
    by_cases e2 : validP q = 0
    · rw [if_pos e2, if_pos rfl, if_pos e2]
    · rw [if_neg e2, if_neg e2]
  · rw [if_neg e, if_neg e, if_neg e]

abbrev cPassing1 : Con := { A := (.cons tTs (.cons (.ref (.sl tL)) .nil)), R := (.cons .bool .nil), pre := fun x => validP x.2.1 = 0 ∧ isTst x.1 = true, F := fun x => (passT x.2.1 x.1, ()) }
def cPassing1_0  (t : Tst) (c0 : (List Lin)) (y0 : Bool) : Prop :=
  (validP c0 = 0 ∧ isTst t = true) ∧ ((passT c0 t) = y0 ∧ True)
theorem cPassing1_law (h : ∀ (t : Tst) (c0 : (List Lin)), cPassing1.A.wf (t, c0, ()) → (validP c0 = 0 ∧ isTst t = true) → cPassing1_0  t c0 (passT c0 t)) : ConOK Go.Proofs.Tryz.prog 131 cPassing1 := by
  refine lawL (Γ := [(90, cPassT)]) (Θ := Th) (n := 7) [] ⟨cPassT_ok, trivial⟩ (by kernel_rfl) th_ok mix_ok Go.Proofs.Tryz.func131 (by kernel_rfl) ?_
  intro x hw hp Λ hC
  have h0 := h x.1 x.2.1 hw hp  
  exact Eq.mpr (by kernel_rfl) h0
theorem cPassing1_ok : ConOK Go.Proofs.Tryz.prog 131 cPassing1 := by
  refine cPassing1_law ?_
  intro t c0 hw hp
  unfold cPassing1_0
  exact ⟨hp, rfl, trivial⟩
abbrev cPassing : Con := { A := (.cons (.sl tL) (.cons (.sl tTs) .nil)), R := (.cons (.sl .int) (.cons .int .nil)), pre := fun x => True, F := fun x => ((if errT [x.1] x.2.1 = 0 then whereL (passT x.1) x.2.1 else []), errT [x.1] x.2.1, ()) }
def cPassing_0  (p : (List Lin)) (l : (List Tst)) (y0 : (List Int)) (y1 : Int) : Prop :=
  True ∧ (if ((errT [p] l) != (0 : Int)) = true then (([] : List Int) = y0 ∧ (errT [p] l) = y1 ∧ True) else ((l.length ≤ 1000000 ∧ ∀ t' ∈ l, tTs.wf t' → (fun (xx : (Tst × Unit)) => validP p = 0 ∧ isTst xx.1 = true, fun (xx : (Tst × Unit)) => (passT p xx.1, ())).1 (t', ())) ∧ ((whereL (fun t' => ((fun (xx : (Tst × Unit)) => validP p = 0 ∧ isTst xx.1 = true, fun (xx : (Tst × Unit)) => (passT p xx.1, ())).2 (t', ())).1) l) = y0 ∧ (0 : Int) = y1 ∧ True)))
theorem cPassing_law (h : ∀ (p : (List Lin)) (l : (List Tst)), cPassing.A.wf (p, l, ()) → cPassing_0  p l (if errT [p] l = 0 then whereL (passT p) l else []) (errT [p] l)) : ConOK Go.Proofs.Tryz.prog 114 cPassing := by
  refine lawX (X := { subs := [], frz := [2], U := [], mul := [], nst := [], nls := [], itf := none, inp := [], arrs := [] }) (hX := xok0 _ trivial) (Γ := [(131, cPassing1), (87, cTested), (88, cWhere)]) (Θ := Th) (n := 17) [] ⟨cPassing1_ok, cTested_ok, cWhere_ok, trivial⟩ (by kernel_rfl) th_ok mix_ok Go.Proofs.Tryz.func114 (by kernel_rfl) ?_
  intro x hw hp Λ hC
  have h0 := h x.1 x.2.1 hw  
  exact Eq.mpr (by kernel_rfl) h0
theorem cPassing_ok : ConOK Go.Proofs.Tryz.prog 114 cPassing := by
  refine cPassing_law ?_
  intro p l hw
  unfold cPassing_0
  refine ⟨trivial, ?_⟩
  by_cases h : errT [p] l = 0
  · rw [if_neg (by simp [h]), if_pos h]
    obtain ⟨h1, h2⟩ := errT_ok h
    obtain ⟨h3, h4⟩ := validT_ok h2
    exact ⟨⟨by omega, fun t' ht _ => ⟨h1, h4 t' ht⟩⟩, rfl, h.symm, trivial⟩
  · rw [if_pos (by simpa using h), if_neg h]
    exact ⟨rfl, rfl, trivial⟩
abbrev cFailing1 : Con := { A := (.cons tTs (.cons (.ref (.sl tL)) .nil)), R := (.cons .bool .nil), pre := fun x => validP x.2.1 = 0 ∧ isTst x.1 = true, F := fun x => (!(passT x.2.1 x.1), ()) }
def cFailing1_0  (t : Tst) (c0 : (List Lin)) (y0 : Bool) : Prop :=
  (validP c0 = 0 ∧ isTst t = true) ∧ ((!(passT c0 t)) = y0 ∧ True)
theorem cFailing1_law (h : ∀ (t : Tst) (c0 : (List Lin)), cFailing1.A.wf (t, c0, ()) → (validP c0 = 0 ∧ isTst t = true) → cFailing1_0  t c0 (!(passT c0 t))) : ConOK Go.Proofs.Tryz.prog 89 cFailing1 := by
  refine lawL (Γ := [(90, cPassT)]) (Θ := Th) (n := 8) [] ⟨cPassT_ok, trivial⟩ (by kernel_rfl) th_ok mix_ok Go.Proofs.Tryz.func89 (by kernel_rfl) ?_
  intro x hw hp Λ hC
  have h0 := h x.1 x.2.1 hw hp  
  exact Eq.mpr (by kernel_rfl) h0
theorem cFailing1_ok : ConOK Go.Proofs.Tryz.prog 89 cFailing1 := by
  refine cFailing1_law ?_
  intro t c0 hw hp
  unfold cFailing1_0
  exact ⟨hp, rfl, trivial⟩
abbrev cFailing : Con := { A := (.cons (.sl tL) (.cons (.sl tTs) .nil)), R := (.cons (.sl .int) (.cons .int .nil)), pre := fun x => True, F := fun x => ((if errT [x.1] x.2.1 = 0 then failL x.1 x.2.1 else []), errT [x.1] x.2.1, ()) }
def cFailing_0  (p : (List Lin)) (l : (List Tst)) (y0 : (List Int)) (y1 : Int) : Prop :=
  True ∧ (if ((errT [p] l) != (0 : Int)) = true then (([] : List Int) = y0 ∧ (errT [p] l) = y1 ∧ True) else ((l.length ≤ 1000000 ∧ ∀ t' ∈ l, tTs.wf t' → (fun (xx : (Tst × Unit)) => validP p = 0 ∧ isTst xx.1 = true, fun (xx : (Tst × Unit)) => (!(passT p xx.1), ())).1 (t', ())) ∧ ((whereL (fun t' => ((fun (xx : (Tst × Unit)) => validP p = 0 ∧ isTst xx.1 = true, fun (xx : (Tst × Unit)) => (!(passT p xx.1), ())).2 (t', ())).1) l) = y0 ∧ (0 : Int) = y1 ∧ True)))
theorem cFailing_law (h : ∀ (p : (List Lin)) (l : (List Tst)), cFailing.A.wf (p, l, ()) → cFailing_0  p l (if errT [p] l = 0 then failL p l else []) (errT [p] l)) : ConOK Go.Proofs.Tryz.prog 50 cFailing := by
  refine lawX (X := { subs := [], frz := [2], U := [], mul := [], nst := [], nls := [], itf := none, inp := [], arrs := [] }) (hX := xok0 _ trivial) (Γ := [(89, cFailing1), (87, cTested), (88, cWhere)]) (Θ := Th) (n := 17) [] ⟨cFailing1_ok, cTested_ok, cWhere_ok, trivial⟩ (by kernel_rfl) th_ok mix_ok Go.Proofs.Tryz.func50 (by kernel_rfl) ?_
  intro x hw hp Λ hC
  have h0 := h x.1 x.2.1 hw  
  exact Eq.mpr (by kernel_rfl) h0
theorem cFailing_ok : ConOK Go.Proofs.Tryz.prog 50 cFailing := by
  refine cFailing_law ?_
  intro p l hw
  unfold cFailing_0
  refine ⟨trivial, ?_⟩
  by_cases h : errT [p] l = 0
  · rw [if_neg (by simp [h]), if_pos h]
    obtain ⟨h1, h2⟩ := errT_ok h
    obtain ⟨h3, h4⟩ := validT_ok h2
    exact ⟨⟨by omega, fun t' ht _ => ⟨h1, h4 t' ht⟩⟩, rfl, h.symm, trivial⟩
  · rw [if_pos (by simpa using h), if_neg h]
    exact ⟨rfl, rfl, trivial⟩
abbrev cIsTestR : Con := { A := (.cons tTs .nil), R := (.cons .bool .nil), pre := fun x => True, F := fun x => (isTst x.1, ()) }
def cIsTestR_0  (t : Tst) (y0 : Bool) : Prop :=
  True ∧ (if ((argErr (validS t.1)) == (0 : Int)) = true then (True ∧ (True ∧ (if (bif true then (within t.2.1 (0 : Int) (3 : Int)) else false) = true then (True ∧ (True ∧ ((bif true then (within t.2.2.1 (-999 : Int) (999 : Int)) else false) = y0 ∧ True))) else (false = false ∧ (false = y0 ∧ True))))) else (false = false ∧ (false = false ∧ (false = y0 ∧ True))))
theorem cIsTestR_law (h : ∀ (t : Tst), cIsTestR.A.wf (t, ()) → cIsTestR_0  t (isTst t)) : ConOK Go.Proofs.Tryz.prog 128 cIsTestR := by
  refine lawL (Γ := [(139, cValSR), (140, cWithinR2)]) (Θ := Th) (n := 17) [] ⟨cValSR_ok, cWithinR2_ok, trivial⟩ (by kernel_rfl) th_ok mix_ok Go.Proofs.Tryz.func128 (by kernel_rfl) ?_
  intro x hw hp Λ hC
  have h0 := h x.1 hw  
  exact Eq.mpr (by kernel_rfl) h0
theorem cIsTestR_ok : ConOK Go.Proofs.Tryz.prog 128 cIsTestR := by
  refine cIsTestR_law ?_
  intro t hw
  unfold cIsTestR_0
  unfold isTst isReg isVal
  cases h : validS t.1
  · simp [argErr]
  · cases h1 : within t.2.1 0 3 <;> simp [argErr, h1]
abbrev cValTR : Con := { A := (.cons (.sl tTs) .nil), R := (.cons .int .nil), pre := fun x => True, F := fun x => (validT x.1, ()) }
def cValTR_0 (Λ1 : Int → Prop) (l : (List Tst)) (y0 : Int) : Prop :=
  if (decide ((List.length l : Int) > (8 : Int))) = true then ((3 : Int) = y0 ∧ True) else Λ1 (0 : Int)
def cValTR_1 (Λ1 : Int → Prop) (l : (List Tst)) (y0 : Int)  (i_1 : Int) : Prop :=
  if (decide (i_1 < (List.length l : Int))) = true then (idx i_1 (List.length l : Int) ∧ (True ∧ (if (!(isTst (List.getD l (Int.toNat i_1) tTs.dflt))) = true then ((1 : Int) = y0 ∧ True) else (inI (i_1 + (1 : Int)) ∧ Λ1 (i_1 + (1 : Int)))))) else ((0 : Int) = y0 ∧ True)
theorem cValTR_law (h : ∀ (l : (List Tst)), cValTR.A.wf (l, ()) → ∀ (Λ1 : Int → Prop), (∀ (i_1 : Int), cValTR_1 Λ1 l (validT l) i_1 → Λ1 i_1) → cValTR_0 Λ1 l (validT l)) : ConOK Go.Proofs.Tryz.prog 109 cValTR := by
  refine lawL (Γ := [(128, cIsTestR)]) (Θ := Th) (n := 19) [([1, 1, 0, 1, 0], ⟨[(0, false), (3, true)], []⟩)] ⟨cIsTestR_ok, trivial⟩ (by kernel_rfl) th_ok mix_ok Go.Proofs.Tryz.func109 (by kernel_rfl) ?_
  intro x hw hp Λ hC
  have h0 := h x.1 hw (fun i_1 => Λ [1, 1, 0, 1, 0] ([(0, .d false (.sl tTs) x.1), (3, .d true .int i_1)], [])) (fun i_1 hb => hC [1, 1, 0, 1, 0] ([(0, .d false (.sl tTs) x.1), (3, .d true .int i_1)], []) (Eq.mpr (by kernel_rfl) hb))
  exact Eq.mpr (by kernel_rfl) h0
theorem cValTR_ok : ConOK Go.Proofs.Tryz.prog 109 cValTR := by
  refine cValTR_law ?_
  intro l hw Λ1 h1
  unfold cValTR_0
  unfold validT
  simp only [decide_eq_true_eq]
  by_cases h : l.length > 8
  · rw [if_pos (by omega), if_pos h]; exact ⟨rfl, trivial⟩
  · rw [if_neg (by omega)]
    refine upto (n := l.length) (Q := fun i => (l.take i).all isTst = true → Λ1 i) ?_ ?_ 0 (Nat.zero_le _) rfl
    · intro ha
      rw [List.take_length] at ha
      apply h1; unfold cValTR_1; rw [if_neg (by simp)]
      unfold validT
      rw [if_neg h, ha]
      exact ⟨rfl, trivial⟩
    · intro i hi ih ha
      apply h1; unfold cValTR_1; rw [if_pos (by simpa using hi), Int.toNat_natCast]
      refine ⟨idx_nat hi, trivial, ?_⟩
      cases hv : isTst (List.getD l i tTs.dflt)
      · rw [if_pos (by rfl)]
        unfold validT
        rw [if_neg h, all_false_at (p := isTst) tTs.dflt hi hv]
        exact ⟨rfl, trivial⟩
      · rw [if_neg (by simp)]
        exact ⟨inI_succ hi (by omega), ih (all_take_next tTs.dflt hi ha hv)⟩
abbrev cTestedR : Con := { A := (.cons (.sl tL) (.cons (.sl tTs) .nil)), R := (.cons .int .nil), pre := fun x => True, F := fun x => (errT [x.1] x.2.1, ()) }
def cTestedR_0  (p : (List Lin)) (l : (List Tst)) (y0 : Int) : Prop :=
  True ∧ (if ((validP p) != (0 : Int)) = true then ((validP p) = y0 ∧ True) else (True ∧ ((validT l) = y0 ∧ True)))
theorem cTestedR_law (h : ∀ (p : (List Lin)) (l : (List Tst)), cTestedR.A.wf (p, l, ()) → cTestedR_0  p l (errT [p] l)) : ConOK Go.Proofs.Tryz.prog 144 cTestedR := by
  refine lawL (Γ := [(81, cValPR), (109, cValTR)]) (Θ := Th) (n := 13) [] ⟨cValPR_ok, cValTR_ok, trivial⟩ (by kernel_rfl) th_ok mix_ok Go.Proofs.Tryz.func144 (by kernel_rfl) ?_
  intro x hw hp Λ hC
  have h0 := h x.1 x.2.1 hw  
  exact Eq.mpr (by kernel_rfl) h0
theorem cTestedR_ok : ConOK Go.Proofs.Tryz.prog 144 cTestedR := by
  refine cTestedR_law ?_
  intro p l hw
  unfold cTestedR_0
  rw [errT_cases]
  refine ⟨trivial, ?_⟩
  by_cases e : validP p = 0
  · rw [if_neg (by simp [e]), if_pos e]; exact ⟨trivial, rfl, trivial⟩
  · rw [if_pos (by simpa using e), if_neg e]; exact ⟨rfl, trivial⟩
abbrev cMade : Con := { A := (.cons (.sl tL) (.cons (.sl .int) (.cons .int .nil))), R := (.cons .int .nil), pre := fun x => validP x.1 = 0 ∧ validS x.2.1 = true ∧ 0 ≤ x.2.2.1 ∧ x.2.2.1 ≤ 3, F := fun x => (Rg (runS x.1 x.2.1) x.2.2.1, ()) }
def cMade_0  (p : (List Lin)) (in_ : (List Int)) (out : Int) (y0 : Int) : Prop :=
  True ∧ (idx out (List.length ((if err1 p in_ = 0 then runS p in_ else [])) : Int) ∧ ((List.getD ((if err1 p in_ = 0 then runS p in_ else [])) (Int.toNat out) 0) = y0 ∧ True))
theorem cMade_law (h : ∀ (p : (List Lin)) (in_ : (List Int)) (out : Int), cMade.A.wf (p, in_, out, ()) → (validP p = 0 ∧ validS in_ = true ∧ 0 ≤ out ∧ out ≤ 3) → cMade_0  p in_ out (Rg (runS p in_) out)) : ConOK Go.Proofs.Tryz.prog 145 cMade := by
  refine lawL (Γ := [(154, cRunR)]) (Θ := Th) (n := 19) [] ⟨cRunR_ok, trivial⟩ (by kernel_rfl) th_ok mix_ok Go.Proofs.Tryz.func145 (by kernel_rfl) ?_
  intro x hw hp Λ hC
  have h0 := h x.1 x.2.1 x.2.2.1 hw hp  
  exact Eq.mpr (by kernel_rfl) h0
theorem cMade_ok : ConOK Go.Proofs.Tryz.prog 145 cMade := by
  refine cMade_law ?_
  intro p in_ out hw hp
  unfold cMade_0
  obtain ⟨p1, p2, p3, p4⟩ := hp
  have e : err1 p in_ = 0 := by unfold err1; rw [if_pos p1, p2]; rfl
  have l4 := validS_len (runS_ok (p := p) p2)
  rw [if_pos e]
  exact ⟨trivial, ⟨p3, by omega⟩, rfl, trivial⟩
abbrev cPassesR : Con := { A := (.cons (.sl tL) (.cons tTs .nil)), R := (.cons .bool (.cons .int .nil)), pre := fun x => True, F := fun x => ((errT [x.1] [x.2.1] == 0 && passT x.1 x.2.1), errT [x.1] [x.2.1], ()) }
def cPassesR_0  (p : (List Lin)) (t : Tst) (y0 : Bool) (y1 : Int) : Prop :=
  True ∧ (if ((errT [p] [t]) != (0 : Int)) = true then (false = y0 ∧ (errT [p] [t]) = y1 ∧ True) else ((validP p = 0 ∧ validS t.1 = true ∧ 0 ≤ t.2.1 ∧ t.2.1 ≤ 3) ∧ (((Rg (runS p t.1) t.2.1) == t.2.2.1) = y0 ∧ (0 : Int) = y1 ∧ True)))
theorem cPassesR_law (h : ∀ (p : (List Lin)) (t : Tst), cPassesR.A.wf (p, t, ()) → cPassesR_0  p t (errT [p] [t] == 0 && passT p t) (errT [p] [t])) : ConOK Go.Proofs.Tryz.prog 133 cPassesR := by
  refine lawL (Γ := [(145, cMade), (144, cTestedR)]) (Θ := Th) (n := 23) [] ⟨cMade_ok, cTestedR_ok, trivial⟩ (by kernel_rfl) th_ok mix_ok Go.Proofs.Tryz.func133 (by kernel_rfl) ?_
  intro x hw hp Λ hC
  have h0 := h x.1 x.2.1 hw  
  exact Eq.mpr (by kernel_rfl) h0
theorem cPassesR_ok : ConOK Go.Proofs.Tryz.prog 133 cPassesR := by
  refine cPassesR_law ?_
  intro p t hw
  unfold cPassesR_0
  refine ⟨trivial, ?_⟩
  by_cases h : errT [p] [t] = 0
  · rw [if_neg (by simp [h])]
    obtain ⟨h1, h2⟩ := errT_ok h
    obtain ⟨q1, q2, q3⟩ := isTst_iff.1 ((validT_ok h2).2 t (by simp))
    exact ⟨⟨h1, q1, q2.1, q2.2⟩, by simp [h, passT, endT], h.symm, trivial⟩
  · rw [if_pos (by simpa using h)]
    exact ⟨by simp [h], rfl, trivial⟩
end Go.Tk
/- patch.Then. -/
set_option linter.unusedSimpArgs false
set_option linter.unusedVariables false
set_option linter.unnecessarySimpa false
set_option maxRecDepth 10000
set_option maxHeartbeats 400000
namespace Go.Tk
open Go Go.RowKit
abbrev cBoth4 : Con := { A := (.cons (.sl tEd) (.cons (.sl tEd) .nil)), R := (.cons .int .nil), pre := fun x => True, F := fun x => (bothX x.1 x.2.1, ()) }
def cBoth4_0  (x : (List Edt)) (y_ : (List Edt)) (y0 : Int) : Prop :=
  True ∧ (if ((validX x) != (0 : Int)) = true then ((validX x) = y0 ∧ True) else (True ∧ ((validX y_) = y0 ∧ True)))
theorem cBoth4_law (h : ∀ (x : (List Edt)) (y_ : (List Edt)), cBoth4.A.wf (x, y_, ()) → cBoth4_0  x y_ (bothX x y_)) : ConOK Go.Proofs.Tryz.prog 69 cBoth4 := by
  refine lawL (Γ := [(19, cValX)]) (Θ := Th) (n := 13) [] ⟨cValX_ok, trivial⟩ (by kernel_rfl) th_ok mix_ok Go.Proofs.Tryz.func69 (by kernel_rfl) ?_
  intro x hw hp Λ hC
  have h0 := h x.1 x.2.1 hw  
  exact Eq.mpr (by kernel_rfl) h0
theorem cBoth4_ok : ConOK Go.Proofs.Tryz.prog 69 cBoth4 := by
  refine cBoth4_law ?_
  intro x y_ hw
  unfold cBoth4_0
  by_cases h : validX x = 0
  · refine ⟨trivial, ?_⟩
    rw [if_neg (by simp [h])]
    refine ⟨trivial, ?_, trivial⟩
    unfold bothX; rw [if_pos h]
  · refine ⟨trivial, ?_⟩
    rw [if_pos (by simp [h])]
    refine ⟨?_, trivial⟩
    unfold bothX; rw [if_neg h]
abbrev cOr4 : Con := { A := (.cons (.sl .int) .nil), R := (.cons .int .nil), pre := fun x => x.1.length ≤ 100, F := fun x => ((x.1.find? fun e' => !(e' == 0)).getD 0, ()) }
def cOr4_0 (Λ1 : Int → Prop) (vals : (List Int)) (y0 : Int) : Prop :=
  Λ1 (0 : Int)
def cOr4_1 (Λ1 : Int → Prop) (vals : (List Int)) (y0 : Int)  (t8_1 : Int) : Prop :=
  if (decide (t8_1 < (List.length vals : Int))) = true then (idx t8_1 (List.length vals : Int) ∧ (if ((List.getD vals (Int.toNat t8_1) 0) != (0 : Int)) = true then ((List.getD vals (Int.toNat t8_1) 0) = y0 ∧ True) else (inI (t8_1 + (1 : Int)) ∧ Λ1 (t8_1 + (1 : Int))))) else ((0 : Int) = y0 ∧ True)
theorem cOr4_law (h : ∀ (vals : (List Int)), cOr4.A.wf (vals, ()) → (vals.length ≤ 100) → ∀ (Λ1 : Int → Prop), (∀ (t8_1 : Int), cOr4_1 Λ1 vals ((vals.find? fun e' => !(e' == 0)).getD 0) t8_1 → Λ1 t8_1) → cOr4_0 Λ1 vals ((vals.find? fun e' => !(e' == 0)).getD 0)) : ConOK Go.Proofs.Tryz.prog 79 cOr4 := by
  refine lawL (Γ := []) (Θ := Th) (n := 18) [([1, 1, 0, 1, 0], ⟨[(3, true), (6, false), (7, true), (8, true)], []⟩)] trivial (by kernel_rfl) th_ok mix_ok Go.Proofs.Tryz.func79 (by kernel_rfl) ?_
  intro x hw hp Λ hC
  have h0 := h x.1 hw hp (fun t8_1 => Λ [1, 1, 0, 1, 0] ([(3, .d true .int 0), (6, .d false (.sl .int) x.1), (7, .d true .int (List.length x.1 : Int)), (8, .d true .int t8_1)], [])) (fun t8_1 hb => hC [1, 1, 0, 1, 0] ([(3, .d true .int 0), (6, .d false (.sl .int) x.1), (7, .d true .int (List.length x.1 : Int)), (8, .d true .int t8_1)], []) (Eq.mpr (by kernel_rfl) hb))
  exact Eq.mpr (by kernel_rfl) h0
theorem cOr4_ok : ConOK Go.Proofs.Tryz.prog 79 cOr4 := by
  refine cOr4_law ?_
  intro vals hw hp Λ1 h1
  unfold cOr4_0
  refine upto (n := vals.length) (Q := fun i => (vals.take i).any (fun e => !(e == 0)) = false → Λ1 (i : Int)) ?_ ?_ 0 (Nat.zero_le _) rfl
  · intro ha
    rw [List.take_length] at ha
    apply h1; unfold cOr4_1
    rw [if_neg (by simp)]
    refine ⟨?_, trivial⟩
    have : vals.find? (fun e => !(e == 0)) = none := by
      rw [List.find?_eq_none]
      intro x hx
      exact Bool.eq_false_iff.1 (List.any_eq_false.1 ha x hx |> fun h => Bool.eq_false_iff.2 h)
    rw [this]; rfl
  · intro i hi ih ha
    apply h1; unfold cOr4_1
    rw [if_pos (by simpa using hi), Int.toNat_natCast]
    refine ⟨idx_nat hi, ?_⟩
    cases hv : (!(List.getD vals i 0 == 0))
    · rw [if_neg (by simpa using hv)]
      exact ⟨by unfold inI; omega, ih (any_take_next (p := fun e => !(e == 0)) 0 hi ha hv)⟩
    · rw [if_pos (by simpa using hv)]
      refine ⟨?_, trivial⟩
      have : vals.find? (fun e => !(e == 0)) = some (vals.getD i 0) := by
        rw [List.find?_eq_some_iff_getElem]
        refine ⟨hv, i, hi, ?_, fun j hj => ?_⟩
        · rw [List.getD_eq_getElem?_getD, List.getElem?_eq_getElem hi]; rfl
        · have := List.any_eq_false.1 ha vals[j] (List.mem_take_iff_getElem.2 ⟨j, by omega, rfl⟩)
          simpa using this
      rw [this]; rfl
theorem both_call {w : World} {S : Nat → Prop} {x y : List Edt} {xv yv : Value} (hx : (reps Go.Proofs.Tryz.prog tX).c w S x [xv]) (hy : (reps Go.Proofs.Tryz.prog tX).c w S y [yv]) :
    Calls Go.Proofs.Tryz.prog 69 #[xv, yv] w fun e w' => e = .returned (.int .i64 (bothX x y)) ∧ inI (bothX x y) ∧ Below w.heap.size w w' := by
  refine ((cBoth4_ok.1 rfl) w S (x, y, ()) [xv, yv] ⟨xv, [yv], [], [], rfl, rfl, ⟨rfl, [xv], rfl, hx⟩, yv, [], [], [], rfl, rfl, ⟨rfl, [yv], rfl, hy⟩, rfl, rfl⟩ trivial).mono ?_
  rintro e w' ⟨rs, bs, rfl, ⟨u, us, _, _, rfl, _, ⟨_, cs, rfl, rfl, hi⟩, rfl, _⟩, _, _, hb⟩
  exact ⟨rfl, hi, hb⟩
theorem lim_in (E : List (Int × Lin)) : inI (limN E) := by unfold limN inI; split <;> omega
/-- An own slice and an error. -/
theorem ownE_post {w W : World} {xs : List Edt} {n : Int} {v : Value} (h : ownRes w xs v W) (hi : inI n) (hb : Below w.heap.size w W) :
    ∃ rs, Ending.returned (.tuple #[v, .int .i64 n]) = .returned (mkRes rs) ∧ ∃ bs, (reps Go.Proofs.Tryz.prog (.cons (.osl tEd) (.cons .int .nil))).v W (fun b => w.heap.size ≤ b ∧ ¬ b ∈ bs) (xs, n, ()) rs bs ∧ bs.Nodup ∧ (∀ b ∈ bs, w.heap.size ≤ b) ∧ Below w.heap.size w W := by
  obtain ⟨ob, hown, hob⟩ := h
  refine ⟨[v, .int .i64 n], rfl, (ob.map (·.1)).toList, ⟨v, [.int .i64 n], (ob.map (·.1)).toList, [], rfl, (List.append_nil _).symm, ⟨ob, ?_, rfl⟩, .int .i64 n, [], [], [], rfl, rfl, ⟨rfl, [.int .i64 n], rfl, rfl, hi⟩, rfl, rfl⟩, by cases ob <;> simp, hob, hb⟩
  rcases hown with h | ⟨b, off, cap, cur, e, g1, g2, g3, g4, g5, g6, g7, g8⟩
  · exact .inl h
  · exact .inr ⟨b, off, cap, cur, e, g1, g2, g3, g4, g5, g6, g7, repL_mono (fun _ _ h => c_mono _ h fun _ _ h => h) _ _ g8⟩
theorem own_slice {w W : World} {xs : List Edt} {v : Value} (h : ownRes w xs v W) : ∃ ao n c, v = .slice ao n c := by
  obtain ⟨ob, h | ⟨g, off, cap, cur, e, _, h, _⟩, _⟩ := h
  · exact ⟨_, _, _, h.1⟩
  · exact ⟨_, _, _, h⟩
theorem ownRes_base {w w1 W : World} {xs : List Edt} {v : Value} (h : ownRes w1 xs v W) (hs : w.heap.size ≤ w1.heap.size) : ownRes w xs v W := by
  obtain ⟨ob, hown, hob⟩ := h
  refine ⟨ob, ?_, fun b hb => Nat.le_trans hs (hob b hb)⟩
  rcases hown with h | ⟨b, off, cap, cur, e, g1, g2, g3, g4, g5, g6, g7, g8⟩
  · exact .inl h
  · exact .inr ⟨b, off, cap, cur, e, g1, g2, g3, g4, g5, g6, g7, repL_mono (fun _ _ h => c_mono _ h fun _ _ h => ⟨Nat.le_trans hs h.1, h.2⟩) _ _ g8⟩
def thenE (x y : List Edt) : List (Int × Lin) := mergeE (readE x) (readE y)
abbrev cThen4 : Con := { A := (.cons (.sl tEd) (.cons (.sl tEd) .nil)), R := (.cons (.osl tEd) (.cons .int .nil)), pre := fun x => True, F := fun x => ((if bothX x.1 x.2.1 = 0 then limE (thenE x.1 x.2.1) else []), (if bothX x.1 x.2.1 = 0 then limN (thenE x.1 x.2.1) else bothX x.1 x.2.1), ()) }
theorem cThen4_ok : ConOK Go.Proofs.Tryz.prog 31 cThen4 := by
  refine ConOK.f ?_ rfl
  rintro w S ⟨x, y, ⟨⟩⟩ vs hv _
  change List Edt at x
  change List Edt at y
  obtain ⟨xv, vs1, b1, b2, rfl, e2, ⟨_, xc, ex, hxr⟩, yv, vs2, b3, b4, rfl, e3, ⟨_, yc, ey, hyr⟩, rfl, _⟩ := hv
  have hxr0 := hxr
  have hyr0 := hyr
  obtain ⟨xv', exc, hxs⟩ := hxr
  obtain ⟨yv', eyc, hys⟩ := hyr
  subst exc
  subst eyc
  obtain rfl : xv = xv' := ex
  obtain rfl : yv = yv' := ey
  have hxr : (reps Go.Proofs.Tryz.prog tX).c w S x [xv] := hxr0
  have hyr : (reps Go.Proofs.Tryz.prog tX).c w S y [yv] := hyr0
  have keep : ∀ {z : List Edt} {zv : Value} {W : World}, (reps Go.Proofs.Tryz.prog tX).c w S z [zv] → Below w.heap.size w W → (reps Go.Proofs.Tryz.prog tX).c W S z [zv] := fun h hb => c_keep tX h ⟨hb.size, fun b hb' _ => hb.block b hb'.lt⟩ fun _ _ h => h
  show Calls _ _ #[xv, yv] w _
  go_enter Go.Proofs.Tryz.func31, Go.Proofs.Tryz.ntmps31
  refine (wpIn_wide (n := 0)).1 ?_
  show Code.wpIn (Fw none) 0 _ _ _ _ _
  refine wpIn_seq (ql_region rfl ?_)
  simp [ql, go_sem, Exit.then]
  refine wpIn_seq (wpIn_seq (ql_region rfl ?_))
  simp [ql, go_sem, Exit.then]
  refine (both_call hxr hyr).mono ?_
  rintro e W1 ⟨rfl, hiB, hb1⟩
  simp [ql, go_sem, Exit.then]
  refine wpIn_seq (ql_region rfl ?_)
  simp [ql, go_sem, Exit.then]
  by_cases h0 : bothX x y = 0
  · refine wpIn_cond_false (by simp [Act.eval, h0]) (wpIn_skip ?_)
    simp only [Exit.then]
    obtain ⟨hvx, hvy⟩ := bothX_ok h0
    have hlx := (validX_ok hvx).1
    have hly := (validX_ok hvy).1
    have hl1 : (readE x).length ≤ 4 := by simp [readE]; omega
    have hl2 : (readE y).length ≤ 4 := by simp [readE]; omega
    refine wpIn_seq (ql_region rfl ?_)
    simp [ql, go_sem, Exit.then]
    refine (read_call (keep hxr hb1) (by omega) (validX_asc hvx)).mono ?_
    rintro e W2 ⟨rfl, hT1, hb2⟩
    simp [ql, go_sem, Exit.then]
    have hb02 := hb1.trans (hb2.mono hb1.size)
    refine wpIn_seq (ql_region rfl ?_)
    simp [ql, go_sem, Exit.then]
    refine (read_call (keep hyr hb02) (by omega) (validX_asc hvy)).mono ?_
    rintro e W3 ⟨rfl, hT2, hb3⟩
    simp [ql, go_sem, Exit.then]
    have hlt1 := hT1.lt
    refine (copy_call (hT1.kept (hb3.block _ hlt1)) hT2 (by omega) (by omega) (by omega)).mono ?_
    rintro e W4 ⟨rfl, hT4, hg4⟩
    simp [ql, go_sem, Exit.then]
    refine wpIn_seq (ql_region rfl ?_)
    simp [ql, go_sem, Exit.then]
    have hml := merge_len (readE y) (readE x)
    refine (limited_call hT4 (by omega)).mono ?_
    rintro e W5 ⟨v, rfl, hown, hb5⟩
    obtain ⟨ao, nn, c, rfl⟩ := own_slice hown
    simp [ql, go_sem, Exit.then]
    refine wpIn_ret ?_
    have s1 := hb1.size
    have s2 := hb2.size
    have s3 := hb3.size
    have s4 := hg4.size
    have hB : Below w.heap.size w W5 := by
      have h3 := hb02.trans (hb3.mono (by omega))
      have h4 : Below w.heap.size w W4 := ⟨hg4.os.trans h3.os, hg4.tape.trans h3.tape, hg4.output.trans h3.output, by omega, fun i hi => (hg4.block i (by omega) (fun e => by have := Option.some.inj e; omega)).trans (h3.block i hi)⟩
      exact h4.trans (hb5.mono (by omega))
    have hown2 := ownRes_base (w := w) hown (by omega)
    have hp := ownE_post (n := limN (thenE x y)) hown2 (lim_in _) hB
    refine ⟨rfl, .tuple #[.slice ao nn c, .int .i64 (limN (thenE x y))], ?_, ?_⟩
    · simp [results, Go.Proofs.Tryz.results31, go_sem, limN, thenE]
    · dsimp only [cThen4]
      rw [if_pos h0, if_pos h0]
      exact hp
  · refine wpIn_cond_true (by simp [Act.eval, h0]) (wpIn_seq (ql_region rfl ?_))
    simp [ql, go_sem, Exit.then]
    refine wpIn_ret ?_
    refine ⟨rfl, .tuple #[.slice none 0 0, .int .i64 (bothX x y)], ?_, ?_⟩
    · simp [results, Go.Proofs.Tryz.results31, go_sem]
    · dsimp only [cThen4]
      rw [if_neg h0, if_neg h0]
      exact ownE_post (ownRes_nil _ _) hiB hb1
end Go.Tk
/- patch.Merge. -/
set_option linter.unusedSimpArgs false
set_option linter.unusedVariables false
set_option linter.unnecessarySimpa false
set_option maxRecDepth 10000
set_option maxHeartbeats 400000
namespace Go.Tk
open Go Go.RowKit
def clashE (E : List (Int × Lin)) (e : Edt) : Bool := match lookE E e.1 with | some l => !(decide (l = e.2.1)) | none => false
def mergeN (x y : List Edt) : Int := if bothX x y = 0 then if y.any (clashE (readE x)) then 5 else limN (thenE x y) else bothX x y
def mergeX (x y : List Edt) : List Edt := if bothX x y = 0 then if y.any (clashE (readE x)) then [] else limE (thenE x y) else []
/-! ### Regions with guards, by hand -/
def qlg (P : Program) (ops : Array Oper) : List Oper → (Act → World → Prop) → (Exit → Act → World → Prop) → Act → World → Prop
  | [], K, _, a, w => K a w
  | o :: l, K, Q, a, w => if Region.wanted o (yielded ops a.tmps) = true then o.upon P a (fun a' w' => qlg P ops l K Q a' w') Q ((execOp a.eval o).run P w) else qlg P ops l K Q (a.put o.dst undef) w
theorem qlg_ops {P : Program} {ops : Array Oper} {Q : Exit → Act → World → Prop} : ∀ (l : List Oper) (k : Nat) (a : Act) (w : World), (∀ j, l[j]? = ops[k + j]?) → qlg P ops l (Q .normal) Q a w →
    wpOpsIn (Fw none) 0 P ops Q (List.range' k l.length) a w
  | [], k, a, w, _, h => by
    have h : Q .normal a w := h
    simpa [wpOpsIn] using h
  | o :: l, k, a, w, hl, h => by
    rw [List.length_cons, List.range'_succ, wpOpsIn_cons]
    have ho : ops[k]? = some o := by simpa using (hl 0).symm
    have hl' : ∀ j, l[j]? = ops[k + 1 + j]? := fun j => by have := hl (j + 1); simpa [Nat.add_assoc, Nat.add_comm 1 j] using this
    unfold wpOpIn
    rw [ho]
    simp only [qlg] at h
    split at h
    · rename_i hw
      simp only [hw, if_true]
      refine ⟨fun _ _ => trivial, ?_⟩
      show Oper.uponIn (Fw none) 0 P o a _ Q ((o.semAt none a.eval).run P w)
      rw [Oper.semAt_none]
      exact upon_in (ql_mono (fun a' w' h' => qlg_ops l (k + 1) a' w' hl' h') h)
    · rename_i hw
      simp only [hw]
      exact ⟨fun _ _ => trivial, qlg_ops l (k + 1) _ w hl' h⟩
theorem qlg_region {P : Program} {ops : Array Oper} {id : Nat} {Q : Exit → Act → World → Prop} {a : Act} {w : World} (h : qlg P ops ops.toList (Q .normal) Q a w) : (Code.region id ops false).wpIn (Fw none) 0 P Q a w := by
  refine wpIn_region ?_
  have := qlg_ops (P := P) (ops := ops) (Q := Q) ops.toList 0 a w (by simp) h
  simpa [List.range_eq_range'] using this
theorem eq_ln (l m : Lin) (hl : inL l) (hm : inL m) (W : World) : (Op.equal 32 (.agg #[.int .i64 l.1, .int .i64 l.2.1, .int .i64 l.2.2.1, .int .i64 l.2.2.2.1]) (.agg #[.int .i64 m.1, .int .i64 m.2.1, .int .i64 m.2.2.1, .int .i64 m.2.2.2.1])).run Go.Proofs.Tryz.prog W = Result.ok (decide (l = m)) W := by
  have h := eq_run (P := Go.Proofs.Tryz.prog) (w := W) (S := fun _ => True) (S' := fun _ => True) tL 10000 32 l m _ _ rfl (by decide) ((tyB_ok Go.Proofs.Tryz.prog tL).1 32 (by kernel_rfl)) (ln_rep (W := W) hl) (ln_rep (W := W) hm)
  have e : tL.eqB l m = decide (l = m) := by
    rw [Bool.eq_iff_iff, eqB_iff rfl, decide_eq_true_eq]
  rw [e] at h
  exact h
abbrev cMerge4 : Con := { A := (.cons (.sl tEd) (.cons (.sl tEd) .nil)), R := (.cons (.osl tEd) (.cons .int .nil)), pre := fun x => True, F := fun x => (mergeX x.1 x.2.1, mergeN x.1 x.2.1, ()) }
theorem cMerge4_ok : ConOK Go.Proofs.Tryz.prog 29 cMerge4 := by
  refine ConOK.f ?_ rfl
  rintro w S ⟨x, y, ⟨⟩⟩ vs hv _
  change List Edt at x
  change List Edt at y
  obtain ⟨xv, vs1, b1, b2, rfl, e2, ⟨_, xc, ex, hxr⟩, yv, vs2, b3, b4, rfl, e3, ⟨_, yc, ey, hyr⟩, rfl, _⟩ := hv
  have hxr0 := hxr
  have hyr0 := hyr
  obtain ⟨xv', exc, hxs⟩ := hxr
  obtain ⟨yv', eyc, hys⟩ := hyr
  subst exc
  subst eyc
  obtain rfl : xv = xv' := ex
  obtain rfl : yv = yv' := ey
  have hxr : (reps Go.Proofs.Tryz.prog tX).c w S x [xv] := hxr0
  have hyr : (reps Go.Proofs.Tryz.prog tX).c w S y [yv] := hyr0
  have keep : ∀ {z : List Edt} {zv : Value} {W : World}, (reps Go.Proofs.Tryz.prog tX).c w S z [zv] → Below w.heap.size w W → (reps Go.Proofs.Tryz.prog tX).c W S z [zv] := fun h hb => c_keep tX h ⟨hb.size, fun b hb' _ => hb.block b hb'.lt⟩ fun _ _ h => h
  show Calls _ _ #[xv, yv] w _
  go_enter Go.Proofs.Tryz.func29, Go.Proofs.Tryz.ntmps29
  refine (wpIn_wide (n := 0)).1 ?_
  show Code.wpIn (Fw none) 0 _ _ _ _ _
  refine wpIn_seq (ql_region rfl ?_)
  simp [ql, go_sem, Exit.then]
  refine wpIn_seq (wpIn_seq (ql_region rfl ?_))
  simp [ql, go_sem, Exit.then]
  refine (both_call hxr hyr).mono ?_
  rintro e W1 ⟨rfl, hiB, hb1⟩
  simp [ql, go_sem, Exit.then]
  refine wpIn_seq (ql_region rfl ?_)
  simp [ql, go_sem, Exit.then]
  by_cases h0 : bothX x y = 0
  · refine wpIn_cond_false (by simp [Act.eval, h0]) (wpIn_skip ?_)
    simp only [Exit.then]
    obtain ⟨hvx, hvy⟩ := bothX_ok h0
    have hlx := (validX_ok hvx).1
    have hly := (validX_ok hvy).1
    have hl1 : (readE x).length ≤ 4 := by simp [readE]; omega
    have hl2 : (readE y).length ≤ 4 := by simp [readE]; omega
    refine wpIn_seq (ql_region rfl ?_)
    simp [ql, go_sem, Exit.then]
    refine (read_call (keep hxr hb1) (by omega) (validX_asc hvx)).mono ?_
    rintro e W2 ⟨rfl, hT1, hb2⟩
    simp [ql, go_sem, Exit.then]
    have hb02 := hb1.trans (hb2.mono hb1.size)
    obtain ⟨ao, cap, rfl, hlen, hy, hld⟩ := ed_load hyr
    refine wpIn_seq (wpIn_seq (ql_region rfl ?_))
    simp [ql, go_sem, Exit.then]
    refine wpIn_block (wp_loopAt ?_)
    have hb2s := hb02.size
    have hin1 : ∀ m : Nat, m < y.length → inE (y.getD m tEd.dflt) := fun m hm => hy _ (mem_getD hm)
    obtain ⟨A, hA⟩ : ∃ A : Nat → Act → World → Prop, A = fun m a W => ∃ x0 x2 x3 x4 x5 x6 x8 x9 x10 x11 x12 x13 x14 x15 x16 x17 x18 x19 x23 x24 x25 x26 x27 x28 x29 x30 x31 x32 x33 x34 x35 x36 x37 x38 x39 x40 x41 x42 x43 x44 x45 x46 x47 x48 : Value, a = ⟨#[x0, .slice ao y.length cap, x2, x3, x4, x5, x6, .map (some W1.heap.size), x8, x9, x10, x11, x12, x13, x14, x15, x16, x17, x18, x19, .slice ao y.length cap, .int .i64 y.length, .int .i64 m, x23, x24, x25, x26, x27, x28, x29, x30, x31, x32, x33, x34, x35, x36, x37, x38, x39, x40, x41, x42, x43, x44, x45, x46, x47, x48], []⟩ ∧ ownsT W W1.heap.size (readE x) ∧ Below w.heap.size w W ∧ (y.take m).any (clashE (readE x)) = false := ⟨_, rfl⟩
    refine loop_upX (n := y.length) A ?_ ?_ 0 (by omega) _ _ (by rw [hA]; exact ⟨_, _, _, _, _, _, _, _, _, _, _, _, _, _, _, _, _, _, _, _, _, _, _, _, _, _, _, _, _, _, _, _, _, _, _, _, _, _, _, _, _, _, _, _, rfl, hT1, hb02, rfl⟩)
    · intro a W hh
      rw [hA] at hh
      obtain ⟨x0, x2, x3, x4, x5, x6, x8, x9, x10, x11, x12, x13, x14, x15, x16, x17, x18, x19, x23, x24, x25, x26, x27, x28, x29, x30, x31, x32, x33, x34, x35, x36, x37, x38, x39, x40, x41, x42, x43, x44, x45, x46, x47, x48, rfl, hT, hb, hcl⟩ := hh
      rw [List.take_length] at hcl
      refine wpIn_seq (ql_region rfl ?_)
      simp [ql, go_sem, Exit.then]
      refine wpIn_seq (wpIn_cond_false (by simp [Act.eval]) (wpIn_exit ?_))
      simp only [Exit.then, Exit.inBlock, if_true]
      refine wpIn_seq (ql_region rfl ?_)
      simp [ql, go_sem, Exit.then]
      refine (read_call (keep hyr hb) (by omega) (validX_asc hvy)).mono ?_
      rintro e W3 ⟨rfl, hT2, hb3⟩
      simp [ql, go_sem, Exit.then]
      have hlt1 := hT.lt
      refine (copy_call (hT.kept (hb3.block _ hlt1)) hT2 (by omega) (by omega) (by omega)).mono ?_
      rintro e W4 ⟨rfl, hT4, hg4⟩
      simp [ql, go_sem, Exit.then]
      refine wpIn_seq (ql_region rfl ?_)
      simp [ql, go_sem, Exit.then]
      have hml := merge_len (readE y) (readE x)
      refine (limited_call hT4 (by omega)).mono ?_
      rintro e W5 ⟨v, rfl, hown, hb5⟩
      obtain ⟨ao2, nn, c, rfl⟩ := own_slice hown
      simp [ql, go_sem, Exit.then]
      refine wpIn_ret ?_
      have s1 := hb1.size
      have s2 := hb.size
      have s3 := hb3.size
      have s4 := hg4.size
      have hB : Below w.heap.size w W5 := by
        have h3 := hb.trans (hb3.mono (by omega))
        have h4 : Below w.heap.size w W4 := ⟨hg4.os.trans h3.os, hg4.tape.trans h3.tape, hg4.output.trans h3.output, by omega, fun i hi => (hg4.block i (by omega) (fun e => by have := Option.some.inj e; omega)).trans (h3.block i hi)⟩
        exact h4.trans (hb5.mono (by omega))
      have hown2 := ownRes_base (w := w) hown (by omega)
      have hp := ownE_post (n := limN (thenE x y)) hown2 (lim_in _) hB
      refine ⟨rfl, .tuple #[.slice ao2 nn c, .int .i64 (limN (thenE x y))], ?_, ?_⟩
      · simp [results, Go.Proofs.Tryz.results29, go_sem, limN, thenE]
      · dsimp only [cMerge4]
        unfold mergeX mergeN
        rw [if_pos h0, if_pos h0, hcl]
        exact hp
    · intro m a W hm hh
      rw [hA] at hh
      obtain ⟨x0, x2, x3, x4, x5, x6, x8, x9, x10, x11, x12, x13, x14, x15, x16, x17, x18, x19, x23, x24, x25, x26, x27, x28, x29, x30, x31, x32, x33, x34, x35, x36, x37, x38, x39, x40, x41, x42, x43, x44, x45, x46, x47, x48, rfl, hT, hb, hcl⟩ := hh
      obtain ⟨bx, off, rfl, hbx, hix, hlx⟩ := hld (by intro e; rw [e] at hm; simp at hm)
      have hix := hix m hm
      obtain ⟨e, he, c0, c1, c2, c3, c4⟩ := hlx m hm W (hb.block bx hbx)
      have hin : inE e := by rw [he]; exact hin1 m hm
      clear hld hlx
      refine wpIn_seq (ql_region rfl ?_)
      simp [ql, go_sem, Exit.then]
      refine wpIn_seq (wpIn_cond_true (by simp [Act.eval]; omega) (wpIn_skip ?_))
      simp only [Exit.then]
      refine wpIn_seq (wpIn_block (wpIn_seq (ql_region rfl ?_)))
      simp [ql, go_sem, Exit.then, hix, c0, c1, c2, c3, c4]
      have hlook := (hT.kept (Below.heap_alloc W (.cells #[.int .i64 e.1, .int .i64 e.2.1.1, .int .i64 e.2.1.2.1, .int .i64 e.2.1.2.2.1, .int .i64 e.2.1.2.2.2.1] 61) _ hT.lt)).look_ok hin.1
      simp only [lnV] at hlook
      refine wpIn_seq (ql_region rfl ?_)
      simp [ql, go_sem, Exit.then, Exit.inBlock, hlook]
      have hstep : (y.take (m + 1)).any (clashE (readE x)) = clashE (readE x) e := by
        rw [take_snoc tEd.dflt hm, ← he, List.any_append, hcl]; simp
      have hbn : Below w.heap.size w ((W.alloc (.cells #[.int .i64 e.1, .int .i64 e.2.1.1, .int .i64 e.2.1.2.1, .int .i64 e.2.1.2.2.1, .int .i64 e.2.1.2.2.2.1] 61)).alloc (.cells #[.int .i64 ((lookE (readE x) e.1).getD zL).1, .int .i64 ((lookE (readE x) e.1).getD zL).2.1, .int .i64 ((lookE (readE x) e.1).getD zL).2.2.1, .int .i64 ((lookE (readE x) e.1).getD zL).2.2.2.1] 32)) := (hb.alloc hb.size _).alloc (hb.alloc hb.size _).size _
      cases hlk : lookE (readE x) e.1 with
      | none =>
        rw [hlk] at hbn
        have hc : clashE (readE x) e = false := by unfold clashE; rw [hlk]
        refine wpIn_seq (qlg_region ?_)
        simp [qlg, Region.wanted, yielded, go_sem, Exit.then]
        refine wpIn_cond_false (by simp [Act.eval]) (wpIn_skip ?_)
        simp only [Exit.then, Exit.inBlock]
        refine ql_region rfl ?_
        simp [ql, go_sem, Exit.then, Exit.inBlock]
        rw [show IntKind.i64.wrap ((m : Int) + 1) = ((m + 1 : Nat) : Int) from wrap_in (by unfold inI; omega), hA]
        exact ⟨_, _, _, _, _, _, _, _, _, _, _, _, _, _, _, _, _, _, _, _, _, _, _, _, _, _, _, _, _, _, _, _, _, _, _, _, _, _, _, _, _, _, _, _, rfl, (hT.kept (Below.heap_alloc W _ _ hT.lt)).kept (Below.heap_alloc _ _ _ (Nat.lt_of_lt_of_le hT.lt ((Below.refl _ W).alloc (Nat.le_refl _) _).size)), hbn, by rw [hstep]; exact hc⟩
      | some l =>
        rw [hlk] at hbn
        have hlin : inL l := (hT.ok _ (look_in hlk)).2
        have heq := eq_ln l e.2.1 hlin hin.2
        have hty : (tys Go.Proofs.Tryz.prog tL).ty 32 := (tyB_ok Go.Proofs.Tryz.prog tL).1 32 (by kernel_rfl)
        have hgd := fun W : World => eqGuard_agg (P := Go.Proofs.Tryz.prog) (w := W) .neq 32 (.tmp 35) (.tmp 37) (hty.2.2 rfl rfl).2 #[.int .i64 l.1, .int .i64 l.2.1, .int .i64 l.2.2.1, .int .i64 l.2.2.2.1] #[.int .i64 e.2.1.1, .int .i64 e.2.1.2.1, .int .i64 e.2.1.2.2.1, .int .i64 e.2.1.2.2.2.1]
        refine wpIn_seq (qlg_region ?_)
        simp [qlg, Region.wanted, yielded, go_sem, Exit.then, heq, hgd, binOp, c0, c1, c2, c3, c4]
        by_cases hle : l = e.2.1
        · have hc : clashE (readE x) e = false := by unfold clashE; rw [hlk]; simp [hle]
          refine wpIn_cond_false (by simp [Act.eval, hle]) (wpIn_skip ?_)
          simp only [Exit.then, Exit.inBlock]
          refine ql_region rfl ?_
          simp [ql, go_sem, Exit.then, Exit.inBlock]
          rw [show IntKind.i64.wrap ((m : Int) + 1) = ((m + 1 : Nat) : Int) from wrap_in (by unfold inI; omega), hA]
          exact ⟨_, _, _, _, _, _, _, _, _, _, _, _, _, _, _, _, _, _, _, _, _, _, _, _, _, _, _, _, _, _, _, _, _, _, _, _, _, _, _, _, _, _, _, _, rfl, (hT.kept (Below.heap_alloc W _ _ hT.lt)).kept (Below.heap_alloc _ _ _ (Nat.lt_of_lt_of_le hT.lt ((Below.refl _ W).alloc (Nat.le_refl _) _).size)), hbn, by rw [hstep]; exact hc⟩
        · have hc : y.any (clashE (readE x)) = true := by
            rw [List.any_eq_true]
            refine ⟨e, by rw [he]; exact mem_getD hm, ?_⟩
            unfold clashE; rw [hlk]; simp [hle]
          refine wpIn_cond_true (by simp [Act.eval, hle]) (wpIn_seq (ql_region rfl ?_))
          simp [ql, go_sem, Exit.then]
          refine wpIn_ret ?_
          refine ⟨rfl, .tuple #[.slice none 0 0, .int .i64 5], ?_, ?_⟩
          · simp [results, Go.Proofs.Tryz.results29, go_sem]
          · dsimp only [cMerge4]
            unfold mergeX mergeN
            rw [if_pos h0, if_pos h0, hc]
            exact ownE_post (ownRes_nil _ _) (by unfold inI; omega) hbn
  · refine wpIn_cond_true (by simp [Act.eval, h0]) (wpIn_seq (ql_region rfl ?_))
    simp [ql, go_sem, Exit.then]
    refine wpIn_ret ?_
    refine ⟨rfl, .tuple #[.slice none 0 0, .int .i64 (bothX x y)], ?_, ?_⟩
    · simp [results, Go.Proofs.Tryz.results29, go_sem]
    · dsimp only [cMerge4]
      unfold mergeX mergeN
      rw [if_neg h0, if_neg h0]
      exact ownE_post (ownRes_nil _ _) hiB hb1
end Go.Tk
/- patch.Diff. -/
set_option linter.unusedSimpArgs false
set_option linter.unusedVariables false
set_option linter.unnecessarySimpa false
set_option maxRecDepth 10000
set_option maxHeartbeats 400000
namespace Go.Tk
open Go Go.RowKit
def diffE (p q : List Lin) (n : Nat) : List (Int × Lin) := ((List.range n).filter fun i => !(decide (p.getD i tL.dflt = q.getD i tL.dflt))).map fun (i : Nat) => ((i : Int), q.getD i tL.dflt)
theorem diffE_succ (p q : List Lin) (n : Nat) : diffE p q (n + 1) = if p.getD n tL.dflt = q.getD n tL.dflt then diffE p q n else diffE p q n ++ [((n : Int), q.getD n tL.dflt)] := by
  unfold diffE
  rw [List.range_succ, List.filter_append, List.map_append]
  by_cases h : p.getD n tL.dflt = q.getD n tL.dflt
  · rw [if_pos h, List.filter_cons_of_neg (by rw [decide_eq_true h]; decide), List.filter_nil, List.map_nil, List.append_nil]
  · rw [if_neg h, List.filter_cons_of_pos (by rw [decide_eq_false h]; rfl), List.filter_nil]; rfl
theorem diffE_lt {p q : List Lin} {n : Nat} : ∀ e ∈ diffE p q n, e.1 < (n : Int) := by
  intro e he
  unfold diffE at he
  obtain ⟨i, hi, rfl⟩ := List.mem_map.1 he
  have := List.mem_range.1 (List.mem_filter.1 hi).1
  show (i : Int) < n
  omega
theorem diffE_put {p q : List Lin} {n : Nat} (h : ¬ p.getD n tL.dflt = q.getD n tL.dflt) : putE (diffE p q n) (n : Int) (q.getD n tL.dflt) = diffE p q (n + 1) := by
  rw [diffE_succ, if_neg h]
  exact putE_end fun e he => diffE_lt e he
theorem diffE_len (p q : List Lin) (n : Nat) : (diffE p q n).length ≤ n := by
  unfold diffE
  rw [List.length_map]
  exact Nat.le_trans (List.length_filter_le _ _) (by simp)
theorem heap_self (w : World) (o : Obj) : (w.alloc o).heap[w.heap.size]? = some o := by show (w.heap.push o)[w.heap.size]? = some o; simp
theorem arr46 (x : Array Value) (h : x.size = 46) : ∃ x0 x1 x2 x3 x4 x5 x6 x7 x8 x9 x10 x11 x12 x13 x14 x15 x16 x17 x18 x19 x20 x21 x22 x23 x24 x25 x26 x27 x28 x29 x30 x31 x32 x33 x34 x35 x36 x37 x38 x39 x40 x41 x42 x43 x44 x45 : Value, x = #[x0, x1, x2, x3, x4, x5, x6, x7, x8, x9, x10, x11, x12, x13, x14, x15, x16, x17, x18, x19, x20, x21, x22, x23, x24, x25, x26, x27, x28, x29, x30, x31, x32, x33, x34, x35, x36, x37, x38, x39, x40, x41, x42, x43, x44, x45] := by
  obtain ⟨l⟩ := x
  match l, h with
  | x0 :: x1 :: x2 :: x3 :: x4 :: x5 :: x6 :: x7 :: x8 :: x9 :: x10 :: x11 :: x12 :: x13 :: x14 :: x15 :: x16 :: x17 :: x18 :: x19 :: x20 :: x21 :: x22 :: x23 :: x24 :: x25 :: x26 :: x27 :: x28 :: x29 :: x30 :: x31 :: x32 :: x33 :: x34 :: x35 :: x36 :: x37 :: x38 :: x39 :: x40 :: x41 :: x42 :: x43 :: x44 :: x45 :: [], _ => exact ⟨_, _, _, _, _, _, _, _, _, _, _, _, _, _, _, _, _, _, _, _, _, _, _, _, _, _, _, _, _, _, _, _, _, _, _, _, _, _, _, _, _, _, _, _, _, _, rfl⟩
def kvL (L : List (Nat × Value)) : Nat → Option Value := fun t => lk L t
theorem kvL_no {L : List (Nat × Value)} {t : Nat} (h : t ∉ L.map (·.1)) : kvL L t = none := by
  cases e : lk L t with
  | none => exact e
  | some v => exact absurd (lk_key e) h
theorem lk_in {α : Type _} : ∀ {E : List (Nat × α)} {t : Nat} {U : α}, lk E t = some U → (t, U) ∈ E
  | [], _, _, h => by cases h
  | (k, v) :: E, t, U, h => by
    simp only [lk] at h
    split at h
    · rename_i e
      have : k = t := Nat.eq_of_beq_eq_true e
      cases h
      simp [this]
    · simp [lk_in h]
theorem ln_cs {w : World} {S : Nat → Prop} {l : Lin} {cs : List Value} (h : (reps Go.Proofs.Tryz.prog tL).c w S l cs) : cs = [.int .i64 l.1, .int .i64 l.2.1, .int .i64 l.2.2.1, .int .i64 l.2.2.2.1] ∧ inL l := by
  obtain ⟨d1, d2, rfl, ⟨rfl, h2⟩, d3, d4, rfl, ⟨rfl, h3⟩, d5, d6, rfl, ⟨rfl, h4⟩, d7, d8, rfl, ⟨rfl, h5⟩, h6⟩ := h
  have e8 : d8 = [] := h6
  subst e8
  exact ⟨rfl, h2, h3, h4, h5⟩
theorem ln_load {w : World} {S : Nat → Prop} {x : List Lin} {xv : Value} (h : (reps Go.Proofs.Tryz.prog tP).c w S x [xv]) : ∃ ao cap, xv = .slice ao x.length cap ∧ x.length ≤ 140737488355328 ∧ (∀ e ∈ x, inL e) ∧ (x ≠ [] → ∃ b off, ao = some ⟨b, off, none⟩ ∧ b < w.heap.size ∧ (∀ i : Nat, i < x.length → ∀ W : World,
    (Instr.indexAt 22 xv (.int .i64 i)).run Go.Proofs.Tryz.prog W = .ok (.pointer (some ⟨b, off + i * 4, none⟩)) W) ∧ (∀ i : Nat, i < x.length → ∀ W : World, W.heap[b]? = w.heap[b]? → ∃ e, e = x.getD i tL.dflt ∧
    W.cell? ⟨b, off + i * 4, none⟩ = some (.int .i64 e.1) ∧ W.cell? ⟨b, off + i * 4 + 1, none⟩ = some (.int .i64 e.2.1) ∧ W.cell? ⟨b, off + i * 4 + 2, none⟩ = some (.int .i64 e.2.2.1) ∧ W.cell? ⟨b, off + i * 4 + 3, none⟩ = some (.int .i64 e.2.2.2.1))) := by
  obtain ⟨v, e, ao, cap, rfl, h1, h2, h3⟩ := h
  cases e
  have h3 : x = [] ∨ ∃ b off cs, ao = some ⟨b, off, none⟩ ∧ S b ∧ b < w.heap.size ∧ cellsAt w b off cs ∧ repL ((reps Go.Proofs.Tryz.prog tL).c w S) x cs := h3
  have hn : ∀ (e : Lin) cs, (reps Go.Proofs.Tryz.prog tL).c w S e cs → cs.length = 4 := fun e cs h => by rw [(ln_cs h).1]; rfl
  refine ⟨ao, cap, rfl, h2, fun e he => ?_, fun hne => ?_⟩
  · rcases h3 with rfl | ⟨b, off, cs, _, _, _, _, h4⟩
    · cases he
    · obtain ⟨i, hi, ei⟩ := List.mem_iff_getElem.1 he
      have := (ln_cs (repL_nth tL.dflt hn x cs i h4 hi)).2
      rw [List.getD_eq_getElem?_getD, List.getElem?_eq_getElem hi] at this
      rw [← ei]; exact this
  · rcases h3 with rfl | ⟨b, off, cs, rfl, _, hb, hc, h4⟩
    · exact absurd rfl hne
    · refine ⟨b, off, rfl, hb, fun i hi W => ?_, fun i hi W hW => ⟨_, rfl, ?_⟩⟩
      · have hty : (tys Go.Proofs.Tryz.prog tP).ty 22 := (tyB_ok Go.Proofs.Tryz.prog tP).1 22 (by kernel_rfl)
        obtain ⟨e, t1, t2⟩ := ty_sl hty
        have := run_index_sl (w := W) t1 t2 (b := b) (off := off) (len := x.length) (cap := cap) (n := (i : Int)) (by omega) (by omega)
        rw [Int.toNat_natCast] at this
        exact this
      · have h5 := (ln_cs (repL_nth tL.dflt hn x cs i h4 hi)).1
        have key : ∀ j v, j < 4 → ((cs.drop (i * 4)).take 4)[j]? = some v → W.cell? ⟨b, off + i * 4 + j, none⟩ = some v := by
          intro j v hj e
          rw [List.getElem?_take, if_pos hj, List.getElem?_drop] at e
          have := hc _ _ e
          rw [cell_same hW, Nat.add_assoc]
          exact this
        exact ⟨key 0 _ (by omega) (by rw [h5]; rfl), key 1 _ (by omega) (by rw [h5]; rfl), key 2 _ (by omega) (by rw [h5]; rfl), key 3 _ (by omega) (by rw [h5]; rfl)⟩
/-- An island of the engine: what is known of some temporaries. -/
theorem rel_isl {w : World} {n : Nat} {kv : Nat → Option Value} {E : List (Nat × V)} {a : Act} (hsz : a.tmps.size = n) (hd : a.defers = []) (hkp : ∀ t v, kv t = some v → a.tmps.getD t undef = v)
    (hE : ∀ t U, lk E t = some U → ∀ G, (∀ b, dS (hB w.heap.size (fun _ => True) kv (fun _ => False) fun b => w.heap[b]?) G (mkLoc []) false b) → ERep Go.Proofs.Tryz.prog (hB w.heap.size (fun _ => True) kv (fun _ => False) fun b => w.heap[b]?) G (mkLoc []) w U (a.tmps.getD t undef)) :
    Rel Go.Proofs.Tryz.prog (hB w.heap.size (fun _ => True) kv (fun _ => False) fun b => w.heap[b]?) w n (mkSt (E, [])) a w :=
  rel_env (rel_zero hsz hd hkp (fun _ h => h.elim)) hsz hd hkp (fun t U h => .inr fun G hm => hE t U h G fun b => ⟨⟨fun e => (by cases e), .inr trivial⟩, fun k g l hk => (by cases hk), fun h => h⟩)
def errPQ (p q : List Lin) : Int := if validP p = 0 then validP q else validP p
theorem or_pq (p q : List Lin) : (([validP p, validP q].find? fun e' => !(e' == 0)).getD 0) = errPQ p q := by
  unfold errPQ
  by_cases h : validP p = 0
  · rw [if_pos h]
    by_cases h2 : validP q = 0
    · simp [h, h2]
    · simp [h, h2]
  · rw [if_neg h]; simp [h]
def diffN (p q : List Lin) : Int := if errPQ p q = 0 then if p.length = q.length then limN (diffE p q q.length) else 9 else errPQ p q
def diffX (p q : List Lin) : List Edt := if errPQ p q = 0 then if p.length = q.length then limE (diffE p q q.length) else [] else []
theorem valP_call {w : World} {S : Nat → Prop} {p : List Lin} {pv : Value} (hx : (reps Go.Proofs.Tryz.prog tP).c w S p [pv]) :
    Calls Go.Proofs.Tryz.prog 80 #[pv] w fun e w' => e = .returned (.int .i64 (validP p)) ∧ inI (validP p) ∧ Below w.heap.size w w' := by
  refine ((cValP_ok.1 rfl) w S (p, ()) [pv] ⟨pv, [], [], [], rfl, rfl, ⟨rfl, [pv], rfl, hx⟩, rfl, rfl⟩ trivial).mono ?_
  rintro e w' ⟨rs, bs, rfl, ⟨u, us, _, _, rfl, _, ⟨_, cs, rfl, rfl, hi⟩, rfl, _⟩, _, _, hb⟩
  exact ⟨rfl, hi, hb⟩
theorem or_call {w : World} {a b : Int} (ha : inI a) (hb : inI b) {bk : Nat} {ty : TypeId} (h : w.heap[bk]? = some (.cells #[.int .i64 a, .int .i64 b] ty)) :
    Calls Go.Proofs.Tryz.prog 79 #[.slice (some ⟨bk, 0, none⟩) 2 2] w fun e w' => e = .returned (.int .i64 (([a, b].find? fun e' => !(e' == 0)).getD 0)) ∧ inI (([a, b].find? fun e' => !(e' == 0)).getD 0) ∧ Below w.heap.size w w' := by
  have hx : (reps Go.Proofs.Tryz.prog (.sl .int)).c w (fun _ => True) [a, b] [.slice (some ⟨bk, 0, none⟩) 2 2] := by
    refine ⟨_, rfl, some ⟨bk, 0, none⟩, 2, rfl, by simp, by simp, .inr ⟨bk, 0, [.int .i64 a, .int .i64 b], rfl, trivial, (Array.getElem?_eq_some_iff.1 h).1, ?_, ?_⟩⟩
    · intro i v hi
      simp only [World.cell?, h]
      match i, hi with
      | 0, hi => cases hi; rfl
      | 1, hi => cases hi; rfl
    · exact ⟨[_], [_], rfl, ⟨rfl, ha⟩, [_], [], rfl, ⟨rfl, hb⟩, rfl⟩
  refine ((cOr4_ok.1 rfl) w (fun _ => True) ([a, b], ()) [_] ⟨_, [], [], [], rfl, rfl, ⟨rfl, [_], rfl, hx⟩, rfl, rfl⟩ (by show [a, b].length ≤ 100; simp)).mono ?_
  rintro e w' ⟨rs, bs, rfl, ⟨u, us, _, _, rfl, _, ⟨_, cs, rfl, rfl, hi⟩, rfl, _⟩, _, _, hb⟩
  exact ⟨rfl, hi, hb⟩
abbrev cDiff4 : Con := { A := (.cons (.sl tL) (.cons (.sl tL) .nil)), R := (.cons (.osl tEd) (.cons .int .nil)), pre := fun x => True, F := fun x => (diffX x.1 x.2.1, diffN x.1 x.2.1, ()) }
theorem cDiff4_ok : ConOK Go.Proofs.Tryz.prog 40 cDiff4 := by
  refine ConOK.f ?_ rfl
  rintro w S ⟨p, q, ⟨⟩⟩ vs hv _
  change List Lin at p
  change List Lin at q
  obtain ⟨pv, vs1, b1, b2, rfl, e2, ⟨_, pc, ep, hpr⟩, qv, vs2, b3, b4, rfl, e3, ⟨_, qc, eq, hqr⟩, rfl, _⟩ := hv
  have hpr0 := hpr
  have hqr0 := hqr
  obtain ⟨pv', epc, hps⟩ := hpr
  obtain ⟨qv', eqc, hqs⟩ := hqr
  subst epc
  subst eqc
  obtain rfl : pv = pv' := ep
  obtain rfl : qv = qv' := eq
  have hpr : (reps Go.Proofs.Tryz.prog tP).c w S p [pv] := hpr0
  have hqr : (reps Go.Proofs.Tryz.prog tP).c w S q [qv] := hqr0
  have keep : ∀ {z : List Lin} {zv : Value} {W : World}, (reps Go.Proofs.Tryz.prog tP).c w S z [zv] → Below w.heap.size w W → (reps Go.Proofs.Tryz.prog tP).c W S z [zv] := fun h hb => c_keep tP h ⟨hb.size, fun b hb' _ => hb.block b hb'.lt⟩ fun _ _ h => h
  show Calls _ _ #[pv, qv] w _
  go_enter Go.Proofs.Tryz.func40, Go.Proofs.Tryz.ntmps40
  refine (wpIn_wide (n := 0)).1 ?_
  show Code.wpIn (Fw none) 0 _ _ _ _ _
  refine wpIn_seq (ql_region rfl ?_)
  simp [ql, go_sem, Exit.then]
  refine wpIn_seq (wpIn_seq (ql_region rfl ?_))
  simp [ql, go_sem, Exit.then]
  refine (valP_call hpr).mono ?_
  rintro e W1 ⟨rfl, hi1, hb1⟩
  simp [ql, go_sem, Exit.then]
  refine (valP_call (keep hqr hb1)).mono ?_
  rintro e W2 ⟨rfl, hi2, hb2⟩
  simp [ql, go_sem, Exit.then]
  have hb02 := hb1.trans (hb2.mono hb1.size)
  have hb3 := hb02.alloc hb02.size (.cells #[.int .i64 (validP p), .int .i64 (validP q)] 26)
  have hor := or_call hi1 hi2 (heap_self W2 (.cells #[.int .i64 (validP p), .int .i64 (validP q)] 26))
  rw [or_pq] at hor
  refine hor.mono ?_
  rintro e W4 ⟨rfl, hiB, hb4⟩
  have hb04 := hb3.trans (hb4.mono hb3.size)
  simp [ql, go_sem, Exit.then]
  refine wpIn_seq (ql_region rfl ?_)
  simp [ql, go_sem, Exit.then]
  by_cases h0 : errPQ p q = 0
  · refine wpIn_cond_false (by simp [Act.eval, h0]) (wpIn_skip ?_)
    simp only [Exit.then]
    obtain ⟨ap, capp, rfl, hlp⟩ : ∃ ao c, pv = .slice ao p.length c ∧ True := by
      obtain ⟨ao, c, h1, h2, _⟩ := hps
      exact ⟨ao, c, h1, trivial⟩
    obtain ⟨aq, capq, rfl, hlq⟩ : ∃ ao c, qv = .slice ao q.length c ∧ True := by
      obtain ⟨ao, c, h1, h2, _⟩ := hqs
      exact ⟨ao, c, h1, trivial⟩
    refine wpIn_seq (wpIn_seq (ql_region rfl ?_))
    simp [ql, go_sem, Exit.then]
    by_cases hl : p.length = q.length
    · refine wpIn_cond_false (by simp [Act.eval, hl]) (wpIn_skip ?_)
      simp only [Exit.then]
      refine wpIn_seq (ql_region rfl ?_)
      have hmk : ∀ W : World, (Instr.makeMap 76 none).run Go.Proofs.Tryz.prog W = .ok (.map (some W.heap.size)) (W.alloc (.map #[] 0)) := fun _ => rfl
      simp [ql, go_sem, Exit.then, hmk]
      refine wpIn_seq (wpIn_seq (ql_region rfl ?_))
      simp [ql, go_sem, Exit.then]
      refine wpIn_block (wp_loopAt ?_)
      have hsz4 := hb04.size
      obtain ⟨ap', capp', e1, _, hpin, hpld⟩ := ln_load hpr
      cases e1
      obtain ⟨aq', capq', e1, _, hqin, hqld⟩ := ln_load hqr
      cases e1
      obtain ⟨hvp, hvq⟩ : validP p = 0 ∧ validP q = 0 := by
        unfold errPQ at h0
        by_cases h : validP p = 0
        · rw [if_pos h] at h0; exact ⟨h, h0⟩
        · rw [if_neg h] at h0; exact absurd h0 h
      have hq8 := (validP_ok hvq).1
      have hk : Cok Go.Proofs.Tryz.prog ⟨[], Th, 46, noX⟩ := cok_of trivial (by kernel_rfl) th_ok
      obtain ⟨A, hA⟩ : ∃ A : Nat → Act → World → Prop, A = fun m a W => ∃ x2 x3 x4 x5 x6 x8 x9 x10 x11 x12 x13 x14 x15 x16 x17 x18 x19 x20 x21 x22 x23 x24 x28 x29 x30 x31 x32 x33 x34 x35 x36 x37 x38 x39 x40 x41 x42 x43 x44 x45 : Value, a = ⟨#[.slice ap p.length capp, .slice aq q.length capq, x2, x3, x4, x5, x6, .map (some W4.heap.size), x8, x9, x10, x11, x12, x13, x14, x15, x16, x17, x18, x19, x20, x21, x22, x23, x24, .slice aq q.length capq, .int .i64 q.length, .int .i64 m, x28, x29, x30, x31, x32, x33, x34, x35, x36, x37, x38, x39, x40, x41, x42, x43, x44, x45], []⟩ ∧ ownsT W W4.heap.size (diffE p q m) ∧ Below w.heap.size w W := ⟨_, rfl⟩
      refine loop_upX (n := q.length) A ?_ ?_ 0 (by omega) _ _ (by rw [hA]; exact ⟨_, _, _, _, _, _, _, _, _, _, _, _, _, _, _, _, _, _, _, _, _, _, _, _, _, _, _, _, _, _, _, _, _, _, _, _, _, _, _, _, rfl, ownsT_new W4, hb04.alloc hsz4 _⟩)
      · intro a W hh
        rw [hA] at hh
        obtain ⟨x2, x3, x4, x5, x6, x8, x9, x10, x11, x12, x13, x14, x15, x16, x17, x18, x19, x20, x21, x22, x23, x24, x28, x29, x30, x31, x32, x33, x34, x35, x36, x37, x38, x39, x40, x41, x42, x43, x44, x45, rfl, hT, hb⟩ := hh
        refine wpIn_seq (ql_region rfl ?_)
        simp [ql, go_sem, Exit.then]
        refine wpIn_seq (wpIn_cond_false (by simp [Act.eval]) (wpIn_exit ?_))
        simp only [Exit.then, Exit.inBlock, if_true]
        refine wpIn_seq (ql_region rfl ?_)
        simp [ql, go_sem, Exit.then]
        have hln := diffE_len p q q.length
        refine (limited_call hT (by omega)).mono ?_
        rintro e W5 ⟨v, rfl, hown, hb5⟩
        obtain ⟨ao2, nn, c, rfl⟩ := own_slice hown
        simp [ql, go_sem, Exit.then]
        refine wpIn_ret ?_
        have s2 := hb.size
        have hB := hb.trans (hb5.mono s2)
        have hown2 := ownRes_base (w := w) hown s2
        have hp := ownE_post (n := limN (diffE p q q.length)) hown2 (lim_in _) hB
        refine ⟨rfl, .tuple #[.slice ao2 nn c, .int .i64 (limN (diffE p q q.length))], ?_, ?_⟩
        · simp [results, Go.Proofs.Tryz.results40, go_sem, limN]
        · dsimp only [cDiff4]
          unfold diffX diffN
          rw [if_pos h0, if_pos h0, if_pos hl, if_pos hl]
          exact hp
      · intro m a W hm hh
        rw [hA] at hh
        obtain ⟨x2, x3, x4, x5, x6, x8, x9, x10, x11, x12, x13, x14, x15, x16, x17, x18, x19, x20, x21, x22, x23, x24, x28, x29, x30, x31, x32, x33, x34, x35, x36, x37, x38, x39, x40, x41, x42, x43, x44, x45, rfl, hT, hb⟩ := hh
        obtain ⟨bp, offp, rfl, hbp, hixp, hlp⟩ := hpld (by intro e; rw [e] at hl; simp at hl; omega)
        obtain ⟨bq, offq, rfl, hbq, hixq, hlq⟩ := hqld (by intro e; rw [e] at hm; simp at hm)
        have hixq := hixq m hm
        obtain ⟨l, he, c0, c1, c2, c3⟩ := hlq m hm W (hb.block bq hbq)
        have hin : inL l := by rw [he]; exact hqin _ (mem_getD hm)
        refine wpIn_seq (ql_region rfl ?_)
        simp [ql, go_sem, Exit.then]
        refine wpIn_seq (wpIn_cond_true (by simp [Act.eval]; omega) (wpIn_skip ?_))
        simp only [Exit.then]
        refine wpIn_seq (wpIn_block (wpIn_seq (ql_region rfl ?_)))
        simp [ql, go_sem, Exit.then, hixq, c0, c1, c2, c3]
        obtain ⟨W6, hW6⟩ : ∃ W6, W6 = W.alloc (.cells #[.int .i64 l.1, .int .i64 l.2.1, .int .i64 l.2.2.1, .int .i64 l.2.2.2.1] 32) := ⟨_, rfl⟩
        have hh6 : W6.heap[W.heap.size]? = some (.cells #[.int .i64 l.1, .int .i64 l.2.1, .int .i64 l.2.2.1, .int .i64 l.2.2.2.1] 32) := by rw [hW6]; exact heap_self _ _
        have hT6 : ownsT W6 W4.heap.size (diffE p q m) := by rw [hW6]; exact hT.kept (Below.heap_alloc W _ _ hT.lt)
        have hb6 : Below w.heap.size w W6 := by rw [hW6]; exact hb.alloc hb.size _
        simp only [← hW6]
        refine wpIn_seq ?_
        have hR := rel_isl (w := W6) (n := 46) (kv := kvL [(0, .slice (some ⟨bp, offp, none⟩) p.length capp), (1, .slice (some ⟨bq, offq, none⟩) q.length capq), (7, .map (some W4.heap.size)), (8, .int .i64 m), (9, .pointer (some ⟨W.heap.size, 0, none⟩)), (25, .slice (some ⟨bq, offq, none⟩) q.length capq), (26, .int .i64 q.length), (27, .int .i64 m)]) (E := [(0, .d false tP p), (8, .d true .int (m : Int)), (9, .ept false tL l)]) (a := ⟨#[.slice (some ⟨bp, offp, none⟩) p.length capp, .slice (some ⟨bq, offq, none⟩) q.length capq, x2, x3, x4, x5, x6, .map (some W4.heap.size), .int .i64 m, .pointer (some ⟨W.heap.size, 0, none⟩), x10, x11, x12, x13, x14, x15, x16, x17, x18, x19, x20, x21, x22, x23, x24, .slice (some ⟨bq, offq, none⟩) q.length capq, .int .i64 q.length, .int .i64 m, .bool (decide (m < q.length)), .int .i64 m, .pointer (some ⟨bq, offq + m * 4, none⟩), .agg #[.int .i64 l.1, .int .i64 l.2.1, .int .i64 l.2.2.1, .int .i64 l.2.2.2.1], x32, x33, x34, x35, x36, x37, x38, x39, x40, x41, x42, x43, x44, x45], []⟩) rfl rfl (fun t v h => by
            have h := lk_in h
            simp at h
            rcases h with ⟨rfl, rfl⟩ | ⟨rfl, rfl⟩ | ⟨rfl, rfl⟩ | ⟨rfl, rfl⟩ | ⟨rfl, rfl⟩ | ⟨rfl, rfl⟩ | ⟨rfl, rfl⟩ | ⟨rfl, rfl⟩ <;> rfl) (fun t U hU G hS => by
            have hk7 := lk_key hU
            simp at hk7
            rcases hk7 with rfl | rfl | rfl
            · cases hU
              exact ⟨[_], rfl, c_mono tP (keep hpr hb6) fun b _ _ => hS b⟩
            · cases hU
              exact ⟨[.int .i64 m], rfl, rfl, by unfold inI; omega⟩
            · cases hU
              exact ⟨W.heap.size, 0, _, rfl, hS _, (Array.getElem?_eq_some_iff.1 hh6).1, (fun j v hj => by
                simp only [World.cell?, hh6]
                match j, hj with
                | 0, hj => cases hj; rfl
                | 1, hj => cases hj; rfl
                | 2, hj => cases hj; rfl
                | 3, hj => cases hj; rfl), ln_rep hin⟩)
        refine eng_thru hk mix_ok rfl rfl (ly := ⟨[(37, true)], []⟩) (x := ([(37, .d true .bool (!(tL.eqB (List.getD p (Int.toNat (m : Int)) tL.dflt) l)))], [])) hR (by kernel_rfl) (fun t ht => kvL_no (by show t ∉ [0, 1, 7, 8, 9, 25, 26, 27]; revert ht; revert t; decide)) ?_ ?_
        · have h0 : idx (m : Int) (p.length : Int) ∧ (([(37, V.d true .bool (!(tL.eqB (List.getD p (Int.toNat (m : Int)) tL.dflt) l)))], []) : Lst) = ([(37, .d true .bool (!(tL.eqB (List.getD p (Int.toNat (m : Int)) tL.dflt) l)))], []) := ⟨by unfold idx; omega, rfl⟩
          exact Eq.mpr (by kernel_rfl) h0
        · intro a3 W7 hR3
          have hb7 : Below W6.heap.size W6 W7 := hR3.low
          have hT7 := hT6.kept (hb7.block _ hT6.lt)
          have hb07 := hb6.trans (hb7.mono hb6.size)
          have hbv := rel_bool hR3 (d := 37) rfl
          have hcell : W7.heap[W.heap.size]? = W6.heap[W.heap.size]? := hb7.block _ (Array.getElem?_eq_some_iff.1 hh6).1
          obtain ⟨tm, df⟩ := a3
          obtain rfl : df = [] := hR3.nd.2 rfl
          obtain ⟨y0, y1, y2, y3, y4, y5, y6, y7, y8, y9, y10, y11, y12, y13, y14, y15, y16, y17, y18, y19, y20, y21, y22, y23, y24, y25, y26, y27, y28, y29, y30, y31, y32, y33, y34, y35, y36, y37, y38, y39, y40, y41, y42, y43, y44, y45, rfl⟩ := arr46 tm hR3.sz
          obtain rfl : y0 = .slice (some ⟨bp, offp, none⟩) p.length capp := hR3.kp 0 _ rfl
          obtain rfl : y1 = .slice (some ⟨bq, offq, none⟩) q.length capq := hR3.kp 1 _ rfl
          obtain rfl : y7 = .map (some W4.heap.size) := hR3.kp 7 _ rfl
          obtain rfl : y8 = .int .i64 m := hR3.kp 8 _ rfl
          obtain rfl : y9 = .pointer (some ⟨W.heap.size, 0, none⟩) := hR3.kp 9 _ rfl
          obtain rfl : y25 = .slice (some ⟨bq, offq, none⟩) q.length capq := hR3.kp 25 _ rfl
          obtain rfl : y26 = .int .i64 q.length := hR3.kp 26 _ rfl
          obtain rfl : y27 = .int .i64 m := hR3.kp 27 _ rfl
          rw [Int.toNat_natCast] at hbv
          simp only [Exit.then]
          by_cases hne : p.getD m tL.dflt = l
          · rw [(eqB_iff (t := tL) rfl).2 hne] at hbv
            refine wpIn_cond_false (by rw [hbv]; rfl) (wpIn_skip ?_)
            try simp only [Exit.inBlock, Exit.then]
            refine ql_region rfl ?_
            simp [ql, go_sem, Exit.then, Exit.inBlock]
            rw [show IntKind.i64.wrap ((m : Int) + 1) = ((m + 1 : Nat) : Int) from wrap_in (by unfold inI; omega), hA]
            have hd : diffE p q (m + 1) = diffE p q m := by rw [diffE_succ, if_pos (by rw [hne, he])]
            exact ⟨_, _, _, _, _, _, _, _, _, _, _, _, _, _, _, _, _, _, _, _, _, _, _, _, _, _, _, _, _, _, _, _, _, _, _, _, _, _, _, _, rfl, by rw [hd]; exact hT7, hb07⟩
          · rw [(eqB_neg (t := tL) rfl).2 hne] at hbv
            refine wpIn_cond_true (by rw [hbv]; rfl) ?_
            refine ql_region rfl ?_
            have e0 : W7.cell? ⟨W.heap.size, 0, none⟩ = some (.int .i64 l.1) := by rw [cell_same hcell]; simp only [World.cell?, hh6]; rfl
            have e1 : W7.cell? ⟨W.heap.size, 1, none⟩ = some (.int .i64 l.2.1) := by rw [cell_same hcell]; simp only [World.cell?, hh6]; rfl
            have e2 : W7.cell? ⟨W.heap.size, 2, none⟩ = some (.int .i64 l.2.2.1) := by rw [cell_same hcell]; simp only [World.cell?, hh6]; rfl
            have e3 : W7.cell? ⟨W.heap.size, 3, none⟩ = some (.int .i64 l.2.2.2.1) := by rw [cell_same hcell]; simp only [World.cell?, hh6]; rfl
            obtain ⟨W8, hr, hT8, hg⟩ := hT7.put (k := (m : Int)) (l := l) (by have := diffE_len p q m; omega) (by unfold inI; omega) hin
            simp only [lnV] at hr
            simp [ql, go_sem, Exit.then, Exit.inBlock, e0, e1, e2, e3, hr]
            try simp only [Exit.inBlock, Exit.then]
            refine ql_region rfl ?_
            simp [ql, go_sem, Exit.then, Exit.inBlock]
            rw [show IntKind.i64.wrap ((m : Int) + 1) = ((m + 1 : Nat) : Int) from wrap_in (by unfold inI; omega), hA]
            have hd := diffE_put (p := p) (q := q) (n := m) (by rw [← he]; exact hne)
            rw [← he] at hd
            rw [hd] at hT8
            have hs7 := hb07.size
            exact ⟨_, _, _, _, _, _, _, _, _, _, _, _, _, _, _, _, _, _, _, _, _, _, _, _, _, _, _, _, _, _, _, _, _, _, _, _, _, _, _, _, rfl, hT8, ⟨hg.os.trans hb07.os, hg.tape.trans hb07.tape, hg.output.trans hb07.output, Nat.le_trans hb07.size hg.size, fun i hi => (hg.block i (Nat.lt_of_lt_of_le hi hb07.size) (fun e => by have := Option.some.inj e; omega)).trans (hb07.block i hi)⟩⟩
    · refine wpIn_cond_true (by simp [Act.eval]; omega) (wpIn_seq (ql_region rfl ?_))
      simp [ql, go_sem, Exit.then]
      refine wpIn_ret ?_
      refine ⟨rfl, .tuple #[.slice none 0 0, .int .i64 9], ?_, ?_⟩
      · simp [results, Go.Proofs.Tryz.results40, go_sem]
      · dsimp only [cDiff4]
        unfold diffX diffN
        rw [if_pos h0, if_pos h0, if_neg hl, if_neg hl]
        exact ownE_post (ownRes_nil _ _) (by unfold inI; omega) hb04
  · refine wpIn_cond_true (by simp [Act.eval, h0]) (wpIn_seq (ql_region rfl ?_))
    simp [ql, go_sem, Exit.then]
    refine wpIn_ret ?_
    refine ⟨rfl, .tuple #[.slice none 0 0, .int .i64 (errPQ p q)], ?_, ?_⟩
    · simp [results, Go.Proofs.Tryz.results40, go_sem]
    · dsimp only [cDiff4]
      unfold diffX diffN
      rw [if_neg h0, if_neg h0]
      exact ownE_post (ownRes_nil _ _) hiB hb04
end Go.Tk
/- Plain facts: filters in place, comparing. No program in sight. -/
set_option linter.unusedSimpArgs false
set_option linter.unusedVariables false
set_option linter.unnecessarySimpa false
namespace Go.Tk
open Go Go.RowKit

theorem idxF_cases {α : Type} (d : α) (p : α → Bool) (s : List α) : (idxF p s = -1 ∧ s.any p = false) ∨ ∃ k, k < s.length ∧ idxF p s = (k : Int) ∧ (s.take k).any p = false ∧ p (s.getD k d) = true := by
  have key : ∀ i, i ≤ s.length → (s.take i).any p = false → (idxF p s = -1 ∧ s.any p = false) ∨ ∃ k, k < s.length ∧ idxF p s = (k : Int) ∧ (s.take k).any p = false ∧ p (s.getD k d) = true := by
    refine upto ?_ ?_
    · intro ha
      rw [List.take_length] at ha
      exact .inl ⟨idxF_none ha, ha⟩
    · intro i hi ih ha
      cases hv : p (s.getD i d)
      · exact ih (any_take_next d hi ha hv)
      · exact .inr ⟨i, hi, idxF_at d hi ha hv, ha, hv⟩
  exact key 0 (Nat.zero_le _) rfl

/-! ### DeleteFunc -/
def keepK {α : Type} (p : α → Bool) (s : List α) (j : Nat) : List α := (s.take j).filter fun r => !p r
theorem keepK_all {α : Type} (p : α → Bool) (s : List α) : keepK p s s.length = s.filter fun r => !p r := by unfold keepK; rw [List.take_length]
theorem keepK_len {α : Type} (p : α → Bool) (s : List α) (j : Nat) : (keepK p s j).length ≤ j := by
  unfold keepK
  exact Nat.le_trans (List.length_filter_le ..) (by rw [List.length_take]; omega)
theorem keepK_succ {α : Type} (d : α) (p : α → Bool) {s : List α} {j : Nat} (hj : j < s.length) : keepK p s (j + 1) = if p (s.getD j d) = true then keepK p s j else keepK p s j ++ [s.getD j d] := by
  unfold keepK
  rw [take_snoc d hj, List.filter_append]
  cases h : p (s.getD j d)
  · have : List.filter (fun r => !p r) [s.getD j d] = [s.getD j d] := by rw [List.filter_cons_of_pos (by rw [h]; rfl)]; rfl
    rw [this]; simp
  · have : List.filter (fun r => !p r) [s.getD j d] = [] := by rw [List.filter_cons_of_neg (by rw [h]; simp)]; rfl
    rw [this]; simp
theorem keepK_none {α : Type} {p : α → Bool} {s : List α} {j : Nat} (h : (s.take j).any p = false) : keepK p s j = s.take j := by
  unfold keepK
  rw [List.filter_eq_self]
  intro a ha
  have := List.any_eq_false.1 h a ha
  simpa using this
theorem filter_none {α : Type} {p : α → Bool} {s : List α} (h : s.any p = false) : (s.filter fun r => !p r) = s := by
  have := keepK_none (p := p) (s := s) (j := s.length) (by rw [List.take_length]; exact h)
  rw [keepK_all, List.take_length] at this
  exact this

/-- What the loop of DeleteFunc keeps. -/
structure DelI {α : Type} (p : α → Bool) (s s1 : List α) (j : Nat) : Prop where
  len : s1.length = s.length
  lt : (keepK p s j).length < j
  fst : s1.take (keepK p s j).length = keepK p s j
  rest : s1.drop j = s.drop j

theorem DelI.start {α : Type} (d : α) {p : α → Bool} {s : List α} {k : Nat} (hk : k < s.length) (h1 : (s.take k).any p = false) (h2 : p (s.getD k d) = true) : DelI p s s (k + 1) ∧ (keepK p s (k + 1)).length = k := by
  have e : keepK p s (k + 1) = s.take k := by rw [keepK_succ d p hk, if_pos h2, keepK_none h1]
  have l : (s.take k).length = k := by rw [List.length_take]; omega
  exact ⟨⟨rfl, by rw [e, l]; omega, by rw [e, l], rfl⟩, by rw [e, l]⟩
theorem DelI.get {α : Type} {d : α} {p : α → Bool} {s s1 : List α} {j : Nat} (h : DelI p s s1 j) (hj : j < s.length) : s1.getD j d = s.getD j d := by
  have h1 : (s1.drop j)[0]? = (s.drop j)[0]? := by rw [h.rest]
  simp only [List.getElem?_drop, Nat.add_zero] at h1
  rw [List.getD_eq_getElem?_getD, List.getD_eq_getElem?_getD, h1]
theorem DelI.keep {α : Type} {d : α} {p : α → Bool} {s s1 : List α} {j : Nat} (h : DelI p s s1 j) (hj : j < s.length) (hp : p (s.getD j d) = false) : DelI p s (s1.set (keepK p s j).length (s.getD j d)) (j + 1) ∧ (keepK p s (j + 1)).length = (keepK p s j).length + 1 := by
  have e : keepK p s (j + 1) = keepK p s j ++ [s.getD j d] := by rw [keepK_succ d p hj, if_neg (by rw [hp]; simp)]
  have hl : (keepK p s (j + 1)).length = (keepK p s j).length + 1 := by rw [e]; simp
  have hlt := h.lt
  refine ⟨⟨by rw [List.length_set]; exact h.len, by omega, ?_, ?_⟩, hl⟩
  · rw [hl, e, take_snoc d (by rw [List.length_set, h.len]; omega), List.take_set_of_le (Nat.le_refl _), h.fst]
    congr 1
    simp [List.getElem?_set, h.len, show (keepK p s j).length < s.length by omega]
  · rw [List.drop_set_of_lt (by omega)]
    have := congrArg (List.drop 1) h.rest
    simpa [List.drop_drop] using this
theorem DelI.skip {α : Type} {d : α} {p : α → Bool} {s s1 : List α} {j : Nat} (h : DelI p s s1 j) (hj : j < s.length) (hp : p (s.getD j d) = true) : DelI p s s1 (j + 1) ∧ keepK p s (j + 1) = keepK p s j := by
  have e : keepK p s (j + 1) = keepK p s j := by rw [keepK_succ d p hj, if_pos hp]
  have hlt := h.lt
  refine ⟨⟨h.len, by rw [e]; omega, by rw [e]; exact h.fst, ?_⟩, e⟩
  have := congrArg (List.drop 1) h.rest
  simpa [List.drop_drop] using this

/-! ### The search for a cover -/
def cmpI (x y : Int) : Int := if x < y then -1 else if x > y then 1 else 0
def cmpL : List Int → List Int → Int
  | [], [] => 0
  | [], _ :: _ => -1
  | _ :: _, [] => 1
  | x :: a, y :: b => if x = y then cmpL a b else cmpI x y

theorem cmpL_drop {a b : List Int} : ∀ i, a.take i = b.take i → i ≤ a.length → i ≤ b.length → cmpL a b = cmpL (a.drop i) (b.drop i)
  | 0, _, _, _ => rfl
  | i + 1, h, ha, hb => by
    cases a with
    | nil => simp at ha
    | cons x a => cases b with
      | nil => simp at hb
      | cons y b =>
        simp only [List.take_succ_cons, List.cons.injEq] at h
        simp only [List.drop_succ_cons]
        rw [show cmpL (x :: a) (y :: b) = if x = y then cmpL a b else cmpI x y from rfl, if_pos h.1]
        exact cmpL_drop i h.2 (by simpa using ha) (by simpa using hb)

theorem cmpL_at {a b : List Int} {i : Nat} (h : a.take i = b.take i) (ha : i < a.length) (hb : i < b.length) (hne : a.getD i 0 ≠ b.getD i 0) : cmpL a b = cmpI (a.getD i 0) (b.getD i 0) := by
  rw [cmpL_drop i h (by omega) (by omega)]
  have e1 : a.drop i = a.getD i 0 :: a.drop (i + 1) := by rw [List.drop_eq_getElem_cons ha]; simp [List.getD_eq_getElem?_getD, ha]
  have e2 : b.drop i = b.getD i 0 :: b.drop (i + 1) := by rw [List.drop_eq_getElem_cons hb]; simp [List.getD_eq_getElem?_getD, hb]
  rw [e1, e2]
  show (if _ = _ then _ else _) = _
  rw [if_neg hne]
theorem cmpL_gt {a b : List Int} {i : Nat} (h : a.take i = b.take i) (ha : i < a.length) (hb : b.length ≤ i) (hb2 : i ≤ b.length) : cmpL a b = 1 := by
  rw [cmpL_drop i h (by omega) hb2]
  have e1 : a.drop i = a.getD i 0 :: a.drop (i + 1) := by rw [List.drop_eq_getElem_cons ha]; simp [List.getD_eq_getElem?_getD, ha]
  have e2 : b.drop i = [] := List.drop_eq_nil_of_le hb
  rw [e1, e2]; rfl
theorem cmpL_end {a b : List Int} (h : a.take a.length = b.take a.length) (hb : a.length ≤ b.length) : cmpL a b = if a.length < b.length then -1 else 0 := by
  rw [cmpL_drop a.length h (Nat.le_refl _) hb]
  have e1 : a.drop a.length = [] := by simp
  rw [e1]
  split
  · rename_i hl
    have e2 : b.drop a.length = b.getD a.length 0 :: b.drop (a.length + 1) := by rw [List.drop_eq_getElem_cons hl]; simp [List.getD_eq_getElem?_getD, hl]
    rw [e2]; rfl
  · have e2 : b.drop a.length = [] := List.drop_eq_nil_of_le (by omega)
    rw [e2]; rfl

end Go.Tk
/- Plain facts of layer 4: what the functions answer. No program in sight. -/
set_option linter.unusedSimpArgs false
set_option linter.unusedVariables false
set_option linter.unnecessarySimpa false
namespace Go.Tk
open Go Go.RowKit
def errXT (p : List Lin) (x : List Edt) (l : List Tst) : Int := if validP p = 0 then (if validX x = 0 then (if validT l = 0 then (if far p.length x = true then 4 else 0) else validT l) else validX x) else validP p
def errX (p : List Lin) (x : List Edt) : Int := errXT p x []
theorem errXT_ok {p : List Lin} {x : List Edt} {l : List Tst} (h : errXT p x l = 0) : validP p = 0 ∧ validX x = 0 ∧ validT l = 0 ∧ inX p.length x := by
  unfold errXT at h
  split at h
  · rename_i h1
    split at h
    · rename_i h2
      split at h
      · rename_i h3
        split at h
        · cases h
        · rename_i h4
          refine ⟨h1, h2, h3, fun e he => ?_⟩
          have := List.any_eq_false.1 (Bool.eq_false_iff.2 h4) e he
          have h5 := (validX_ok h2).2 e he
          simp at this
          omega
      · rename_i h3; exact absurd h h3
    · rename_i h2; exact absurd h h2
  · rename_i h1; exact absurd h h1
theorem errXT_mk {p : List Lin} {x : List Edt} {l : List Tst} (h1 : validP p = 0) (h2 : validX x = 0) (h3 : validT l = 0) (h4 : inX p.length x) : errXT p x l = 0 := by
  unfold errXT
  rw [if_pos h1, if_pos h2, if_pos h3, if_neg]
  unfold far
  rw [Bool.not_eq_true, List.any_eq_false]
  intro e he
  have := h4 e he
  simp; omega
theorem validT_nil : validT [] = 0 := rfl
theorem errX_ok {p : List Lin} {x : List Edt} (h : errX p x = 0) : validP p = 0 ∧ validX x = 0 ∧ inX p.length x := ⟨(errXT_ok h).1, (errXT_ok h).2.1, (errXT_ok h).2.2.2⟩
theorem errX_mk {p : List Lin} {x : List Edt} (h1 : validP p = 0) (h2 : validX x = 0) (h4 : inX p.length x) : errX p x = 0 := errXT_mk h1 h2 validT_nil h4
theorem errXT_X {p : List Lin} {x : List Edt} {l : List Tst} (h : errXT p x l = 0) : errX p x = 0 := errX_mk (errXT_ok h).1 (errXT_ok h).2.1 (errXT_ok h).2.2.2
theorem validX_line4 {x : List Edt} (h : validX x = 0) : ∀ e ∈ x, validLine e.2.1 = true := by
  intro e he
  unfold validX at h
  split at h
  · omega
  · obtain ⟨i, hi, rfl⟩ := List.getElem_of_mem he
    have g := okTo_at _ (argErr_zero.1 h) i hi
    unfold edOK at g
    have ee : x.getD i tEd.dflt = x[i] := by simp [List.getD_eq_getElem?_getD, hi]
    rw [ee] at g
    simp at g
    exact g.2
theorem playX_all4 (x : List Edt) : ∀ p : List Lin, p.all validLine = true → (∀ e ∈ x, validLine e.2.1 = true) → (playX p x).all validLine = true := by
  induction x with
  | nil => intro p hp _; exact hp
  | cons e x ih =>
    intro p hp hx
    refine ih _ ?_ fun q hq => hx q (List.mem_cons_of_mem _ hq)
    rw [List.all_eq_true] at hp ⊢
    intro l hl
    rcases List.mem_or_eq_of_mem_set hl with g | g
    · exact hp l g
    · rw [g]; exact hx e List.mem_cons_self
theorem playX_valid {p : List Lin} {x : List Edt} (h1 : validP p = 0) (h2 : ∀ e ∈ x, validLine e.2.1 = true) : validP (playX p x) = 0 := by
  obtain ⟨h8, hall⟩ := validP_ok h1
  unfold validP
  rw [playX_len, if_neg (by omega), playX_all4 x p hall h2]; rfl
theorem errX_play {p : List Lin} {x : List Edt} (h : errX p x = 0) : validP (playX p x) = 0 := playX_valid (errX_ok h).1 (validX_line4 (errX_ok h).2.1)
def invE (p : List Lin) (e : Edt) : Edt := (e.1, p.getD e.1.toNat tL.dflt, ())
def invX (p : List Lin) (x : List Edt) : List Edt := x.map (invE p)
def fieldsN (l m : Lin) : Int := (if l.1 = m.1 then 0 else 1) + ((if l.2.1 = m.2.1 then 0 else 1) + ((if l.2.2.1 = m.2.2.1 then 0 else 1) + (if l.2.2.2.1 = m.2.2.2.1 then 0 else 1)))
theorem fieldsN_bd (l m : Lin) : 0 ≤ fieldsN l m ∧ fieldsN l m ≤ 4 := by unfold fieldsN; split <;> split <;> split <;> split <;> omega
theorem fieldsN_zero {l m : Lin} : fieldsN l m = 0 ↔ l = m := by
  obtain ⟨a1, a2, a3, a4, ⟨⟩⟩ := l
  obtain ⟨b1, b2, b3, b4, ⟨⟩⟩ := m
  unfold fieldsN
  simp only [Prod.mk.injEq, and_true]
  split <;> split <;> split <;> split <;> simp_all
def sizeX (p : List Lin) : List Edt → Int
  | [] => 0
  | e :: x => fieldsN (p.getD e.1.toNat tL.dflt) e.2.1 + sizeX p x
theorem sizeX_app (p : List Lin) (x y : List Edt) : sizeX p (x ++ y) = sizeX p x + sizeX p y := by
  induction x with
  | nil => simp [sizeX]
  | cons e x ih => rw [List.cons_append, sizeX, ih, sizeX]; omega
theorem sizeX_take {p : List Lin} {x : List Edt} {i : Nat} (h : i < x.length) : sizeX p (x.take (i + 1)) = sizeX p (x.take i) + fieldsN (p.getD (x.getD i tEd.dflt).1.toNat tL.dflt) (x.getD i tEd.dflt).2.1 := by
  rw [take_snoc tEd.dflt h, sizeX_app]; simp [sizeX]
theorem sizeX_bd (p : List Lin) (x : List Edt) : 0 ≤ sizeX p x ∧ sizeX p x ≤ 4 * x.length := by
  induction x with
  | nil => simp [sizeX]
  | cons e x ih =>
    have := fieldsN_bd (p.getD e.1.toNat tL.dflt) e.2.1
    rw [sizeX, List.length_cons]; omega
def sameE (p : List Lin) (e : Edt) : Bool := decide (p.getD e.1.toNat tL.dflt = e.2.1)
def cleanX (p : List Lin) (x : List Edt) : List Edt := x.filter fun e => !(sameE p e)
def okPl (at_ : List Int) : Nat → Bool
  | 0 => true
  | i + 1 => okPl at_ i && !(decide (at_.getD i 0 < 0) || decide (at_.getD i 0 ≥ 8) || (decide (i > 0) && decide (at_.getD (i - 1) 0 ≥ at_.getD i 0)))
theorem okPl_false {a : List Int} {i : Nat} (h : okPl a (i + 1) = false) : ∀ n, i < n → okPl a n = false
  | 0, hn => by omega
  | n + 1, hn => by
    by_cases e : i = n
    · subst e; exact h
    · unfold okPl
      rw [okPl_false h n (by omega), Bool.false_and]
def keepN (x : List Edt) (at_ : List Int) : Int := if validX x = 0 then argErr (okPl at_ at_.length) else validX x
def keepX (x : List Edt) (at_ : List Int) : List Edt := if keepN x at_ = 0 then x.filter fun e => decide (e.1 ∈ at_) else []
def threeL (b a c : List Lin) (i : Nat) : Lin := if c.getD i tL.dflt = b.getD i tL.dflt ∨ a.getD i tL.dflt = c.getD i tL.dflt then a.getD i tL.dflt else if a.getD i tL.dflt = b.getD i tL.dflt then c.getD i tL.dflt else b.getD i tL.dflt
def threeC (b a c : List Lin) (i : Nat) : Bool := !(decide (c.getD i tL.dflt = b.getD i tL.dflt) || decide (a.getD i tL.dflt = c.getD i tL.dflt) || decide (a.getD i tL.dflt = b.getD i tL.dflt))
def threeP (b a c : List Lin) (n : Nat) : List Lin := (List.range n).map (threeL b a c)
def threeI (b a c : List Lin) (n : Nat) : List Int := ((List.range n).filter (threeC b a c)).map fun (i : Nat) => (i : Int)
theorem threeP_len (b a c : List Lin) (n : Nat) : (threeP b a c n).length = n := by simp [threeP]
theorem threeI_len (b a c : List Lin) (n : Nat) : (threeI b a c n).length ≤ n := by
  unfold threeI
  rw [List.length_map]
  exact Nat.le_trans (List.length_filter_le _ _) (by simp)
theorem threeP_succ (b a c : List Lin) (n : Nat) : threeP b a c (n + 1) = threeP b a c n ++ [threeL b a c n] := by
  unfold threeP; rw [List.range_succ, List.map_append]; rfl
theorem threeI_succ (b a c : List Lin) (n : Nat) : threeI b a c (n + 1) = if threeC b a c n = true then threeI b a c n ++ [(n : Int)] else threeI b a c n := by
  unfold threeI
  rw [List.range_succ, List.filter_append, List.map_append]
  by_cases h : threeC b a c n = true
  · rw [if_pos h, List.filter_cons_of_pos h, List.filter_nil]; rfl
  · rw [if_neg h, List.filter_cons_of_neg h, List.filter_nil, List.map_nil, List.append_nil]
def err3 (b a c : List Lin) : Int := if validP b = 0 then (if validP a = 0 then validP c else validP a) else validP b
def threeN (b a c : List Lin) : Int := if err3 b a c = 0 then (if a.length = b.length ∧ c.length = b.length then 0 else 9) else err3 b a c
def turnedL (p q : List Lin) (l : List Tst) : List Int := (failL p l).filter fun i => decide (i ∈ whereL (passT q) l)
def goodX (p : List Lin) (x : List Edt) (l : List Tst) : Bool := (failL (playX p x) l).isEmpty
theorem upd_len {α : Type} (f : α → α) (l : List α) (i : Nat) : ((l.take i).map f ++ l.drop i).length = l.length := by simp; omega
theorem upd_get {α : Type} (f : α → α) (l : List α) (d : α) {i : Nat} (h : i < l.length) : ((l.take i).map f ++ l.drop i).getD i d = l.getD i d := by
  rw [List.getD_eq_getElem?_getD, List.getElem?_append_right (by simp; omega), List.length_map, List.length_take, Nat.min_eq_left (by omega), Nat.sub_self, List.getElem?_drop, Nat.add_zero, ← List.getD_eq_getElem?_getD]
theorem upd_set {α : Type} (f : α → α) (l : List α) (d : α) {i : Nat} (h : i < l.length) : ((l.take i).map f ++ l.drop i).set i (f (l.getD i d)) = (l.take (i + 1)).map f ++ l.drop (i + 1) := by
  rw [List.set_append_right _ _ (by simp; omega), take_snoc d h, List.map_append, List.append_assoc, List.length_map, List.length_take, Nat.min_eq_left (by omega), Nat.sub_self]
  congr 1
  rw [List.drop_eq_getElem_cons h, List.set_cons_zero]
  rfl
theorem three_out (b a c : List Lin) (base : List Lin) {i : Nat} (h : i < base.length) (v : Lin) (hv : v = threeL b a c i) : (threeP b a c i ++ base.drop i).set i v = threeP b a c (i + 1) ++ base.drop (i + 1) := by
  rw [List.set_append_right _ _ (by simp [threeP_len]), threeP_len, Nat.sub_self, threeP_succ, hv, List.append_assoc]
  congr 1
  rw [List.drop_eq_getElem_cons h, List.set_cons_zero]
  rfl
theorem three_keep (a c : List Lin) (base : List Lin) {i : Nat} (h : i < base.length) (hv : base.getD i tL.dflt = threeL base a c i) : threeP base a c i ++ base.drop i = threeP base a c (i + 1) ++ base.drop (i + 1) := by
  rw [threeP_succ, ← hv, List.append_assoc]
  congr 1
  rw [List.drop_eq_getElem_cons h, List.getD_eq_getElem?_getD, List.getElem?_eq_getElem h]
  rfl
theorem count_take {l : List Bool} {i : Nat} (h : i < l.length) : (((l.take (i + 1)).count true : Nat) : Int) = ((l.take i).count true : Nat) + (if l.getD i false = true then 1 else 0) := by
  rw [take_snoc false h, List.count_append]
  cases l.getD i false <;> simp
theorem fields_count (l m : Lin) : (([l.1 != m.1, l.2.1 != m.2.1, l.2.2.1 != m.2.2.1, l.2.2.2.1 != m.2.2.2.1].count true : Nat) : Int) = fieldsN l m := by
  unfold fieldsN
  have hb : ∀ a b : Int, (if ((a != b) == true) = true then 1 else 0 : Nat) = if a = b then 0 else 1 := by
    intro a b
    by_cases h : a = b <;> simp [h]
  simp only [List.count_cons, List.count_nil, hb]
  split <;> split <;> split <;> split <;> rfl
theorem or_three (a b c : Int) : (([a, b, c].find? fun e' => !(e' == 0)).getD 0) = if a = 0 then (if b = 0 then c else b) else a := by
  by_cases h : a = 0
  · rw [if_pos h]
    by_cases h2 : b = 0
    · rw [if_pos h2]
      by_cases h3 : c = 0
      · simp [h, h2, h3]
      · simp [h, h2, h3]
    · rw [if_neg h2]; simp [h, h2]
  · rw [if_neg h]; simp [h]
end Go.Tk
/- Layer 4: contracts by the engine. -/
set_option linter.unusedSimpArgs false
set_option linter.unusedVariables false
set_option linter.unnecessarySimpa false
namespace Go.Tk
open Go Go.RowKit
abbrev cChk1 : Con := { A := (.cons tEd (.cons (.ref (.sl tL)) .nil)), R := (.cons .bool .nil), pre := fun x => True, F := fun x => (decide (x.1.1 ≥ (x.2.1.length : Int)), ()) }
def cChk1_0  (e : Edt) (c0 : (List Lin)) (y0 : Bool) : Prop :=
  (decide (e.1 ≥ (List.length c0 : Int))) = y0 ∧ True
theorem cChk1_law (h : ∀ (e : Edt) (c0 : (List Lin)), cChk1.A.wf (e, c0, ()) → cChk1_0  e c0 (decide (e.1 ≥ (c0.length : Int)))) : ConOK Go.Proofs.Tryz.prog 96 cChk1 := by
  refine lawL (Γ := []) (Θ := Th) (n := 9) [] trivial (by kernel_rfl) th_ok mix_ok Go.Proofs.Tryz.func96 (by kernel_rfl) ?_
  intro x hw hp Λ hC
  have h0 := h x.1 x.2.1 hw  
  exact Eq.mpr (by kernel_rfl) h0
theorem cChk1_ok : ConOK Go.Proofs.Tryz.prog 96 cChk1 := by
  refine cChk1_law ?_
  intro e c0 hw
  unfold cChk1_0
  exact ⟨rfl, trivial⟩
abbrev cChk : Con := { A := (.cons (.sl tL) (.cons (.sl tEd) (.cons (.sl tTs) .nil))), R := (.cons .int .nil), pre := fun x => True, F := fun x => (errXT x.1 x.2.1 x.2.2.1, ()) }
def cChk_0  (p : (List Lin)) (x : (List Edt)) (l : (List Tst)) (y0 : Int) : Prop :=
  True ∧ (if ((validP p) != (0 : Int)) = true then ((validP p) = y0 ∧ True) else (True ∧ (if ((validX x) != (0 : Int)) = true then ((validX x) = y0 ∧ True) else (True ∧ (if ((validT l) != (0 : Int)) = true then ((validT l) = y0 ∧ True) else ((∀ r' ∈ x, (fun (xx : (Edt × Unit)) => True, fun (xx : (Edt × Unit)) => (decide (xx.1.1 ≥ (p.length : Int)), ())).1 (r', ())) ∧ (if (x.any (fun r' => ((fun (xx : (Edt × Unit)) => True, fun (xx : (Edt × Unit)) => (decide (xx.1.1 ≥ (p.length : Int)), ())).2 (r', ())).1)) = true then ((4 : Int) = y0 ∧ True) else ((0 : Int) = y0 ∧ True))))))))
theorem cChk_law (h : ∀ (p : (List Lin)) (x : (List Edt)) (l : (List Tst)), cChk.A.wf (p, x, l, ()) → cChk_0  p x l (errXT p x l)) : ConOK Go.Proofs.Tryz.prog 57 cChk := by
  refine lawX (X := { subs := [], frz := [3], U := [], mul := [], nst := [], nls := [], itf := none, inp := [], arrs := [] }) (hX := xok0 _ trivial) (Γ := [(96, cChk1), (95, cContE), (80, cValP), (94, cValT), (19, cValX)]) (Θ := Th) (n := 28) [] ⟨cChk1_ok, cContE_ok, cValP_ok, cValT_ok, cValX_ok, trivial⟩ (by kernel_rfl) th_ok mix_ok Go.Proofs.Tryz.func57 (by kernel_rfl) ?_
  intro x hw hp Λ hC
  have h0 := h x.1 x.2.1 x.2.2.1 hw  
  exact Eq.mpr (by kernel_rfl) h0
theorem cChk_ok : ConOK Go.Proofs.Tryz.prog 57 cChk := by
  refine cChk_law ?_
  intro p x l hw
  unfold cChk_0
  refine ⟨trivial, ?_⟩
  unfold errXT
  by_cases h1 : validP p = 0
  · rw [if_neg (by simp [h1]), if_pos h1]
    refine ⟨trivial, ?_⟩
    by_cases h2 : validX x = 0
    · rw [if_neg (by simp [h2]), if_pos h2]
      refine ⟨trivial, ?_⟩
      by_cases h3 : validT l = 0
      · rw [if_neg (by simp [h3]), if_pos h3]
        refine ⟨fun _ _ => trivial, ?_⟩
        show if far p.length x = true then _ else _
        by_cases h4 : far p.length x = true
        · rw [if_pos h4, if_pos h4]; exact ⟨rfl, trivial⟩
        · rw [if_neg h4, if_neg h4]; exact ⟨rfl, trivial⟩
      · rw [if_pos (by simpa using h3), if_neg h3]; exact ⟨rfl, trivial⟩
    · rw [if_pos (by simpa using h2), if_neg h2]; exact ⟨rfl, trivial⟩
  · rw [if_pos (by simpa using h1), if_neg h1]; exact ⟨rfl, trivial⟩
abbrev cDoE : Con := { A := (.cons (.sl tL) (.cons (.sl tEd) .nil)), R := (.cons (.osl tL) (.cons .int .nil)), pre := fun x => True, F := fun x => ((if errX x.1 x.2.1 = 0 then playX x.1 x.2.1 else []), errX x.1 x.2.1, ()) }
def cDoE_0  (p : (List Lin)) (x : (List Edt)) (y0 : (List Lin)) (y1 : Int) : Prop :=
  True ∧ (if ((errXT p x ([] : List Tst)) != (0 : Int)) = true then ((errXT p x ([] : List Tst)) = y1 ∧ ([] : List Lin) = y0) else ((p.length ≤ 1000 ∧ x.length ≤ 1000 ∧ Asc (readE x) ∧ inX p.length x) ∧ ((0 : Int) = y1 ∧ (playX p x) = y0)))
theorem cDoE_law (h : ∀ (p : (List Lin)) (x : (List Edt)), cDoE.A.wf (p, x, ()) → cDoE_0  p x (if errX p x = 0 then playX p x else []) (errX p x)) : ConOK Go.Proofs.Tryz.prog 17 cDoE := by
  refine lawL (Γ := [(57, cChk), (58, cDo)]) (Θ := Th) (n := 16) [] ⟨cChk_ok, cDo_ok, trivial⟩ (by kernel_rfl) th_ok mix_ok Go.Proofs.Tryz.func17 (by kernel_rfl) ?_
  intro x hw hp Λ hC
  have h0 := h x.1 x.2.1 hw  
  exact Eq.mpr (by kernel_rfl) h0
theorem cDoE_ok : ConOK Go.Proofs.Tryz.prog 17 cDoE := by
  refine cDoE_law ?_
  intro p x hw
  unfold cDoE_0
  refine ⟨trivial, ?_⟩
  by_cases h : errX p x = 0
  · have h' : errXT p x [] = 0 := h
    obtain ⟨g1, g2, g3⟩ := errX_ok h
    have h8 := (validP_ok g1).1
    have h4 := (validX_ok g2).1
    rw [if_neg (by simp [h'])]
    exact ⟨⟨by omega, by omega, validX_asc g2, g3⟩, h.symm, by rw [if_pos h]⟩
  · have h' : ¬ errXT p x [] = 0 := h
    rw [if_pos (by simpa using h')]
    exact ⟨rfl, by rw [if_neg h]⟩
abbrev cCloneE : Con := { A := (.cons (.sl tEd) .nil), R := (.cons (.osl tEd) .nil), pre := fun x => x.1.length ≤ 1000000, F := fun x => (x.1, ()) }
def cCloneE_0  (s : (List Edt)) (y0 : (List Edt)) : Prop :=
  (s = [] → ([] : List Edt) = y0) ∧ (True → (List.length ([] : List Edt) + List.length s ≤ 4294967296 ∧ (([] : List Edt) ++ s) = y0))
theorem cCloneE_law (h : ∀ (s : (List Edt)), cCloneE.A.wf (s, ()) → (s.length ≤ 1000000) → cCloneE_0  s s) : ConOK Go.Proofs.Tryz.prog 63 cCloneE := by
  refine lawL (Γ := []) (Θ := Th) (n := 8) [] trivial (by kernel_rfl) th_ok mix_ok Go.Proofs.Tryz.func63 (by kernel_rfl) ?_
  intro x hw hp Λ hC
  have h0 := h x.1 hw hp  
  exact Eq.mpr (by kernel_rfl) h0
theorem cCloneE_ok : ConOK Go.Proofs.Tryz.prog 63 cCloneE := by
  refine cCloneE_law ?_
  intro s hw hp
  unfold cCloneE_0
  exact ⟨fun h => h.symm, fun _ => ⟨by simp only [List.length_nil]; omega, by simp⟩⟩
abbrev cInv : Con := { A := (.cons (.sl tL) (.cons (.sl tEd) .nil)), R := (.cons (.osl tEd) (.cons .int .nil)), pre := fun x => True, F := fun x => ((if errX x.1 x.2.1 = 0 then invX x.1 x.2.1 else []), errX x.1 x.2.1, ()) }
def cInv_0 (Λ1 : Int → (List Edt) → Prop) (p : (List Lin)) (x : (List Edt)) (y0 : (List Edt)) (y1 : Int) : Prop :=
  True ∧ (if ((errXT p x ([] : List Tst)) != (0 : Int)) = true then ((errXT p x ([] : List Tst)) = y1 ∧ ([] : List Edt) = y0) else (x.length ≤ 1000000 ∧ Λ1 (0 : Int) x))
def cInv_1 (Λ1 : Int → (List Edt) → Prop) (p : (List Lin)) (x : (List Edt)) (y0 : (List Edt)) (y1 : Int)  (t20_1 : Int) (out_1 : (List Edt)) : Prop :=
  if (decide (t20_1 < (List.length x : Int))) = true then (idx t20_1 (List.length out_1 : Int) ∧ (idx ((List.getD out_1 (Int.toNat t20_1) tEd.dflt).1) (List.length p : Int) ∧ (idx t20_1 (List.length out_1 : Int) ∧ (inI (t20_1 + (1 : Int)) ∧ Λ1 (t20_1 + (1 : Int)) (List.set out_1 (Int.toNat t20_1) ((List.getD out_1 (Int.toNat t20_1) tEd.dflt).1, (List.getD p (Int.toNat ((List.getD out_1 (Int.toNat t20_1) tEd.dflt).1)) tL.dflt), ())))))) else ((0 : Int) = y1 ∧ out_1 = y0)
theorem cInv_law (h : ∀ (p : (List Lin)) (x : (List Edt)), cInv.A.wf (p, x, ()) → ∀ (Λ1 : Int → (List Edt) → Prop), (∀ (t20_1 : Int) (out_1 : (List Edt)), cInv_1 Λ1 p x (if errX p x = 0 then invX p x else []) (errX p x) t20_1 out_1 → Λ1 t20_1 out_1) → cInv_0 Λ1 p x (if errX p x = 0 then invX p x else []) (errX p x)) : ConOK Go.Proofs.Tryz.prog 22 cInv := by
  refine lawL (Γ := [(57, cChk), (63, cCloneE)]) (Θ := Th) (n := 36) [([1, 1, 1, 0, 1, 0], ⟨[(0, false), (7, true), (18, true), (19, true), (20, true)], [(17, true)]⟩)] ⟨cChk_ok, cCloneE_ok, trivial⟩ (by kernel_rfl) th_ok mix_ok Go.Proofs.Tryz.func22 (by kernel_rfl) ?_
  intro x hw hp Λ hC
  have h0 := h x.1 x.2.1 hw (fun t20_1 out_1 => Λ [1, 1, 1, 0, 1, 0] ([(0, .d false (.sl tL) x.1), (7, .own 17 0), (18, .own 17 0), (19, .d true .int (List.length x.2.1 : Int)), (20, .d true .int t20_1)], [(17, .sl true tEd out_1)])) (fun t20_1 out_1 hb => hC [1, 1, 1, 0, 1, 0] ([(0, .d false (.sl tL) x.1), (7, .own 17 0), (18, .own 17 0), (19, .d true .int (List.length x.2.1 : Int)), (20, .d true .int t20_1)], [(17, .sl true tEd out_1)]) (Eq.mpr (by kernel_rfl) hb))
  exact Eq.mpr (by kernel_rfl) h0
theorem cInv_ok : ConOK Go.Proofs.Tryz.prog 22 cInv := by
  refine cInv_law ?_
  intro p x hw Λ1 h1
  unfold cInv_0
  refine ⟨trivial, ?_⟩
  by_cases h : errX p x = 0
  · have h' : errXT p x [] = 0 := h
    obtain ⟨g1, g2, g3⟩ := errX_ok h
    have h8 := (validP_ok g1).1
    have h4 := (validX_ok g2).1
    rw [if_neg (by simp [h'])]
    refine ⟨by omega, ?_⟩
    refine upto (n := x.length) (Q := fun i => Λ1 (i : Int) ((x.take i).map (invE p) ++ x.drop i)) ?_ ?_ 0 (Nat.zero_le _)
    · apply h1; unfold cInv_1
      rw [if_neg (by simp), List.take_length, List.drop_length, List.append_nil, if_pos h]
      exact ⟨h.symm, rfl⟩
    · intro i hi ih
      apply h1; unfold cInv_1
      rw [if_pos (by simpa using hi), Int.toNat_natCast, upd_get (invE p) x tEd.dflt hi, upd_len]
      have he := g3 _ (mem_getD (d := tEd.dflt) hi)
      refine ⟨idx_nat hi, by unfold idx; omega, idx_nat hi, by unfold inI; omega, ?_⟩
      rw [← upd_set (invE p) x tEd.dflt hi] at ih
      exact ih
  · have h' : ¬ errXT p x [] = 0 := h
    rw [if_pos (by simpa using h')]
    exact ⟨rfl, by rw [if_neg h]⟩
abbrev cFields : Con := { A := (.cons tL (.cons tL .nil)), R := (.cons .int .nil), pre := fun x => True, F := fun x => (fieldsN x.1 x.2.1, ()) }
def cFields_0 (Λ1 : Int → Int → Prop) (l : Lin) (m : Lin) (y0 : Int) : Prop :=
  Λ1 (0 : Int) (0 : Int)
def cFields_1 (Λ1 : Int → Int → Prop) (l : Lin) (m : Lin) (y0 : Int)  (n_1 : Int) (t30_1 : Int) : Prop :=
  if (decide (t30_1 < (List.length [(l.1 != m.1), (l.2.1 != m.2.1), (l.2.2.1 != m.2.2.1), (l.2.2.2.1 != m.2.2.2.1)] : Int))) = true then (idx t30_1 (List.length [(l.1 != m.1), (l.2.1 != m.2.1), (l.2.2.1 != m.2.2.1), (l.2.2.2.1 != m.2.2.2.1)] : Int) ∧ (if (List.getD [(l.1 != m.1), (l.2.1 != m.2.1), (l.2.2.1 != m.2.2.1), (l.2.2.2.1 != m.2.2.2.1)] (Int.toNat t30_1) false) = true then (inI (n_1 + (1 : Int)) ∧ (inI (t30_1 + (1 : Int)) ∧ Λ1 (n_1 + (1 : Int)) (t30_1 + (1 : Int)))) else (inI (t30_1 + (1 : Int)) ∧ Λ1 n_1 (t30_1 + (1 : Int))))) else (n_1 = y0 ∧ True)
theorem cFields_law (h : ∀ (l : Lin) (m : Lin), cFields.A.wf (l, m, ()) → ∀ (Λ1 : Int → Int → Prop), (∀ (n_1 : Int) (t30_1 : Int), cFields_1 Λ1 l m (fieldsN l m) n_1 t30_1 → Λ1 n_1 t30_1) → cFields_0 Λ1 l m (fieldsN l m)) : ConOK Go.Proofs.Tryz.prog 75 cFields := by
  refine lawL (Γ := []) (Θ := Th) (n := 39) [([1, 1, 0, 1, 0], ⟨[(5, true), (28, true), (29, true), (30, true)], [(28, true)]⟩)] trivial (by kernel_rfl) th_ok mix_ok Go.Proofs.Tryz.func75 (by kernel_rfl) ?_
  intro x hw hp Λ hC
  have h0 := h x.1 x.2.1 hw (fun n_1 t30_1 => Λ [1, 1, 0, 1, 0] ([(5, .d true .int n_1), (28, .own 28 0), (29, .d true .int (List.length [(x.1.1 != x.2.1.1), (x.1.2.1 != x.2.1.2.1), (x.1.2.2.1 != x.2.1.2.2.1), (x.1.2.2.2.1 != x.2.1.2.2.2.1)] : Int)), (30, .d true .int t30_1)], [(28, .sl true .bool [(x.1.1 != x.2.1.1), (x.1.2.1 != x.2.1.2.1), (x.1.2.2.1 != x.2.1.2.2.1), (x.1.2.2.2.1 != x.2.1.2.2.2.1)])])) (fun n_1 t30_1 hb => hC [1, 1, 0, 1, 0] ([(5, .d true .int n_1), (28, .own 28 0), (29, .d true .int (List.length [(x.1.1 != x.2.1.1), (x.1.2.1 != x.2.1.2.1), (x.1.2.2.1 != x.2.1.2.2.1), (x.1.2.2.2.1 != x.2.1.2.2.2.1)] : Int)), (30, .d true .int t30_1)], [(28, .sl true .bool [(x.1.1 != x.2.1.1), (x.1.2.1 != x.2.1.2.1), (x.1.2.2.1 != x.2.1.2.2.1), (x.1.2.2.2.1 != x.2.1.2.2.2.1)])]) (Eq.mpr (by kernel_rfl) hb))
  exact Eq.mpr (by kernel_rfl) h0
theorem cFields_ok : ConOK Go.Proofs.Tryz.prog 75 cFields := by
  refine cFields_law ?_
  intro l m hw Λ1 h1
  unfold cFields_0
  refine upto (n := 4) (Q := fun i => Λ1 ((([l.1 != m.1, l.2.1 != m.2.1, l.2.2.1 != m.2.2.1, l.2.2.2.1 != m.2.2.2.1].take i).count true : Nat) : Int) (i : Int)) ?_ ?_ 0 (Nat.zero_le _)
  · apply h1; unfold cFields_1
    rw [if_neg (by simp)]
    exact ⟨fields_count l m, trivial⟩
  · intro i hi ih
    have hc := count_take (l := [l.1 != m.1, l.2.1 != m.2.1, l.2.2.1 != m.2.2.1, l.2.2.2.1 != m.2.2.2.1]) (i := i) hi
    have hcl : ([l.1 != m.1, l.2.1 != m.2.1, l.2.2.1 != m.2.2.1, l.2.2.2.1 != m.2.2.2.1].take i).count true ≤ 4 := Nat.le_trans List.count_le_length (by simp; omega)
    rw [hc] at ih
    apply h1; unfold cFields_1
    rw [if_pos (by simp; omega), Int.toNat_natCast]
    refine ⟨idx_nat hi, ?_⟩
    cases hv : ([l.1 != m.1, l.2.1 != m.2.1, l.2.2.1 != m.2.2.1, l.2.2.2.1 != m.2.2.2.1]).getD i false
    · rw [hv] at ih
      rw [if_neg (by simp)] at ih
      rw [if_neg (by simp)]
      exact ⟨by unfold inI; omega, by simpa using ih⟩
    · rw [hv, if_pos rfl] at ih
      rw [if_pos rfl]
      exact ⟨by unfold inI; omega, by unfold inI; omega, ih⟩
abbrev cSize4 : Con := { A := (.cons (.sl tL) (.cons (.sl tEd) .nil)), R := (.cons .int (.cons .int .nil)), pre := fun x => True, F := fun x => ((if errX x.1 x.2.1 = 0 then sizeX x.1 x.2.1 else 0), errX x.1 x.2.1, ()) }
def cSize4_0 (Λ1 : Int → Int → Prop) (p : (List Lin)) (x : (List Edt)) (y0 : Int) (y1 : Int) : Prop :=
  True ∧ (if ((errXT p x ([] : List Tst)) != (0 : Int)) = true then ((0 : Int) = y0 ∧ (errXT p x ([] : List Tst)) = y1 ∧ True) else Λ1 (0 : Int) (0 : Int))
def cSize4_1 (Λ1 : Int → Int → Prop) (p : (List Lin)) (x : (List Edt)) (y0 : Int) (y1 : Int)  (n_1 : Int) (t18_1 : Int) : Prop :=
  if (decide (t18_1 < (List.length x : Int))) = true then (idx t18_1 (List.length x : Int) ∧ (idx ((List.getD x (Int.toNat t18_1) tEd.dflt).1) (List.length p : Int) ∧ (True ∧ (inI (n_1 + (fieldsN (List.getD p (Int.toNat ((List.getD x (Int.toNat t18_1) tEd.dflt).1)) tL.dflt) ((List.getD x (Int.toNat t18_1) tEd.dflt).2.1))) ∧ (inI (t18_1 + (1 : Int)) ∧ Λ1 (n_1 + (fieldsN (List.getD p (Int.toNat ((List.getD x (Int.toNat t18_1) tEd.dflt).1)) tL.dflt) ((List.getD x (Int.toNat t18_1) tEd.dflt).2.1))) (t18_1 + (1 : Int))))))) else (n_1 = y0 ∧ (0 : Int) = y1 ∧ True)
theorem cSize4_law (h : ∀ (p : (List Lin)) (x : (List Edt)), cSize4.A.wf (p, x, ()) → ∀ (Λ1 : Int → Int → Prop), (∀ (n_1 : Int) (t18_1 : Int), cSize4_1 Λ1 p x (if errX p x = 0 then sizeX p x else 0) (errX p x) n_1 t18_1 → Λ1 n_1 t18_1) → cSize4_0 Λ1 p x (if errX p x = 0 then sizeX p x else 0) (errX p x)) : ConOK Go.Proofs.Tryz.prog 32 cSize4 := by
  refine lawL (Γ := [(57, cChk), (75, cFields)]) (Θ := Th) (n := 34) [([1, 1, 1, 0, 1, 0], ⟨[(0, false), (7, true), (16, false), (17, true), (18, true)], []⟩)] ⟨cChk_ok, cFields_ok, trivial⟩ (by kernel_rfl) th_ok mix_ok Go.Proofs.Tryz.func32 (by kernel_rfl) ?_
  intro x hw hp Λ hC
  have h0 := h x.1 x.2.1 hw (fun n_1 t18_1 => Λ [1, 1, 1, 0, 1, 0] ([(0, .d false (.sl tL) x.1), (7, .d true .int n_1), (16, .d false (.sl tEd) x.2.1), (17, .d true .int (List.length x.2.1 : Int)), (18, .d true .int t18_1)], [])) (fun n_1 t18_1 hb => hC [1, 1, 1, 0, 1, 0] ([(0, .d false (.sl tL) x.1), (7, .d true .int n_1), (16, .d false (.sl tEd) x.2.1), (17, .d true .int (List.length x.2.1 : Int)), (18, .d true .int t18_1)], []) (Eq.mpr (by kernel_rfl) hb))
  exact Eq.mpr (by kernel_rfl) h0
theorem cSize4_ok : ConOK Go.Proofs.Tryz.prog 32 cSize4 := by
  refine cSize4_law ?_
  intro p x hw Λ1 h1
  unfold cSize4_0
  refine ⟨trivial, ?_⟩
  by_cases h : errX p x = 0
  · have h' : errXT p x [] = 0 := h
    obtain ⟨g1, g2, g3⟩ := errX_ok h
    have h8 := (validP_ok g1).1
    have h4 := (validX_ok g2).1
    rw [if_neg (by simp [h'])]
    refine upto (n := x.length) (Q := fun i => Λ1 (sizeX p (x.take i)) (i : Int)) ?_ ?_ 0 (Nat.zero_le _)
    · apply h1; unfold cSize4_1
      rw [if_neg (by simp), List.take_length, if_pos h]
      exact ⟨rfl, h.symm, trivial⟩
    · intro i hi ih
      rw [sizeX_take hi] at ih
      have hb := sizeX_bd p (x.take i)
      have hf := fieldsN_bd (p.getD (x.getD i tEd.dflt).1.toNat tL.dflt) (x.getD i tEd.dflt).2.1
      rw [List.length_take] at hb
      have he := g3 _ (mem_getD (d := tEd.dflt) hi)
      apply h1; unfold cSize4_1
      rw [if_pos (by simpa using hi), Int.toNat_natCast]
      exact ⟨idx_nat hi, by unfold idx; omega, trivial, by unfold inI; omega, by unfold inI; omega, ih⟩
  · have h' : ¬ errXT p x [] = 0 := h
    rw [if_pos (by simpa using h'), if_neg h]
    exact ⟨rfl, rfl, trivial⟩
abbrev cDelE : InC := { a := tEd, B := (.cons (.fn (.cons tEd .nil) (.cons .bool .nil)) .nil), pre := fun xs x => ∀ r', r' ∈ xs → x.1.1 (r', ()), F := fun xs x => xs.filter (fun r' => !(x.1.2 (r', ())).1), ret := true }
def cDelE_0 (Λ1 : Int → Int → (List Edt) → Prop) (s : (List Edt)) (del : (T.fn (.cons tEd .nil) (.cons .bool .nil)).den) (y0 : (List Edt)) : Prop :=
  (∀ r' ∈ s, del.1 (r', ())) ∧ (if ((idxF (fun r' => (del.2 (r', ())).1) s) == (-1 : Int)) = true then s = y0 else (inI ((idxF (fun r' => (del.2 (r', ())).1) s) + (1 : Int)) ∧ Λ1 (idxF (fun r' => (del.2 (r', ())).1) s) ((idxF (fun r' => (del.2 (r', ())).1) s) + (1 : Int)) s))
def cDelE_1 (Λ1 : Int → Int → (List Edt) → Prop) (s : (List Edt)) (del : (T.fn (.cons tEd .nil) (.cons .bool .nil)).den) (y0 : (List Edt))  (i_1 : Int) (j_1 : Int) (s_1 : (List Edt)) : Prop :=
  if (decide (j_1 < (List.length s_1 : Int))) = true then (idx j_1 (List.length s_1 : Int) ∧ (del.1 ((List.getD s_1 (Int.toNat j_1) tEd.dflt), ()) ∧ (if (!((del.2 ((List.getD s_1 (Int.toNat j_1) tEd.dflt), ())).1)) = true then (idx i_1 (List.length s_1 : Int) ∧ (inI (i_1 + (1 : Int)) ∧ (inI (j_1 + (1 : Int)) ∧ Λ1 (i_1 + (1 : Int)) (j_1 + (1 : Int)) (List.set s_1 (Int.toNat i_1) (List.getD s_1 (Int.toNat j_1) tEd.dflt))))) else (inI (j_1 + (1 : Int)) ∧ Λ1 i_1 (j_1 + (1 : Int)) s_1)))) else ((0 ≤ i_1 ∧ i_1 ≤ (List.length s_1 : Int) ∧ (List.length s_1 : Int) ≤ (List.length s_1 : Int) ∧ (List.length s_1 : Int) ≤ (List.length s_1 : Int)) ∧ (True ∧ ((0 ≤ (0 : Int) ∧ (0 : Int) ≤ i_1 ∧ i_1 ≤ (List.length (List.take (Int.toNat i_1) s_1 ++ List.replicate ((Int.toNat (List.length s_1 : Int)) - (Int.toNat i_1)) tEd.dflt ++ List.drop (Int.toNat (List.length s_1 : Int)) s_1) : Int) ∧ (List.length (List.take (Int.toNat i_1) s_1 ++ List.replicate ((Int.toNat (List.length s_1 : Int)) - (Int.toNat i_1)) tEd.dflt ++ List.drop (Int.toNat (List.length s_1 : Int)) s_1) : Int) ≤ (List.length (List.take (Int.toNat i_1) s_1 ++ List.replicate ((Int.toNat (List.length s_1 : Int)) - (Int.toNat i_1)) tEd.dflt ++ List.drop (Int.toNat (List.length s_1 : Int)) s_1) : Int)) ∧ List.take (Int.toNat i_1) (List.take (Int.toNat i_1) s_1 ++ List.replicate ((Int.toNat (List.length s_1 : Int)) - (Int.toNat i_1)) tEd.dflt ++ List.drop (Int.toNat (List.length s_1 : Int)) s_1) = y0)))
theorem cDelE_law (h : ∀ (s : (List Edt)) (del : (T.fn (.cons tEd .nil) (.cons .bool .nil)).den), (T.sl cDelE.a).wf s → cDelE.B.wf (del, ()) → (∀ r', r' ∈ s → del.1 (r', ())) → ∀ (Λ1 : Int → Int → (List Edt) → Prop), (∀ (i_1 : Int) (j_1 : Int) (s_1 : (List Edt)), cDelE_1 Λ1 s del (s.filter (fun r' => !(del.2 (r', ())).1)) i_1 j_1 s_1 → Λ1 i_1 j_1 s_1) → cDelE_0 Λ1 s del (s.filter (fun r' => !(del.2 (r', ())).1))) : InF Go.Proofs.Tryz.prog 77 cDelE := by
  refine lawI (X := { subs := [38, 41], frz := [], U := [], mul := [], nst := [], nls := [], itf := none, inp := [], arrs := [] }) (hX := xok0 _ trivial) (Γ := [(112, cIndexE)]) (Θ := Th) (n := 42) [([1, 1, 1, 0, 1, 0], ⟨[(0, true), (1, false), (5, true), (6, true)], [(0, false)]⟩)] ⟨cIndexE_ok, trivial⟩ (by kernel_rfl) th_ok mix_ok Go.Proofs.Tryz.func77 (by kernel_rfl) ?_
  intro xs x hs hw hp Λ hC
  have h0 := h xs x.1 hs hw hp (fun i_1 j_1 s_1 => Λ [1, 1, 1, 0, 1, 0] ([(0, .own 0 0), (1, .d false (.fn (.cons tEd .nil) (.cons .bool .nil)) x.1), (5, .d true .int i_1), (6, .d true .int j_1)], [(0, .sl false tEd s_1)])) (fun i_1 j_1 s_1 hb => hC [1, 1, 1, 0, 1, 0] ([(0, .own 0 0), (1, .d false (.fn (.cons tEd .nil) (.cons .bool .nil)) x.1), (5, .d true .int i_1), (6, .d true .int j_1)], [(0, .sl false tEd s_1)]) (Eq.mpr (by kernel_rfl) hb))
  exact Eq.mpr (by kernel_rfl) h0
theorem cDelE_ok : FunOK Go.Proofs.Tryz.prog 77 ∧ InF Go.Proofs.Tryz.prog 77 cDelE := by
  refine ⟨funB_ok (by kernel_rfl), cDelE_law ?_⟩
  intro s del hs hw hp Λ1 h1
  unfold cDelE_0
  have hl : s.length ≤ 140737488355328 := hs.1
  refine ⟨hp, ?_⟩
  generalize hpe : (fun r => (del.2 (r, ())).1) = p
  have hfe : (s.filter fun r => !(del.2 (r, ())).1) = s.filter fun r => !p r := by rw [← hpe]
  rw [hfe]
  rw [hfe] at h1
  rcases idxF_cases tEd.dflt p s with ⟨e1, e2⟩ | ⟨k, hk, e1, e2, e3⟩
  · rw [e1, if_pos (by rfl), filter_none e2]
  · rw [e1, if_neg (by simp)]
    refine ⟨by unfold inI; omega, ?_⟩
    obtain ⟨d1, d2⟩ := DelI.start tEd.dflt hk e2 e3
    have key : ∀ j, j ≤ s.length → ∀ s1, DelI p s s1 j → Λ1 ((keepK p s j).length : Int) (j : Int) s1 := by
      refine upto ?_ ?_
      · intro s1 hd
        apply h1; unfold cDelE_1
        rw [if_neg (by simp [hd.len])]
        have hkl := keepK_len p s s.length
        refine ⟨⟨by omega, by rw [hd.len]; omega, Int.le_refl _, Int.le_refl _⟩, trivial, ⟨Int.le_refl _, by omega, ?_, Int.le_refl _⟩, ?_⟩
        · simp [hd.len]; omega
        · simp only [Int.toNat_natCast]
          rw [List.take_append_of_le_length (by simp [hd.len]; omega), List.take_append_of_le_length (by simp [hd.len]; omega), List.take_take, Nat.min_self, hd.fst, keepK_all]
      · intro j hj ih s1 hd
        apply h1; unfold cDelE_1
        rw [if_pos (by simp [hd.len]; exact hj)]
        rw [Int.toNat_natCast, hd.get (d := tEd.dflt) hj]
        have hlt := hd.lt
        refine ⟨⟨by omega, by rw [hd.len]; omega⟩, hp _ (mem_getD hj), ?_⟩
        have hpv : (del.2 (s.getD j tEd.dflt, ())).1 = p (s.getD j tEd.dflt) := by rw [← hpe]
        rw [hpv]
        cases hv : p (s.getD j tEd.dflt)
        · rw [if_pos (by rfl)]
          obtain ⟨g1, g2⟩ := hd.keep (d := tEd.dflt) hj hv
          have := ih _ g1
          rw [g2] at this
          exact ⟨⟨by omega, by rw [hd.len]; omega⟩, by unfold inI; omega, by unfold inI; omega, by simpa using this⟩
        · rw [if_neg (by simp)]
          obtain ⟨g1, g2⟩ := hd.skip (d := tEd.dflt) hj hv
          have := ih _ g1
          rw [g2] at this
          exact ⟨by unfold inI; omega, by simpa using this⟩
    have := key (k + 1) (by omega) s d1
    rw [d2] at this
    simpa using this
abbrev cClean1 : Con := { A := (.cons tEd (.cons (.ref (.sl tL)) .nil)), R := (.cons .bool .nil), pre := fun x => 0 ≤ x.1.1 ∧ x.1.1 < x.2.1.length, F := fun x => (sameE x.2.1 x.1, ()) }
def cClean1_0  (e : Edt) (c0 : (List Lin)) (y0 : Bool) : Prop :=
  idx e.1 (List.length c0 : Int) ∧ ((T.eqB tL (List.getD c0 (Int.toNat e.1) tL.dflt) e.2.1) = y0 ∧ True)
theorem cClean1_law (h : ∀ (e : Edt) (c0 : (List Lin)), cClean1.A.wf (e, c0, ()) → (0 ≤ e.1 ∧ e.1 < c0.length) → cClean1_0  e c0 (sameE c0 e)) : ConOK Go.Proofs.Tryz.prog 78 cClean1 := by
  refine lawL (Γ := []) (Θ := Th) (n := 12) [] trivial (by kernel_rfl) th_ok mix_ok Go.Proofs.Tryz.func78 (by kernel_rfl) ?_
  intro x hw hp Λ hC
  have h0 := h x.1 x.2.1 hw hp  
  exact Eq.mpr (by kernel_rfl) h0
theorem cClean1_ok : ConOK Go.Proofs.Tryz.prog 78 cClean1 := by
  refine cClean1_law ?_
  intro e c0 hw hp
  unfold cClean1_0
  refine ⟨by unfold idx; omega, ?_, trivial⟩
  unfold sameE
  rw [Bool.eq_iff_iff, eqB_iff rfl, decide_eq_true_eq]
abbrev cClean : Con := { A := (.cons (.sl tL) (.cons (.sl tEd) .nil)), R := (.cons (.osl tEd) (.cons .int .nil)), pre := fun x => True, F := fun x => ((if errX x.1 x.2.1 = 0 then cleanX x.1 x.2.1 else []), errX x.1 x.2.1, ()) }
def cClean_0  (p : (List Lin)) (x : (List Edt)) (y0 : (List Edt)) (y1 : Int) : Prop :=
  True ∧ (if ((errXT p x ([] : List Tst)) != (0 : Int)) = true then ((errXT p x ([] : List Tst)) = y1 ∧ ([] : List Edt) = y0) else (x.length ≤ 1000000 ∧ ((∀ r', r' ∈ x → (fun (xx : (Edt × Unit)) => 0 ≤ xx.1.1 ∧ xx.1.1 < p.length, fun (xx : (Edt × Unit)) => (sameE p xx.1, ())).1 (r', ())) ∧ ((0 : Int) = y1 ∧ (x.filter (fun r' => !((fun (xx : (Edt × Unit)) => 0 ≤ xx.1.1 ∧ xx.1.1 < p.length, fun (xx : (Edt × Unit)) => (sameE p xx.1, ())).2 (r', ())).1)) = y0))))
theorem cClean_law (h : ∀ (p : (List Lin)) (x : (List Edt)), cClean.A.wf (p, x, ()) → cClean_0  p x (if errX p x = 0 then cleanX p x else []) (errX p x)) : ConOK Go.Proofs.Tryz.prog 34 cClean := by
  refine lawX (X := { subs := [], frz := [2], U := [], mul := [], nst := [], nls := [], itf := none, inp := [(77, cDelE)], arrs := [] }) (hX := xok0 _ ⟨cDelE_ok, trivial⟩) (Γ := [(57, cChk), (78, cClean1), (63, cCloneE)]) (Θ := Th) (n := 17) [] ⟨cChk_ok, cClean1_ok, cCloneE_ok, trivial⟩ (by kernel_rfl) th_ok mix_ok Go.Proofs.Tryz.func34 (by kernel_rfl) ?_
  intro x hw hp Λ hC
  have h0 := h x.1 x.2.1 hw  
  exact Eq.mpr (by kernel_rfl) h0
theorem cClean_ok : ConOK Go.Proofs.Tryz.prog 34 cClean := by
  refine cClean_law ?_
  intro p x hw
  unfold cClean_0
  refine ⟨trivial, ?_⟩
  by_cases h : errX p x = 0
  · have h' : errXT p x [] = 0 := h
    obtain ⟨g1, g2, g3⟩ := errX_ok h
    have h8 := (validP_ok g1).1
    have h4 := (validX_ok g2).1
    rw [if_neg (by simp [h'])]
    exact ⟨by omega, fun e he => g3 e he, h.symm, by rw [if_pos h]; rfl⟩
  · have h' : ¬ errXT p x [] = 0 := h
    rw [if_pos (by simpa using h')]
    exact ⟨rfl, by rw [if_neg h]⟩
abbrev cPlaces : Con := { A := (.cons (.sl tEd) .nil), R := (.cons (.osl .int) .nil), pre := fun x => x.1.length ≤ 1000000, F := fun x => (x.1.map (·.1), ()) }
def cPlaces_0 (Λ1 : Int → (List Int) → Prop) (x : (List Edt)) (y0 : (List Int)) : Prop :=
  Λ1 (0 : Int) ([] : List Int)
def cPlaces_1 (Λ1 : Int → (List Int) → Prop) (x : (List Edt)) (y0 : (List Int))  (t8_1 : Int) (out_1 : (List Int)) : Prop :=
  if (decide (t8_1 < (List.length x : Int))) = true then (idx t8_1 (List.length x : Int) ∧ (List.length out_1 + List.length [(List.getD x (Int.toNat t8_1) tEd.dflt).1] ≤ 4294967296 ∧ (inI (t8_1 + (1 : Int)) ∧ Λ1 (t8_1 + (1 : Int)) (out_1 ++ [(List.getD x (Int.toNat t8_1) tEd.dflt).1])))) else out_1 = y0
theorem cPlaces_law (h : ∀ (x : (List Edt)), cPlaces.A.wf (x, ()) → (x.length ≤ 1000000) → ∀ (Λ1 : Int → (List Int) → Prop), (∀ (t8_1 : Int) (out_1 : (List Int)), cPlaces_1 Λ1 x (x.map (·.1)) t8_1 out_1 → Λ1 t8_1 out_1) → cPlaces_0 Λ1 x (x.map (·.1))) : ConOK Go.Proofs.Tryz.prog 84 cPlaces := by
  refine lawL (Γ := []) (Θ := Th) (n := 19) [([1, 1, 0, 1, 0], ⟨[(3, true), (6, false), (7, true), (8, true)], [(3, true)]⟩)] trivial (by kernel_rfl) th_ok mix_ok Go.Proofs.Tryz.func84 (by kernel_rfl) ?_
  intro x hw hp Λ hC
  have h0 := h x.1 hw hp (fun t8_1 out_1 => Λ [1, 1, 0, 1, 0] ([(3, .own 3 0), (6, .d false (.sl tEd) x.1), (7, .d true .int (List.length x.1 : Int)), (8, .d true .int t8_1)], [(3, .sl true .int out_1)])) (fun t8_1 out_1 hb => hC [1, 1, 0, 1, 0] ([(3, .own 3 0), (6, .d false (.sl tEd) x.1), (7, .d true .int (List.length x.1 : Int)), (8, .d true .int t8_1)], [(3, .sl true .int out_1)]) (Eq.mpr (by kernel_rfl) hb))
  exact Eq.mpr (by kernel_rfl) h0
theorem cPlaces_ok : ConOK Go.Proofs.Tryz.prog 84 cPlaces := by
  refine cPlaces_law ?_
  intro x hw hp Λ1 h1
  unfold cPlaces_0
  refine upto (n := x.length) (Q := fun i => Λ1 (i : Int) ((x.map (·.1)).take i)) ?_ ?_ 0 (Nat.zero_le _)
  · apply h1; unfold cPlaces_1
    rw [if_neg (by simp), List.take_of_length_le (by simp)]
  · intro i hi ih
    rw [map_take_next (fun e : Edt => e.1) x tEd.dflt hi] at ih
    apply h1; unfold cPlaces_1
    rw [if_pos (by simpa using hi), Int.toNat_natCast]
    exact ⟨idx_nat hi, by simp; omega, by unfold inI; omega, ih⟩
abbrev cTouches : Con := { A := (.cons (.sl tEd) .nil), R := (.cons (.osl .int) (.cons .int .nil)), pre := fun x => True, F := fun x => ((if validX x.1 = 0 then x.1.map (·.1) else []), validX x.1, ()) }
def cTouches_0  (x : (List Edt)) (y0 : (List Int)) (y1 : Int) : Prop :=
  True ∧ (if ((validX x) != (0 : Int)) = true then ((validX x) = y1 ∧ ([] : List Int) = y0) else (x.length ≤ 1000000 ∧ ((0 : Int) = y1 ∧ (x.map (·.1)) = y0)))
theorem cTouches_law (h : ∀ (x : (List Edt)), cTouches.A.wf (x, ()) → cTouches_0  x (if validX x = 0 then x.map (·.1) else []) (validX x)) : ConOK Go.Proofs.Tryz.prog 44 cTouches := by
  refine lawL (Γ := [(84, cPlaces), (19, cValX)]) (Θ := Th) (n := 12) [] ⟨cPlaces_ok, cValX_ok, trivial⟩ (by kernel_rfl) th_ok mix_ok Go.Proofs.Tryz.func44 (by kernel_rfl) ?_
  intro x hw hp Λ hC
  have h0 := h x.1 hw  
  exact Eq.mpr (by kernel_rfl) h0
theorem cTouches_ok : ConOK Go.Proofs.Tryz.prog 44 cTouches := by
  refine cTouches_law ?_
  intro x hw
  unfold cTouches_0
  refine ⟨trivial, ?_⟩
  by_cases h : validX x = 0
  · have h4 := (validX_ok h).1
    rw [if_neg (by simp [h]), if_pos h]
    exact ⟨by omega, h.symm, rfl⟩
  · rw [if_pos (by simpa using h), if_neg h]; exact ⟨rfl, rfl⟩
abbrev cIndexN : Con := { A := (.cons (.sl .int) (.cons .int .nil)), R := (.cons .int .nil), pre := fun x => True, F := fun x => (idxF (fun r' => x.2.1 == r') x.1, ()) }
def cIndexN_0 (Λ1 : Int → Prop) (s : (List Int)) (v : Int) (y0 : Int) : Prop :=
  Λ1 (0 : Int)
def cIndexN_1 (Λ1 : Int → Prop) (s : (List Int)) (v : Int) (y0 : Int)  (t8_1 : Int) : Prop :=
  if (decide (t8_1 < (List.length s : Int))) = true then (idx t8_1 (List.length s : Int) ∧ (if (v == (List.getD s (Int.toNat t8_1) 0)) = true then (t8_1 = y0 ∧ True) else (inI (t8_1 + (1 : Int)) ∧ Λ1 (t8_1 + (1 : Int))))) else ((-1 : Int) = y0 ∧ True)
theorem cIndexN_law (h : ∀ (s : (List Int)) (v : Int), cIndexN.A.wf (s, v, ()) → ∀ (Λ1 : Int → Prop), (∀ (t8_1 : Int), cIndexN_1 Λ1 s v (idxF (fun r' => v == r') s) t8_1 → Λ1 t8_1) → cIndexN_0 Λ1 s v (idxF (fun r' => v == r') s)) : ConOK Go.Proofs.Tryz.prog 113 cIndexN := by
  refine lawL (Γ := []) (Θ := Th) (n := 19) [([1, 0, 1, 0], ⟨[(0, false), (1, false), (7, true), (8, true)], []⟩)] trivial (by kernel_rfl) th_ok mix_ok Go.Proofs.Tryz.func113 (by kernel_rfl) ?_
  intro x hw hp Λ hC
  have h0 := h x.1 x.2.1 hw (fun t8_1 => Λ [1, 0, 1, 0] ([(0, .d false (.sl .int) x.1), (1, .d false .int x.2.1), (7, .d true .int (List.length x.1 : Int)), (8, .d true .int t8_1)], [])) (fun t8_1 hb => hC [1, 0, 1, 0] ([(0, .d false (.sl .int) x.1), (1, .d false .int x.2.1), (7, .d true .int (List.length x.1 : Int)), (8, .d true .int t8_1)], []) (Eq.mpr (by kernel_rfl) hb))
  exact Eq.mpr (by kernel_rfl) h0
theorem cIndexN_ok : ConOK Go.Proofs.Tryz.prog 113 cIndexN := by
  refine cIndexN_law ?_
  intro s v hw Λ1 h1
  unfold cIndexN_0
  refine upto (n := s.length) (Q := fun i => (s.take i).any (fun r => v == r) = false → Λ1 i) ?_ ?_ 0 (Nat.zero_le _) rfl
  · intro ha
    rw [List.take_length] at ha
    apply h1; unfold cIndexN_1; rw [if_neg (by simp), idxF_none ha]
    exact ⟨rfl, trivial⟩
  · intro i hi ih ha
    apply h1; unfold cIndexN_1; rw [if_pos (by simpa using hi), Int.toNat_natCast]
    refine ⟨idx_nat hi, ?_⟩
    cases hv : (v == List.getD s i 0)
    · rw [if_neg (by simp)]
      exact ⟨inI_succ hi hw.1.1, ih (any_take_next (p := fun r => v == r) 0 hi ha hv)⟩
    · rw [if_pos (by rfl), idxF_at (p := fun r => v == r) 0 hi ha hv]
      exact ⟨rfl, trivial⟩
abbrev cContN : Con := { A := (.cons (.sl .int) (.cons .int .nil)), R := (.cons .bool .nil), pre := fun x => True, F := fun x => (decide (x.2.1 ∈ x.1), ()) }
def cContN_0  (s : (List Int)) (v : Int) (y0 : Bool) : Prop :=
  True ∧ ((decide ((idxF (fun r' => v == r') s) ≥ (0 : Int))) = y0 ∧ True)
theorem cContN_law (h : ∀ (s : (List Int)) (v : Int), cContN.A.wf (s, v, ()) → cContN_0  s v (decide (v ∈ s))) : ConOK Go.Proofs.Tryz.prog 83 cContN := by
  refine lawL (Γ := [(113, cIndexN)]) (Θ := Th) (n := 9) [] ⟨cIndexN_ok, trivial⟩ (by kernel_rfl) th_ok mix_ok Go.Proofs.Tryz.func83 (by kernel_rfl) ?_
  intro x hw hp Λ hC
  have h0 := h x.1 x.2.1 hw  
  exact Eq.mpr (by kernel_rfl) h0
theorem cContN_ok : ConOK Go.Proofs.Tryz.prog 83 cContN := by
  refine cContN_law ?_
  intro s v hw
  unfold cContN_0
  refine ⟨trivial, ?_, trivial⟩
  rw [idxF_any, Bool.eq_iff_iff]
  simp
abbrev cKeep1 : Con := { A := (.cons tEd (.cons (.ref (.sl .int)) .nil)), R := (.cons .bool .nil), pre := fun x => True, F := fun x => (!(decide (x.1.1 ∈ x.2.1)), ()) }
def cKeep1_0  (e : Edt) (c0 : (List Int)) (y0 : Bool) : Prop :=
  True ∧ ((!(decide (e.1 ∈ c0))) = y0 ∧ True)
theorem cKeep1_law (h : ∀ (e : Edt) (c0 : (List Int)), cKeep1.A.wf (e, c0, ()) → cKeep1_0  e c0 (!(decide (e.1 ∈ c0)))) : ConOK Go.Proofs.Tryz.prog 82 cKeep1 := by
  refine lawL (Γ := [(83, cContN)]) (Θ := Th) (n := 9) [] ⟨cContN_ok, trivial⟩ (by kernel_rfl) th_ok mix_ok Go.Proofs.Tryz.func82 (by kernel_rfl) ?_
  intro x hw hp Λ hC
  have h0 := h x.1 x.2.1 hw  
  exact Eq.mpr (by kernel_rfl) h0
theorem cKeep1_ok : ConOK Go.Proofs.Tryz.prog 82 cKeep1 := by
  refine cKeep1_law ?_
  intro e c0 hw
  unfold cKeep1_0
  exact ⟨trivial, rfl, trivial⟩
abbrev cKeep4 : Con := { A := (.cons (.sl tEd) (.cons (.sl .int) .nil)), R := (.cons (.osl tEd) (.cons .int .nil)), pre := fun x => True, F := fun x => (keepX x.1 x.2.1, keepN x.1 x.2.1, ()) }
def cKeep4_0 (Λ1 : Int → Prop) (x : (List Edt)) (at_ : (List Int)) (y0 : (List Edt)) (y1 : Int) : Prop :=
  True ∧ (if ((validX x) != (0 : Int)) = true then ((validX x) = y1 ∧ ([] : List Edt) = y0) else Λ1 (0 : Int))
def cKeep4_1 (Λ1 : Int → Prop) (x : (List Edt)) (at_ : (List Int)) (y0 : (List Edt)) (y1 : Int)  (t16_1 : Int) : Prop :=
  if (decide (t16_1 < (List.length at_ : Int))) = true then (idx t16_1 (List.length at_ : Int) ∧ (if (decide ((List.getD at_ (Int.toNat t16_1) 0) < (0 : Int))) = true then (true = true ∧ (true = true ∧ ((1 : Int) = y1 ∧ ([] : List Edt) = y0))) else (True ∧ (if (bif false then true else (decide ((List.getD at_ (Int.toNat t16_1) 0) ≥ (8 : Int)))) = true then (true = true ∧ ((1 : Int) = y1 ∧ ([] : List Edt) = y0)) else (if (decide (t16_1 > (0 : Int))) = true then (inI (t16_1 - (1 : Int)) ∧ (idx (t16_1 - (1 : Int)) (List.length at_ : Int) ∧ (True ∧ (True ∧ (if (bif false then true else (bif true then (decide ((List.getD at_ (Int.toNat (t16_1 - (1 : Int))) 0) ≥ (List.getD at_ (Int.toNat t16_1) 0))) else false)) = true then ((1 : Int) = y1 ∧ ([] : List Edt) = y0) else (inI (t16_1 + (1 : Int)) ∧ Λ1 (t16_1 + (1 : Int)))))))) else (false = false ∧ (True ∧ (if (bif false then true else false) = true then ((1 : Int) = y1 ∧ ([] : List Edt) = y0) else (inI (t16_1 + (1 : Int)) ∧ Λ1 (t16_1 + (1 : Int))))))))))) else (x.length ≤ 1000000 ∧ ((∀ r', r' ∈ x → (fun (xx : (Edt × Unit)) => True, fun (xx : (Edt × Unit)) => (!(decide (xx.1.1 ∈ at_)), ())).1 (r', ())) ∧ ((0 : Int) = y1 ∧ (x.filter (fun r' => !((fun (xx : (Edt × Unit)) => True, fun (xx : (Edt × Unit)) => (!(decide (xx.1.1 ∈ at_)), ())).2 (r', ())).1)) = y0)))
theorem cKeep4_law (h : ∀ (x : (List Edt)) (at_ : (List Int)), cKeep4.A.wf (x, at_, ()) → ∀ (Λ1 : Int → Prop), (∀ (t16_1 : Int), cKeep4_1 Λ1 x at_ (keepX x at_) (keepN x at_) t16_1 → Λ1 t16_1) → cKeep4_0 Λ1 x at_ (keepX x at_) (keepN x at_)) : ConOK Go.Proofs.Tryz.prog 42 cKeep4 := by
  refine lawX (X := { subs := [], frz := [3], U := [], mul := [], nst := [], nls := [], itf := none, inp := [(77, cDelE)], arrs := [] }) (hX := xok0 _ ⟨cDelE_ok, trivial⟩) (Γ := [(63, cCloneE), (82, cKeep1), (19, cValX)]) (Θ := Th) (n := 45) [([1, 1, 0, 1, 0], ⟨[(0, false), (3, false), (14, false), (15, true), (16, true)], []⟩)] ⟨cCloneE_ok, cKeep1_ok, cValX_ok, trivial⟩ (by kernel_rfl) th_ok mix_ok Go.Proofs.Tryz.func42 (by kernel_rfl) ?_
  intro x hw hp Λ hC
  have h0 := h x.1 x.2.1 hw (fun t16_1 => Λ [1, 1, 0, 1, 0] ([(0, .d false (.sl tEd) x.1), (3, .ept false (.sl .int) x.2.1), (14, .d false (.sl .int) x.2.1), (15, .d true .int (List.length x.2.1 : Int)), (16, .d true .int t16_1)], [])) (fun t16_1 hb => hC [1, 1, 0, 1, 0] ([(0, .d false (.sl tEd) x.1), (3, .ept false (.sl .int) x.2.1), (14, .d false (.sl .int) x.2.1), (15, .d true .int (List.length x.2.1 : Int)), (16, .d true .int t16_1)], []) (Eq.mpr (by kernel_rfl) hb))
  exact Eq.mpr (by kernel_rfl) h0
theorem cKeep4_ok : ConOK Go.Proofs.Tryz.prog 42 cKeep4 := by
  refine cKeep4_law ?_
  intro x at_ hw Λ1 h1
  unfold cKeep4_0
  refine ⟨trivial, ?_⟩
  by_cases h : validX x = 0
  · have h4 := (validX_ok h).1
    rw [if_neg (by simp [h])]
    have hN : keepN x at_ = argErr (okPl at_ at_.length) := by unfold keepN; rw [if_pos h]
    have bad : ∀ i, i < at_.length → okPl at_ (i + 1) = false → (1 : Int) = keepN x at_ ∧ ([] : List Edt) = keepX x at_ := by
      intro i hi e
      have e1 : keepN x at_ = 1 := by rw [hN, okPl_false e _ hi]; rfl
      exact ⟨e1.symm, by unfold keepX; rw [if_neg (by omega)]⟩
    refine upto (n := at_.length) (Q := fun i => okPl at_ i = true → Λ1 (i : Int)) ?_ ?_ 0 (Nat.zero_le _) rfl
    · intro ha
      have e1 : keepN x at_ = 0 := by rw [hN, ha]; rfl
      apply h1; unfold cKeep4_1
      rw [if_neg (by simp)]
      refine ⟨by omega, fun _ _ => trivial, e1.symm, ?_⟩
      unfold keepX
      rw [if_pos e1]
      congr 1
      funext e
      simp
    · intro i hi ih ha
      have hil : at_.length ≤ 140737488355328 := hw.2.1.1
      apply h1; unfold cKeep4_1
      rw [if_pos (by simpa using hi), Int.toNat_natCast]
      refine ⟨idx_nat hi, ?_⟩
      have hs : okPl at_ (i + 1) = !(decide (at_.getD i 0 < 0) || decide (at_.getD i 0 ≥ 8) || (decide (i > 0) && decide (at_.getD (i - 1) 0 ≥ at_.getD i 0))) := by
        rw [okPl, ha, Bool.true_and]
      by_cases c1 : at_.getD i 0 < 0
      · rw [if_pos (by simpa using c1)]
        exact ⟨rfl, rfl, bad i hi (by rw [hs, decide_eq_true c1]; rfl)⟩
      · rw [if_neg (by simpa using c1)]
        refine ⟨trivial, ?_⟩
        by_cases c2 : at_.getD i 0 ≥ 8
        · rw [if_pos (by rw [decide_eq_true c2]; rfl)]
          exact ⟨rfl, bad i hi (by rw [hs, decide_eq_true c2]; simp)⟩
        · rw [if_neg (by rw [decide_eq_false c2]; simp)]
          by_cases c3 : i > 0
          · rw [if_pos (by simp; omega)]
            have e3 : ((i : Int) - 1).toNat = i - 1 := by omega
            rw [e3]
            refine ⟨by unfold inI; omega, by unfold idx; omega, trivial, trivial, ?_⟩
            by_cases c4 : at_.getD (i - 1) 0 ≥ at_.getD i 0
            · rw [if_pos (by rw [decide_eq_true c4]; rfl)]
              exact bad i hi (by rw [hs, decide_eq_true c3, decide_eq_true c4]; simp)
            · rw [if_neg (by rw [decide_eq_false c4]; simp)]
              exact ⟨by unfold inI; omega, ih (by rw [hs, decide_eq_false c1, decide_eq_false c2, decide_eq_false c4]; simp)⟩
          · rw [if_neg (by simp; omega)]
            refine ⟨rfl, trivial, ?_⟩
            rw [if_neg (by simp)]
            exact ⟨by unfold inI; omega, ih (by rw [hs, decide_eq_false c1, decide_eq_false c2, decide_eq_false c3]; simp)⟩
  · rw [if_pos (by simpa using h)]
    have hN : keepN x at_ = validX x := by unfold keepN; rw [if_neg h]
    exact ⟨hN.symm, by unfold keepX; rw [if_neg (by rw [hN]; exact h)]⟩
abbrev cThree : Con := { A := (.cons (.sl tL) (.cons (.sl tL) (.cons (.sl tL) .nil))), R := (.cons (.osl tL) (.cons (.sl .int) (.cons .int .nil))), pre := fun x => True, F := fun x => ((if threeN x.1 x.2.1 x.2.2.1 = 0 then threeP x.1 x.2.1 x.2.2.1 x.1.length else []), (if threeN x.1 x.2.1 x.2.2.1 = 0 then threeI x.1 x.2.1 x.2.2.1 x.1.length else []), threeN x.1 x.2.1 x.2.2.1, ()) }
def cThree_0 (Λ1 : Int → (List Int) → (List Lin) → Prop) (Λ2 : (List Int) → (List Lin) → Int → Bool → Prop) (base : (List Lin)) (a : (List Lin)) (b : (List Lin)) (y0 : (List Lin)) (y1 : (List Int)) (y2 : Int) : Prop :=
  True ∧ (True ∧ (True ∧ ([(validP base), (validP a), (validP b)].length ≤ 100 ∧ (if ((([(validP base), (validP a), (validP b)].find? fun e' => !(e' == 0)).getD 0) != (0 : Int)) = true then (([] : List Int) = y1 ∧ (([(validP base), (validP a), (validP b)].find? fun e' => !(e' == 0)).getD 0) = y2 ∧ ([] : List Lin) = y0) else (if ((List.length a : Int) != (List.length base : Int)) = true then (true = true ∧ (([] : List Int) = y1 ∧ (9 : Int) = y2 ∧ ([] : List Lin) = y0)) else (True ∧ (if (bif false then true else ((List.length b : Int) != (List.length base : Int))) = true then (([] : List Int) = y1 ∧ (9 : Int) = y2 ∧ ([] : List Lin) = y0) else (mkLen (List.length base : Int) (List.length base : Int) ∧ Λ1 (0 : Int) ([] : List Int) (List.append (List.take (List.length (List.replicate (Int.toNat (List.length base : Int)) tL.dflt)) base) (List.drop (List.length base) (List.replicate (Int.toNat (List.length base : Int)) tL.dflt)))))))))))
def cThree_1 (Λ1 : Int → (List Int) → (List Lin) → Prop) (Λ2 : (List Int) → (List Lin) → Int → Bool → Prop) (base : (List Lin)) (a : (List Lin)) (b : (List Lin)) (y0 : (List Lin)) (y1 : (List Int)) (y2 : Int)  (t45_1 : Int) (conflicts_1 : (List Int)) (out_1 : (List Lin)) : Prop :=
  if (decide (t45_1 < (List.length base : Int))) = true then (idx t45_1 (List.length base : Int) ∧ (idx t45_1 (List.length b : Int) ∧ (if (T.eqB tL (List.getD b (Int.toNat t45_1) tL.dflt) (List.getD base (Int.toNat t45_1) tL.dflt)) = true then Λ2 conflicts_1 out_1 t45_1 (T.eqB tL (List.getD b (Int.toNat t45_1) tL.dflt) (List.getD base (Int.toNat t45_1) tL.dflt)) else (idx t45_1 (List.length a : Int) ∧ (idx t45_1 (List.length b : Int) ∧ Λ2 conflicts_1 out_1 t45_1 (T.eqB tL (List.getD a (Int.toNat t45_1) tL.dflt) (List.getD b (Int.toNat t45_1) tL.dflt))))))) else (conflicts_1 = y1 ∧ (0 : Int) = y2 ∧ out_1 = y0)
def cThree_2 (Λ1 : Int → (List Int) → (List Lin) → Prop) (Λ2 : (List Int) → (List Lin) → Int → Bool → Prop) (base : (List Lin)) (a : (List Lin)) (b : (List Lin)) (y0 : (List Lin)) (y1 : (List Int)) (y2 : Int) (conflicts_1 : (List Int)) (out_1 : (List Lin)) (t45_1 : Int) (t54_2 : Bool) : Prop :=
  if t54_2 = true then (idx t45_1 (List.length a : Int) ∧ (idx t45_1 (List.length out_1 : Int) ∧ (inI (t45_1 + (1 : Int)) ∧ Λ1 (t45_1 + (1 : Int)) conflicts_1 (List.set out_1 (Int.toNat t45_1) (List.getD a (Int.toNat t45_1) tL.dflt))))) else (idx t45_1 (List.length a : Int) ∧ (if (T.eqB tL (List.getD a (Int.toNat t45_1) tL.dflt) (List.getD base (Int.toNat t45_1) tL.dflt)) = true then (idx t45_1 (List.length b : Int) ∧ (idx t45_1 (List.length out_1 : Int) ∧ (inI (t45_1 + (1 : Int)) ∧ Λ1 (t45_1 + (1 : Int)) conflicts_1 (List.set out_1 (Int.toNat t45_1) (List.getD b (Int.toNat t45_1) tL.dflt))))) else (List.length conflicts_1 + List.length [t45_1] ≤ 4294967296 ∧ (inI (t45_1 + (1 : Int)) ∧ Λ1 (t45_1 + (1 : Int)) (conflicts_1 ++ [t45_1]) out_1))))
theorem cThree_law (h : ∀ (base : (List Lin)) (a : (List Lin)) (b : (List Lin)), cThree.A.wf (base, a, b, ()) → ∀ (Λ1 : Int → (List Int) → (List Lin) → Prop) (Λ2 : (List Int) → (List Lin) → Int → Bool → Prop), (∀ (t45_1 : Int) (conflicts_1 : (List Int)) (out_1 : (List Lin)), cThree_1 Λ1 Λ2 base a b (if threeN base a b = 0 then threeP base a b base.length else []) (if threeN base a b = 0 then threeI base a b base.length else []) (threeN base a b) t45_1 conflicts_1 out_1 → Λ1 t45_1 conflicts_1 out_1) → (∀ (conflicts_1 : (List Int)) (out_1 : (List Lin)) (t45_1 : Int) (t54_2 : Bool), cThree_2 Λ1 Λ2 base a b (if threeN base a b = 0 then threeP base a b base.length else []) (if threeN base a b = 0 then threeI base a b base.length else []) (threeN base a b) conflicts_1 out_1 t45_1 t54_2 → Λ2 conflicts_1 out_1 t45_1 t54_2) → cThree_0 Λ1 Λ2 base a b (if threeN base a b = 0 then threeP base a b base.length else []) (if threeN base a b = 0 then threeI base a b base.length else []) (threeN base a b)) : ConOK Go.Proofs.Tryz.prog 37 cThree := by
  refine lawL (Γ := [(79, cOr4), (80, cValP)]) (Θ := Th) (n := 94) [([1, 1, 1, 1, 1, 1, 0, 1, 0], ⟨[(1, false), (2, false), (10, true), (11, true), (43, false), (44, true), (45, true)], [(11, true), (39, true)]⟩), ([1, 1, 1, 1, 1, 1, 0, 1, 0, 0, 1, 1, 0, 0, 1, 0, 2], ⟨[(1, false), (2, false), (10, true), (11, true), (12, true), (13, true), (43, false), (44, true), (45, true), (54, true)], [(11, true), (13, true), (39, true)]⟩)] ⟨cOr4_ok, cValP_ok, trivial⟩ (by kernel_rfl) th_ok mix_ok Go.Proofs.Tryz.func37 (by kernel_rfl) ?_
  intro x hw hp Λ hC
  have h0 := h x.1 x.2.1 x.2.2.1 hw (fun t45_1 conflicts_1 out_1 => Λ [1, 1, 1, 1, 1, 1, 0, 1, 0] ([(1, .d false (.sl tL) x.2.1), (2, .d false (.sl tL) x.2.2.1), (10, .own 39 0), (11, .own 11 0), (43, .d false (.sl tL) x.1), (44, .d true .int (List.length x.1 : Int)), (45, .d true .int t45_1)], [(11, .sl true .int conflicts_1), (39, .sl true tL out_1)])) (fun conflicts_1 out_1 t45_1 t54_2 => Λ [1, 1, 1, 1, 1, 1, 0, 1, 0, 0, 1, 1, 0, 0, 1, 0, 2] ([(1, .d false (.sl tL) x.2.1), (2, .d false (.sl tL) x.2.2.1), (10, .own 39 0), (11, .own 11 0), (12, .d true .int t45_1), (13, .ptr 13 0 []), (43, .d false (.sl tL) x.1), (44, .d true .int (List.length x.1 : Int)), (45, .d true .int t45_1), (54, .d true .bool t54_2)], [(11, .sl true .int conflicts_1), (13, .box true tL (List.getD x.1 (Int.toNat t45_1) tL.dflt)), (39, .sl true tL out_1)])) (fun t45_1 conflicts_1 out_1 hb => hC [1, 1, 1, 1, 1, 1, 0, 1, 0] ([(1, .d false (.sl tL) x.2.1), (2, .d false (.sl tL) x.2.2.1), (10, .own 39 0), (11, .own 11 0), (43, .d false (.sl tL) x.1), (44, .d true .int (List.length x.1 : Int)), (45, .d true .int t45_1)], [(11, .sl true .int conflicts_1), (39, .sl true tL out_1)]) (Eq.mpr (by kernel_rfl) hb)) (fun conflicts_1 out_1 t45_1 t54_2 hb => hC [1, 1, 1, 1, 1, 1, 0, 1, 0, 0, 1, 1, 0, 0, 1, 0, 2] ([(1, .d false (.sl tL) x.2.1), (2, .d false (.sl tL) x.2.2.1), (10, .own 39 0), (11, .own 11 0), (12, .d true .int t45_1), (13, .ptr 13 0 []), (43, .d false (.sl tL) x.1), (44, .d true .int (List.length x.1 : Int)), (45, .d true .int t45_1), (54, .d true .bool t54_2)], [(11, .sl true .int conflicts_1), (13, .box true tL (List.getD x.1 (Int.toNat t45_1) tL.dflt)), (39, .sl true tL out_1)]) (Eq.mpr (by kernel_rfl) hb))
  exact Eq.mpr (by kernel_rfl) h0
theorem cThree_ok : ConOK Go.Proofs.Tryz.prog 37 cThree := by
  refine cThree_law ?_
  intro base a b hw Λ1 Λ2 h1 h2
  unfold cThree_0
  refine ⟨trivial, trivial, trivial, by simp, ?_⟩
  rw [or_three]
  have he : err3 base a b = if validP base = 0 then (if validP a = 0 then validP b else validP a) else validP base := rfl
  rw [← he]
  by_cases h : err3 base a b = 0
  · rw [if_neg (by simp [h])]
    have hN : threeN base a b = if a.length = base.length ∧ b.length = base.length then 0 else 9 := by unfold threeN; rw [if_pos h]
    by_cases ha : a.length = base.length
    · rw [if_neg (by simp [ha])]
      refine ⟨trivial, ?_⟩
      by_cases hb : b.length = base.length
      · rw [if_neg (by simp [hb])]
        rw [if_pos ⟨ha, hb⟩] at hN
        have hv : validP base = 0 := by
          by_cases g : validP base = 0
          · exact g
          · rw [he, if_neg g] at h; exact absurd h g
        have h8 := (validP_ok hv).1
        refine ⟨by unfold mkLen; omega, ?_⟩
        have e1 : (List.append (List.take (List.length (List.replicate (Int.toNat (List.length base : Int)) tL.dflt)) base) (List.drop (List.length base) (List.replicate (Int.toNat (List.length base : Int)) tL.dflt)) : List Lin) = threeP base a b 0 ++ base.drop 0 := by
          simp [threeP]
        rw [e1]
        refine upto (n := base.length) (Q := fun i => Λ1 (i : Int) (threeI base a b i) (threeP base a b i ++ base.drop i)) ?_ ?_ 0 (Nat.zero_le _)
        · apply h1; unfold cThree_1
          rw [if_neg (by simp), hN, if_pos rfl, if_pos rfl, List.drop_length, List.append_nil]
          exact ⟨rfl, rfl, rfl⟩
        · intro i hi ih
          have hol : (threeP base a b i ++ base.drop i).length = base.length := by simp [threeP_len]; omega
          have hil := threeI_len base a b i
          rw [threeI_succ] at ih
          have two : ∀ t : Bool, t = (decide (b.getD i tL.dflt = base.getD i tL.dflt) || decide (a.getD i tL.dflt = b.getD i tL.dflt)) → Λ2 (threeI base a b i) (threeP base a b i ++ base.drop i) (i : Int) t := by
            intro t ht
            apply h2; unfold cThree_2
            rw [Int.toNat_natCast, hol]
            by_cases c : t = true
            · rw [if_pos c]
              have c' := c
              rw [ht, Bool.or_eq_true, decide_eq_true_eq, decide_eq_true_eq] at c'
              have hc : threeC base a b i = false := by unfold threeC; rw [← ht, c]; rfl
              rw [hc, if_neg (by simp)] at ih
              refine ⟨by unfold idx; omega, idx_nat hi, by unfold inI; omega, ?_⟩
              rw [three_out base a b base hi (a.getD i tL.dflt) (by unfold threeL; rw [if_pos c'])]
              exact ih
            · rw [if_neg c]
              have c' := c
              rw [ht, Bool.or_eq_true, decide_eq_true_eq, decide_eq_true_eq] at c'
              refine ⟨by unfold idx; omega, ?_⟩
              by_cases d : a.getD i tL.dflt = base.getD i tL.dflt
              · rw [if_pos ((eqB_iff (t := tL) rfl).2 d)]
                have hc : threeC base a b i = false := by unfold threeC; rw [decide_eq_true d]; simp
                rw [hc, if_neg (by simp)] at ih
                refine ⟨by unfold idx; omega, idx_nat hi, by unfold inI; omega, ?_⟩
                rw [three_out base a b base hi (b.getD i tL.dflt) (by unfold threeL; rw [if_neg c', if_pos d])]
                exact ih
              · rw [if_neg (by rw [(eqB_neg (t := tL) rfl).2 d]; simp)]
                have hc : threeC base a b i = true := by unfold threeC; rw [← ht, Bool.eq_false_iff.2 c, decide_eq_false d]; rfl
                rw [hc, if_pos rfl] at ih
                refine ⟨by simp; omega, by unfold inI; omega, ?_⟩
                rw [three_keep a b base hi (by unfold threeL; rw [if_neg c', if_neg d])]
                exact ih
          apply h1; unfold cThree_1
          rw [if_pos (by simpa using hi), Int.toNat_natCast]
          refine ⟨idx_nat hi, by unfold idx; omega, ?_⟩
          by_cases c : b.getD i tL.dflt = base.getD i tL.dflt
          · rw [if_pos ((eqB_iff (t := tL) rfl).2 c)]
            exact two _ (by rw [(eqB_iff (t := tL) rfl).2 c, decide_eq_true c]; rfl)
          · rw [if_neg (by rw [(eqB_neg (t := tL) rfl).2 c]; simp)]
            refine ⟨by unfold idx; omega, by unfold idx; omega, two _ ?_⟩
            rw [decide_eq_false c, Bool.false_or, Bool.eq_iff_iff, eqB_iff rfl, decide_eq_true_eq]
      · rw [if_pos (by simp; omega)]
        rw [if_neg (fun g => hb g.2)] at hN
        rw [hN]; exact ⟨rfl, rfl, rfl⟩
    · rw [if_pos (by simp; omega)]
      rw [if_neg (fun g => ha g.1)] at hN
      rw [hN]; exact ⟨rfl, rfl, rfl, rfl⟩
  · rw [if_pos (by simpa using h)]
    have hN : threeN base a b = err3 base a b := by unfold threeN; rw [if_neg h]
    rw [hN, if_neg h, if_neg h]; exact ⟨rfl, rfl, rfl⟩
end Go.Tk
/- Plain facts of layer 4: parts of a patch, the smallest good one. No program in sight. -/
set_option linter.unusedSimpArgs false
set_option linter.unusedVariables false
set_option linter.unnecessarySimpa false
namespace Go.Tk
open Go Go.RowKit
theorem asc_map {x : List Edt} : Asc (readE x) ↔ x.Pairwise fun a b => a.1 < b.1 := by
  unfold Asc readE
  rw [List.pairwise_map]
theorem validX_mk {x : List Edt} (h1 : x.length ≤ 4) (h2 : ∀ e ∈ x, (0 ≤ e.1 ∧ e.1 < 8) ∧ validLine e.2.1 = true) (h3 : Asc (readE x)) : validX x = 0 := by
  unfold validX
  rw [if_neg (by omega)]
  have h3 := asc_map.1 h3
  have key : ∀ i, i ≤ x.length → okTo x i = true := by
    intro i
    induction i with
    | zero => intro _; rfl
    | succ i ih =>
      intro hi
      rw [okTo, ih (by omega), Bool.true_and]
      have hm := h2 _ (mem_getD (d := tEd.dflt) (show i < x.length by omega))
      unfold edOK
      rw [hm.2]
      have e1 : decide ((x.getD i tEd.dflt).1 < 0) = false := decide_eq_false (by omega)
      have e2 : decide ((x.getD i tEd.dflt).1 ≥ 8) = false := decide_eq_false (by omega)
      rw [e1, e2]
      by_cases hz : i > 0
      · have := List.pairwise_iff_getElem.1 h3 (i - 1) i (by omega) (by omega) (by omega)
        have g1 : x.getD (i - 1) tEd.dflt = x[i - 1] := by rw [List.getD_eq_getElem?_getD, List.getElem?_eq_getElem (by omega)]; rfl
        have g2 : x.getD i tEd.dflt = x[i] := by rw [List.getD_eq_getElem?_getD, List.getElem?_eq_getElem (by omega)]; rfl
        rw [g1, g2, decide_eq_false (show ¬ (x[i - 1]).1 ≥ (x[i]).1 by omega)]
        simp
      · rw [decide_eq_false hz]; rfl
  rw [key _ (Nat.le_refl _)]; rfl
theorem validX_sub {x a : List Edt} (h : validX x = 0) (ha : a.Sublist x) : validX a = 0 := by
  have h1 := validX_ok h
  have h2 := validX_line4 h
  refine validX_mk (Nat.le_trans ha.length_le h1.1) (fun e he => ⟨h1.2 e (ha.subset he), h2 e (ha.subset he)⟩) ?_
  rw [asc_map]
  exact (asc_map.1 (validX_asc h)).sublist ha
theorem errXT_sub {p : List Lin} {x a : List Edt} {l : List Tst} (h : errXT p x l = 0) (ha : a.Sublist x) : errXT p a l = 0 := by
  obtain ⟨h1, h2, h3, h4⟩ := errXT_ok h
  exact errXT_mk h1 (validX_sub h2 ha) h3 fun e he => h4 e (ha.subset he)
/-! ### The parts -/
def partsTo (x : List Edt) : Nat → List (List Edt)
  | 0 => [[]]
  | i + 1 => partsTo x i ++ (partsTo x i).map (· ++ [x.getD i tEd.dflt])
def partsL (x : List Edt) : List (List Edt) := partsTo x x.length
theorem partsTo_len (x : List Edt) : ∀ i, (partsTo x i).length = 2 ^ i
  | 0 => rfl
  | i + 1 => by rw [partsTo, List.length_append, List.length_map, partsTo_len x i, Nat.pow_succ]; omega
theorem pow_le {i : Nat} (h : i ≤ 4) : 2 ^ i ≤ 16 := Nat.pow_le_pow_right (by omega) h
theorem snoc_sub {l a : List Edt} {e : Edt} : a.Sublist (l ++ [e]) ↔ a.Sublist l ∨ ∃ b, b.Sublist l ∧ a = b ++ [e] := by
  rw [List.sublist_append_iff]
  constructor
  · rintro ⟨l1, l2, rfl, h1, h2⟩
    rcases List.sublist_cons_iff.1 h2 with h3 | ⟨r, rfl, h3⟩
    · obtain rfl := List.sublist_nil.1 h3
      rw [List.append_nil]; exact .inl h1
    · obtain rfl := List.sublist_nil.1 h3
      exact .inr ⟨l1, h1, rfl⟩
  · rintro (h | ⟨b, h, rfl⟩)
    · exact ⟨a, [], by simp, h, by simp⟩
    · exact ⟨b, [e], rfl, h, List.Sublist.refl _⟩
theorem parts_iff (x : List Edt) (a : List Edt) : ∀ i, i ≤ x.length → (a ∈ partsTo x i ↔ a.Sublist (x.take i)) := by
  intro i
  induction i generalizing a with
  | zero => intro _; simp [partsTo]
  | succ i ih =>
    intro hi
    rw [partsTo, List.mem_append, List.mem_map, take_snoc tEd.dflt (show i < x.length by omega), snoc_sub, ih a (by omega)]
    constructor
    · rintro (h | ⟨b, h, rfl⟩)
      · exact .inl h
      · exact .inr ⟨b, (ih b (by omega)).1 h, rfl⟩
    · rintro (h | ⟨b, h, rfl⟩)
      · exact .inl h
      · exact .inr ⟨b, (ih b (by omega)).2 h, rfl⟩
theorem partsL_iff {x a : List Edt} : a ∈ partsL x ↔ a.Sublist x := by
  unfold partsL
  rw [parts_iff x a _ (Nat.le_refl _), List.take_length]
/-! ### The smallest -/
def cmpPart (a b : List Edt) : Int := if cmpI a.length b.length = 0 then cmpL (a.map (·.1)) (b.map (·.1)) else cmpI a.length b.length
def minU (f : List Edt → List Edt → List Edt) (l : List (List Edt)) : Nat → List Edt
  | 0 => l.getD 0 []
  | i + 1 => f (minU f l i) (l.getD (i + 1) [])
def minF (f : List Edt → List Edt → List Edt) (l : List (List Edt)) : List Edt := minU f l (l.length - 1)
theorem minU_mem {f : List Edt → List Edt → List Edt} {l : List (List Edt)} (hf : ∀ m b, f m b = m ∨ f m b = b) : ∀ i, i < l.length → minU f l i ∈ l := by
  intro i
  induction i with
  | zero => intro hi; exact mem_getD hi
  | succ i ih =>
    intro hi
    rw [minU]
    rcases hf (minU f l i) (l.getD (i + 1) []) with h | h
    · rw [h]; exact ih (by omega)
    · rw [h]; exact mem_getD hi
def minStep (m b : List Edt) : List Edt := if cmpPart b m < 0 then b else m
abbrev minTo (l : List (List Edt)) : Nat → List Edt := minU minStep l
abbrev minL (l : List (List Edt)) : List Edt := minF minStep l
theorem cmpPart_lt {a b : List Edt} : cmpPart a b < 0 ↔ a.length < b.length ∨ a.length = b.length ∧ cmpL (a.map (·.1)) (b.map (·.1)) < 0 := by
  unfold cmpPart cmpI
  by_cases h1 : a.length < b.length
  · rw [if_pos (show (a.length : Int) < b.length by omega), if_neg (by omega)]
    exact ⟨fun _ => .inl h1, fun _ => by omega⟩
  · rw [if_neg (show ¬ (a.length : Int) < b.length by omega)]
    by_cases h2 : a.length = b.length
    · rw [if_neg (show ¬ (a.length : Int) > b.length by omega), if_pos rfl]
      exact ⟨fun h => .inr ⟨h2, h⟩, fun h => by rcases h with h | h; · omega
                                                · exact h.2⟩
    · rw [if_pos (show (a.length : Int) > b.length by omega), if_neg (by omega)]
      exact ⟨fun h => by omega, fun h => by rcases h with h | h <;> omega⟩
theorem minStep_len (m b : List Edt) : (minStep m b).length ≤ m.length ∧ (minStep m b).length ≤ b.length := by
  unfold minStep
  split
  · rename_i h
    rcases cmpPart_lt.1 h with h | h <;> omega
  · rename_i h
    rw [cmpPart_lt] at h
    omega
theorem minTo_mem {l : List (List Edt)} : ∀ i, i < l.length → minTo l i ∈ l.take (i + 1) := by
  intro i
  induction i with
  | zero => intro hi; rw [take_snoc [] hi]; simp [minU]
  | succ i ih =>
    intro hi
    rw [take_snoc [] hi, show minTo l (i + 1) = minStep (minTo l i) (l.getD (i + 1) []) from rfl]
    unfold minStep
    split
    · simp
    · exact List.mem_append_left _ (ih (by omega))
theorem minL_mem {l : List (List Edt)} (h : l ≠ []) : minL l ∈ l := by
  have : 0 < l.length := List.length_pos_iff.2 h
  exact List.mem_of_mem_take (minTo_mem (l := l) (l.length - 1) (by omega))
theorem minTo_le {l : List (List Edt)} : ∀ i, i < l.length → ∀ b ∈ l.take (i + 1), (minTo l i).length ≤ b.length := by
  intro i
  induction i with
  | zero => intro hi b hb; rw [take_snoc [] hi] at hb; simp at hb; rw [hb]; simp [minU]
  | succ i ih =>
    intro hi b hb
    rw [take_snoc [] hi] at hb
    have h := minStep_len (minTo l i) (l.getD (i + 1) [])
    rw [show minTo l (i + 1) = minStep (minTo l i) (l.getD (i + 1) []) from rfl]
    rcases List.mem_append.1 hb with hb | hb
    · have := ih (by omega) b hb; omega
    · simp only [List.mem_singleton] at hb; rw [hb]; exact h.2
theorem minL_le {l : List (List Edt)} {b : List Edt} (h : b ∈ l) : (minL l).length ≤ b.length := by
  have : 0 < l.length := List.length_pos_of_mem h
  refine minTo_le (l := l) (l.length - 1) (by omega) b ?_
  rw [Nat.sub_add_cancel (by omega), List.take_length]; exact h
/-- The good parts. -/
def goodL (p : List Lin) (x : List Edt) (l : List Tst) : List (List Edt) := (partsL x).filter fun a => goodX p a l
def smallX (p : List Lin) (x : List Edt) (l : List Tst) : List Edt := if goodL p x l = [] then [] else minL (goodL p x l)
def smallB (p : List Lin) (x : List Edt) (l : List Tst) : Bool := !(decide (goodL p x l = []))
def minimB (p : List Lin) (x : List Edt) (l : List Tst) : Bool := smallB p x l && decide ((smallX p x l).length = x.length)
theorem goodL_iff {p : List Lin} {x a : List Edt} {l : List Tst} : a ∈ goodL p x l ↔ a.Sublist x ∧ goodX p a l = true := by
  unfold goodL
  rw [List.mem_filter, partsL_iff]
theorem or_two (a b : Int) : (([a, b].find? fun e' => !(e' == 0)).getD 0) = if a = 0 then b else a := by
  by_cases h : a = 0
  · rw [if_pos h]
    by_cases h2 : b = 0
    · simp [h, h2]
    · simp [h, h2]
  · rw [if_neg h]; simp [h]
/-- A part is minimal if it is good and no shorter one is. -/
theorem minimB_iff {p : List Lin} {x : List Edt} {l : List Tst} : minimB p x l = true ↔ goodX p x l = true ∧ ∀ a, a.Sublist x → a.length < x.length → goodX p a l = false := by
  unfold minimB smallB smallX
  by_cases h : goodL p x l = []
  · rw [decide_eq_true h]
    constructor
    · intro e; cases e
    · rintro ⟨e, _⟩
      have : x ∈ goodL p x l := goodL_iff.2 ⟨List.Sublist.refl _, e⟩
      rw [h] at this; cases this
  · rw [decide_eq_false h, if_neg h, Bool.not_false, Bool.true_and, decide_eq_true_eq]
    have hm := goodL_iff.1 (minL_mem h)
    constructor
    · intro e
      refine ⟨?_, fun a ha hl => ?_⟩
      · have := hm.1.eq_of_length e
        rw [← this]; exact hm.2
      · rw [← Bool.not_eq_true]
        intro hg
        have := minL_le (goodL_iff.2 ⟨ha, hg⟩)
        omega
    · rintro ⟨e1, e2⟩
      have h1 := minL_le (goodL_iff.2 ⟨List.Sublist.refl x, e1⟩)
      by_cases h2 : (minL (goodL p x l)).length < x.length
      · have := e2 _ hm.1 h2
        rw [hm.2] at this; cases this
      · omega
end Go.Tk
/- slices.Clone of parts, with what is known of its elements; patch.parts by hand. -/
set_option linter.unusedSimpArgs false
set_option linter.unusedVariables false
set_option linter.unnecessarySimpa false
set_option maxRecDepth 10000
set_option maxHeartbeats 400000
namespace Go.Tk
open Go Go.RowKit
theorem run_app {P : Program} {ev : Operand → Value} {w w' : World} {o : Oper} {x y : Operand} {tt : Array TypeId} {v' : Value} (ho : o.op = .call ⟨.builtin .append, #[x, y], tt⟩) (h : (Builtin.append_ tt o.type #[ev x, ev y]).run P w = .ok v' w') : (execOp ev o).run P w = .ok (.value v') w' := by
  unfold execOp
  rw [ho]
  simp only [resolve, Sem.run_bind, Sem.run_pure, Result.andThen_ok, invoke, builtin]
  have h' : (Builtin.append_ tt o.type (Array.map ev #[x, y])).run P w = .ok v' w' := by simpa using h
  rw [h']
  rfl
theorem clonePP_call {w : World} {S : Nat → Prop} {R : List Edt → List Value → Prop} (hn : ∀ x cs, R x cs → cs.length = 1 ∧ ∀ v ∈ cs, v.oneCell' = true) {xs : List (List Edt)} {v : Value} (h : repSl R w S xs v) (hl : xs.length ≤ 1000000) (hne : xs ≠ []) :
    Calls Go.Proofs.Tryz.prog 126 #[v] w fun e w' => ∃ v' ob, e = .returned v' ∧ repOwn R 1 w' (fun _ => True) xs v' ob ∧ (∀ b o, ob = some (b, o) → w.heap.size ≤ b) ∧ Below w.heap.size w w' := by
  obtain ⟨ao, cap, rfl, h1, h2, h3⟩ := h
  rcases h3 with h3 | ⟨b, off, cs, rfl, hS, hb, hc, hr⟩
  · exact absurd h3 hne
  go_enter Go.Proofs.Tryz.func126, Go.Proofs.Tryz.ntmps126
  refine (wpIn_wide (n := 0)).1 ?_
  show Code.wpIn (Fw none) 0 _ _ _ _ _
  refine wpIn_seq (ql_region rfl ?_)
  simp [ql, go_sem, Exit.then]
  have hty : (tys Go.Proofs.Tryz.prog (.sl (.sl tEd))).ty 72 := (tyB_ok Go.Proofs.Tryz.prog (.sl (.sl tEd))).1 72 (by kernel_rfl)
  obtain ⟨et, u1, u2⟩ := ty_sl hty
  have hEq : ∀ W : World, (Op.equal 72 (.slice (some ⟨b, off, none⟩) xs.length cap) (.slice none 0 0)).run Go.Proofs.Tryz.prog W = .ok false W := by
    intro W
    have h1' := run_underlying u1 W
    have gen : ∀ d, (Op.equalIn (d + 1) 72 (.slice (some ⟨b, off, none⟩) xs.length cap) (.slice none 0 0)).run Go.Proofs.Tryz.prog W = .ok false W := by
      intro d
      simp [Op.equalIn, h1']
    exact gen 9999
  have hgd := fun W : World => eqGuard_plain (P := Go.Proofs.Tryz.prog) (w := W) .eql 72 (.tmp 3) (.const (.slice none 0 0)) (a := .slice (some ⟨b, off, none⟩) xs.length cap) (b := .slice none 0 0) (by simp) (by simp)
  refine wpIn_seq (wpIn_seq (ql_region rfl ?_))
  simp [ql, go_sem, Exit.then, hgd, hEq, binOp]
  refine wpIn_cond_false (by simp [Act.eval]) (wpIn_skip ?_)
  simp only [Exit.then]
  have u2' : (tys Go.Proofs.Tryz.prog (.sl tEd)).ty et := u2
  have hya : repSl R (w.alloc (.cells #[] 23)) (fun _ => True) xs (.slice (some ⟨b, off, none⟩) xs.length cap) := by
    refine ⟨_, _, rfl, h1, h2, .inr ⟨b, off, cs, rfl, trivial, Nat.lt_of_lt_of_le hb ((Below.refl _ w).alloc (Nat.le_refl _) _).size, ?_, hr⟩⟩
    exact hc.keep fun _ => Below.heap_alloc w _ b hb
  obtain ⟨v', w', ob', r1, r2, r3, r4, r5, r6, r7, r8⟩ := run_append (P := Go.Proofs.Tryz.prog) (t := 72) (e := et) (ty := 72) (a := .sl tEd) u1 u2' rfl (R := R) hn (S := fun _ => True) (xs := []) (ys := xs) (v := .slice (some ⟨w.heap.size, 0, none⟩) 0 0) (ob := some (w.heap.size, 0)) (.inr ⟨w.heap.size, 0, 0, #[], _, rfl, rfl, trivial, heap_self w (.cells #[] 23), by simp, by simp, by simp, rfl⟩) hya (by simp; omega)
  refine wpIn_seq (ql_pre 2 (by decide) rfl ?_)
  simp [ql, go_sem]
  show wpOpsIn _ _ _ _ _ [2, 3] _ _
  refine sp_val (v := v') (w1 := w') rfl rfl ?_ ?_
  · exact run_app rfl r1
  · refine sp_val (v := v') (w1 := w') rfl rfl rfl ?_
    show Code.wpIn (Fw none) 0 _ _ _ _ _
    refine wpIn_ret ?_
    have hs := ((Below.refl _ w).alloc (Nat.le_refl _) (.cells #[] 23)).size
    exact ⟨rfl, _, results_tmp rfl _ _ _, v', rfl, ob', r2, (fun b' o e => by
      rcases r8 b' o e with h | ⟨o', h⟩
      · exact Nat.le_trans hs h
      · cases h; exact Nat.le_refl _), ⟨r3, r4, r5, Nat.le_trans hs r6, fun i hi => (r7 i (Nat.lt_of_lt_of_le hi hs) (fun o e => by cases e; omega)).trans (Below.heap_alloc w _ i hi)⟩⟩
/-- As rel_new, where what the memory bears is known. -/
theorem rel_newG {P : Program} {w0 w w' : World} {n0 n : Nat} {S : Nat → Prop} {kv kv' : Nat → Option Value} {kb : Nat → Prop} {tv : Nat → Option Obj} {E E' : List (Nat × Tk.V)} {M : List (Nat × Tk.L)} {a a' : Act} {G : Nat → Gh} (hR : Rel P (hB n0 S kv kb tv) w0 n (mkSt (E, M)) a w) (hm : MRel P (hB n0 S kv kb tv) G (mkSt (E, M)).loc w w0) (he : ∀ t, ERep P (hB n0 S kv kb tv) G (mkSt (E, M)).loc w ((mkSt (E, M)).env t) (a.tmps.getD t undef)) (hit : ∀ k g l, (mkSt (E, M)).loc k = some (g, l) → l.isIt = false)
    (hbel : Below w.heap.size w w') (hsz : a'.tmps.size = n) (hd : a'.defers = []) (hkp : ∀ t v, kv' t = some v → a'.tmps.getD t undef = v)
    (hE : ∀ t U, lk E' t = some U → (∃ t2, lk E t2 = some U ∧ a'.tmps.getD t undef = a.tmps.getD t2 undef) ∨ ((∀ b, w.heap.size ≤ b → dS (hB n0 S kv' kb fun b => w'.heap[b]?) G (mkLoc M) true b) → (∀ f b, dS (hB n0 S kv kb tv) G (mkLoc M) f b → dS (hB n0 S kv' kb fun b => w'.heap[b]?) G (mkLoc M) f b) → ERep P (hB n0 S kv' kb fun b => w'.heap[b]?) G (mkLoc M) w' U (a'.tmps.getD t undef))) :
    Rel P (hB n0 S kv' kb fun b => w'.heap[b]?) w0 n (mkSt (E', M)) a' w' := by
  obtain ⟨r1, r2⟩ := hm.re2 (w' := w') hit (fo := fun _ => False) (kb := kb) (tv := fun b => w'.heap[b]?) (kv := kv') (ro := none) (lb := 0) (Nat.zero_le _) hbel.os hbel.tape hbel.output hbel.size (fun b hb _ => hbel.block b hb.lt) (fun b hb => hbel.block b (Nat.lt_of_lt_of_le hb hm.base)) (fun _ _ h => h) (fun b h => by
    rcases h with h | h
    · exact h.elim
    · exact ⟨Nat.lt_of_lt_of_le (hm.frn.1 b (.inr h)).1 hbel.size, rfl⟩) (fun b h hlt => by
    rcases h with h | h
    · exact h.elim
    · exact .inl (.inr h))
  refine ⟨⟨G, r1, fun t' => ?_⟩, hsz, by rw [hd]; exact ⟨Marks.nil _ _, fun _ => rfl⟩, hkp⟩
  show ERep P _ G (mkLoc M) _ (match lk E' t' with | some v => v | none => .any) _
  cases hl : lk E' t' with
  | none => trivial
  | some U =>
    rcases hE t' U hl with ⟨t2, h1, h2⟩ | h
    · have h3 := he t2
      have h4 : (mkSt (E, M)).env t2 = U := by
        show (match lk E t2 with | some v => v | none => .any) = U
        rw [h1]
      rw [h4] at h3
      rw [h2]
      exact r2 h3
    · refine h (fun b hb => ⟨⟨fun _ => Nat.le_trans hm.base hb, .inl (Nat.le_trans hm.base hb)⟩, fun k g l hk hmut e => ?_, fun h => h⟩) fun f b hb => ⟨hb.1, hb.2.1, fun h => h⟩
      have := ((hm.loc k g l hk).own_lt hmut e).1
      omega
theorem noItL {E : List (Nat × V)} {M : List (Nat × Tk.L)} (h : ∀ p ∈ M, p.2.isIt = false) : ∀ k g l, (mkSt (E, M)).loc k = some (g, l) → l.isIt = false := by
  intro k g l hk
  exact h _ (lk_in (mkLoc_some hk).2)
theorem arr33 (x : Array Value) (h : x.size = 33) : ∃ x0 x1 x2 x3 x4 x5 x6 x7 x8 x9 x10 x11 x12 x13 x14 x15 x16 x17 x18 x19 x20 x21 x22 x23 x24 x25 x26 x27 x28 x29 x30 x31 x32 : Value, x = #[x0, x1, x2, x3, x4, x5, x6, x7, x8, x9, x10, x11, x12, x13, x14, x15, x16, x17, x18, x19, x20, x21, x22, x23, x24, x25, x26, x27, x28, x29, x30, x31, x32] := by
  obtain ⟨l⟩ := x
  match l, h with
  | x0 :: x1 :: x2 :: x3 :: x4 :: x5 :: x6 :: x7 :: x8 :: x9 :: x10 :: x11 :: x12 :: x13 :: x14 :: x15 :: x16 :: x17 :: x18 :: x19 :: x20 :: x21 :: x22 :: x23 :: x24 :: x25 :: x26 :: x27 :: x28 :: x29 :: x30 :: x31 :: x32 :: [], _ => exact ⟨_, _, _, _, _, _, _, _, _, _, _, _, _, _, _, _, _, _, _, _, _, _, _, _, _, _, _, _, _, _, _, _, _, rfl⟩
abbrev cParts : Con := { A := (.cons (.sl tEd) .nil), R := (.cons (.osl (.sl tEd)) .nil), pre := fun x => x.1.length ≤ 4, F := fun x => (partsL x.1, ()) }
theorem cParts_ok : ConOK Go.Proofs.Tryz.prog 102 cParts := by
  refine ConOK.f ?_ rfl
  rintro w S ⟨x, ⟨⟩⟩ vs hv hx4
  change List Edt at x
  have hx4 : x.length ≤ 4 := hx4
  have hv0 := hv
  obtain ⟨xv, vs1, b1, b2, rfl, e2, h1, h2⟩ := hv
  obtain ⟨rfl, _⟩ : vs1 = [] ∧ _ := h2
  show Calls _ _ #[xv] w _
  have hk : Cok Go.Proofs.Tryz.prog ⟨[(63, cCloneE)], Th, 33, noX⟩ := cok_of ⟨cCloneE_ok, trivial⟩ (by kernel_rfl) th_ok
  have hR := rel_start (n := 33) (A := .cons tX .nil) (x := (x, ())) rfl hv0
  refine calls_of_wp Go.Proofs.Tryz.func102 rfl ?_
  rw [Go.Proofs.Tryz.ntmps102]
  refine (wpIn_wide (n := 0)).1 ?_
  show Code.wpIn (Fw none) 0 _ _ _ _ _
  refine wpIn_seq (eng_thru hk mix_ok rfl rfl (ly := ⟨[(0, false)], []⟩) (x := ([(0, .d false tX x)], [])) hR (by kernel_rfl) (fun _ _ => rfl) ?_ ?_)
  · have h0 : (([(0, V.d false tX x)], []) : Lst) = ([(0, .d false tX x)], []) := rfl
    exact Eq.mpr (by kernel_rfl) h0
  · intro a W hR
    simp only [Exit.then]
    refine wpIn_seq (eng_thru hk mix_ok rfl rfl (ly := ⟨[(0, false), (3, true)], [(8, true)]⟩) (x := ([(0, .d false tX x), (3, .own 8 0)], [(8, .sl true (.sl tEd) [[]])])) hR (by kernel_rfl) (fun _ _ => rfl) ?_ ?_)
    · have h0 : (([(0, V.d false tX x), (3, V.own 8 0)], [(8, L.sl true (.sl tEd) [[]])]) : Lst) = ([(0, .d false tX x), (3, .own 8 0)], [(8, .sl true (.sl tEd) [[]])]) := rfl
      exact Eq.mpr (by kernel_rfl) h0
    · intro a W hR
      simp only [Exit.then]
      refine wpIn_seq (wpIn_seq (eng_thru hk mix_ok rfl rfl (ly := ⟨[(3, true), (9, false), (10, true), (11, true)], [(8, true)]⟩) (x := ([(3, .own 8 0), (9, .d false tX x), (10, .d true .int (x.length : Int)), (11, .d true .int (0))], [(8, .sl true (.sl tEd) ([[]]))])) hR (by kernel_rfl) (fun _ _ => rfl) ?_ ?_))
      · have h0 : (([(3, V.own 8 0), (9, V.d false tX x), (10, V.d true .int (x.length : Int)), (11, V.d true .int (0))], [(8, L.sl true (.sl tEd) ([[]]))]) : Lst) = ([(3, .own 8 0), (9, .d false tX x), (10, .d true .int (x.length : Int)), (11, .d true .int (0))], [(8, .sl true (.sl tEd) ([[]]))]) := rfl
        exact Eq.mpr (by kernel_rfl) h0
      · intro a W hR
        simp only [Exit.then]
        obtain ⟨A, hA⟩ : ∃ A : Nat → Act → World → Prop, A = fun (i : Nat) (a : Act) (Wc : World) => Rel Go.Proofs.Tryz.prog (hB w.heap.size S (fun _ => none) (fun _ => False) fun b => Wc.heap[b]?) w 33 (mkSt ([(3, .own 8 0), (9, .d false tX x), (10, .d true .int (x.length : Int)), (11, .d true .int (i : Int))], [(8, .sl true (.sl tEd) (partsTo x i))])) a Wc := ⟨_, rfl⟩
        refine wpIn_block (wp_loopAt (loop_upX (n := x.length) A ?_ ?_ 0 (Nat.zero_le _) _ _ (by rw [hA]; exact hR.now (noItL (by intro p hp; simp at hp; subst hp; rfl)))))
        · clear hR
          intro a Wc hR
          rw [hA] at hR
          refine wpIn_seq (eng_thru hk mix_ok rfl rfl (ly := ⟨[(3, true), (12, true)], [(8, true)]⟩) (x := ([(3, .own 8 0), (12, .d true .bool (decide ((x.length : Int) < (x.length : Int))))], [(8, .sl true (.sl tEd) (partsTo x x.length))])) hR (by kernel_rfl) (fun _ _ => rfl) ?_ ?_)
          · have h0 : (([(3, V.own 8 0), (12, V.d true .bool (decide ((x.length : Int) < (x.length : Int))))], [(8, L.sl true (.sl tEd) (partsTo x x.length))]) : Lst) = ([(3, .own 8 0), (12, .d true .bool (decide ((x.length : Int) < (x.length : Int))))], [(8, .sl true (.sl tEd) (partsTo x x.length))]) := rfl
            exact Eq.mpr (by kernel_rfl) h0
          · intro a W3 hR3
            simp only [Exit.then]
            have hb0 := rel_bool hR3 (d := 12) rfl
            refine wpIn_seq (wpIn_cond_false (by rw [hb0]; simp) (wpIn_exit ?_))
            simp only [Exit.then, Exit.inBlock, if_true]
            obtain ⟨ob, hown, hob⟩ := rel_own hR3 (d := 3) (k := 8) rfl rfl
            obtain ⟨tm, df⟩ := a
            obtain rfl : df = [] := hR3.nd.2 rfl
            obtain ⟨y0, y1, y2, y3, y4, y5, y6, y7, y8, y9, y10, y11, y12, y13, y14, y15, y16, y17, y18, y19, y20, y21, y22, y23, y24, y25, y26, y27, y28, y29, y30, y31, y32, rfl⟩ := arr33 tm hR3.sz
            refine wpIn_seq (ql_region rfl ?_)
            simp [ql, go_sem, Exit.then]
            refine wpIn_ret ?_
            exact ⟨rfl, _, results_tmp rfl _ _ _, [y3], rfl, (ob.map (·.1)).toList, ⟨y3, [], (ob.map (·.1)).toList, [], rfl, (List.append_nil _).symm, ⟨ob, hown, rfl⟩, rfl, rfl⟩, by cases ob <;> simp, hob, hR3.low⟩
        · clear hR
          intro i a Wc hi hR
          rw [hA] at hR
          have hpl := partsTo_len x i
          have hp2 := pow_le (show i ≤ 4 by omega)
          have hpos : 0 < (partsTo x i).length := by rw [hpl]; exact Nat.two_pow_pos i
          refine wpIn_seq (eng_thru hk mix_ok rfl rfl (ly := ⟨[(3, true), (9, false), (10, true), (11, true), (12, true)], [(8, true)]⟩) (x := ([(3, .own 8 0), (9, .d false tX x), (10, .d true .int (x.length : Int)), (11, .d true .int (i : Int)), (12, .d true .bool (decide ((i : Int) < (x.length : Int))))], [(8, .sl true (.sl tEd) (partsTo x i))])) hR (by kernel_rfl) (fun _ _ => rfl) ?_ ?_)
          · have h0 : (([(3, V.own 8 0), (9, V.d false tX x), (10, V.d true .int (x.length : Int)), (11, V.d true .int (i : Int)), (12, V.d true .bool (decide ((i : Int) < (x.length : Int))))], [(8, L.sl true (.sl tEd) (partsTo x i))]) : Lst) = ([(3, .own 8 0), (9, .d false tX x), (10, .d true .int (x.length : Int)), (11, .d true .int (i : Int)), (12, .d true .bool (decide ((i : Int) < (x.length : Int))))], [(8, .sl true (.sl tEd) (partsTo x i))]) := rfl
            exact Eq.mpr (by kernel_rfl) h0
          · intro a W3 hR3
            simp only [Exit.then]
            have hb0 := rel_bool hR3 (d := 12) rfl
            refine wpIn_seq (wpIn_cond_true (by rw [hb0]; simp; omega) (wpIn_skip ?_))
            simp only [Exit.then]
            refine wpIn_seq (wpIn_block (wpIn_seq (eng_thru hk mix_ok rfl rfl (ly := ⟨[(3, true), (5, true), (9, false), (10, true), (11, true)], [(5, true), (8, true)]⟩) (x := ([(3, .own 8 0), (5, .ptr 5 0 []), (9, .d false tX x), (10, .d true .int (x.length : Int)), (11, .d true .int (i : Int))], [(5, .box true tEd (List.getD x (Int.toNat (i : Int)) tEd.dflt)), (8, .sl true (.sl tEd) (partsTo x i))])) hR3 (by kernel_rfl) (fun _ _ => rfl) ?_ ?_)))
            · have h0 : idx (i : Int) (x.length : Int) ∧ ((([(3, V.own 8 0), (5, V.ptr 5 0 []), (9, V.d false tX x), (10, V.d true .int (x.length : Int)), (11, V.d true .int (i : Int))], [(5, L.box true tEd (List.getD x (Int.toNat (i : Int)) tEd.dflt)), (8, L.sl true (.sl tEd) (partsTo x i))]) : Lst) = ([(3, .own 8 0), (5, .ptr 5 0 []), (9, .d false tX x), (10, .d true .int (x.length : Int)), (11, .d true .int (i : Int))], [(5, .box true tEd (List.getD x (Int.toNat (i : Int)) tEd.dflt)), (8, .sl true (.sl tEd) (partsTo x i))])) := ⟨idx_nat hi, rfl⟩
              exact Eq.mpr (by kernel_rfl) h0
            · intro a W4 hR4
              simp only [Exit.then]
              obtain ⟨tm, df⟩ := a
              obtain rfl : df = [] := hR4.nd.2 rfl
              obtain ⟨y0, y1, y2, y3, y4, y5, y6, y7, y8, y9, y10, y11, y12, y13, y14, y15, y16, y17, y18, y19, y20, y21, y22, y23, y24, y25, y26, y27, y28, y29, y30, y31, y32, rfl⟩ := arr33 tm hR4.sz
              obtain ⟨G, hm, he⟩ := hR4.ex
              have h8 : mkLoc [(5, .box true tEd (List.getD x (Int.toNat (i : Int)) tEd.dflt)), (8, .sl true (.sl tEd) (partsTo x i))] 8 = some (0, .sl true (.sl tEd) (partsTo x i)) := rfl
              have hl8 := hm.loc 8 _ _ h8
              have hy3 : y3 = (G 8).hdr := by
                obtain ⟨g', l, q1, _, q2⟩ := he 3
                have q1 : mkLoc [(5, .box true tEd (List.getD x (Int.toNat (i : Int)) tEd.dflt)), (8, .sl true (.sl tEd) (partsTo x i))] 8 = some (g', l) := q1
                rw [h8] at q1
                cases q1
                exact q2 rfl
              have hrs : repSl ((reps Go.Proofs.Tryz.prog (.sl tEd)).c W4 (dS (hB w.heap.size S (fun _ => none) (fun _ => False) fun b => Wc.heap[b]?) G (mkLoc [(5, .box true tEd (List.getD x (Int.toNat (i : Int)) tEd.dflt)), (8, .sl true (.sl tEd) (partsTo x i))]) true)) W4 (fun _ => True) (partsTo x i) y3 := by
                rw [hy3]
                exact repSl_of_own hl8 (fun _ _ _ => trivial) (fun _ _ h => h)
              refine wpIn_seq (ql_region rfl ?_)
              simp [ql, go_sem, Exit.then]
              refine (clonePP_call (fun z cs h => ⟨c_len (.sl tEd) h, c_one (.sl tEd) h⟩) hrs (by omega) (List.ne_nil_of_length_pos hpos)).mono ?_
              rintro e W5 ⟨v', ob, rfl, hown, hnew, hb5⟩
              obtain ⟨ao, cap, hv'⟩ : ∃ ao cap, v' = .slice ao (partsTo x i).length cap := by
                rcases hown with ⟨_, h, _⟩ | ⟨b, off, cap, cur, e, _, h, _⟩
                · rw [h] at hpos; simp at hpos
                · exact ⟨_, _, h⟩
              subst hv'
              simp [ql, go_sem, Exit.then]
              have hR5 := rel_newG (kv' := fun _ => none) (w' := W5) (E' := [(3, .own 8 0), (5, .ptr 5 0 []), (9, .d false tX x), (10, .d true .int (x.length : Int)), (11, .d true .int (i : Int)), (16, .d true (.sl (.sl tEd)) (partsTo x i)), (17, .d true .int ((partsTo x i).length : Int)), (18, .d true .int (0))]) (a' := ⟨#[y0, y1, y2, y3, y4, y5, y6, y7, y8, y9, y10, y11, y12, y13, y14, y3, .slice ao (partsTo x i).length cap, .int .i64 (partsTo x i).length, .int .i64 0, y19, y20, y21, y22, y23, y24, y25, y26, y27, y28, y29, y30, y31, y32], []⟩) hR4 hm he (noItL (by intro p hp; simp at hp; rcases hp with rfl | rfl <;> rfl)) hb5 rfl rfl (fun _ _ h => by cases h) (fun t U hU => by
                have hk7 := lk_key hU
                simp at hk7
                rcases hk7 with rfl | rfl | rfl | rfl | rfl | rfl | rfl | rfl
                · exact .inl ⟨3, hU, rfl⟩
                · exact .inl ⟨5, hU, rfl⟩
                · exact .inl ⟨9, hU, rfl⟩
                · exact .inl ⟨10, hU, rfl⟩
                · exact .inl ⟨11, hU, rfl⟩
                · cases hU
                  exact .inr fun hge hlt => ⟨[_], rfl, _, rfl, repSl_of_own hown (fun b o h => hge b (hnew b o h)) (fun z cs h => c_keep (.sl tEd) h ⟨hb5.size, fun b hb' _ => hb5.block b hb'.lt⟩ fun b _ h => hlt true b h)⟩
                · cases hU
                  exact .inr fun _ _ => ⟨[_], rfl, rfl, by unfold inI; omega⟩
                · cases hU
                  exact .inr fun _ _ => ⟨[_], rfl, rfl, by unfold inI; omega⟩)
              clear hR hR3 hR4 hrs hown hm he hl8 hy3
              obtain ⟨A2, hA2⟩ : ∃ A2 : Nat → Act → World → Prop, A2 = fun (k : Nat) (a : Act) (Wc : World) => Rel Go.Proofs.Tryz.prog (hB w.heap.size S (fun _ => none) (fun _ => False) fun b => Wc.heap[b]?) w 33 (mkSt ([(3, .own 8 0), (5, .ptr 5 0 []), (9, .d false tX x), (10, .d true .int (x.length : Int)), (11, .d true .int (i : Int)), (16, .d true (.sl (.sl tEd)) (partsTo x i)), (17, .d true .int ((partsTo x i).length : Int)), (18, .d true .int (k : Int))], [(5, .box true tEd (List.getD x (Int.toNat (i : Int)) tEd.dflt)), (8, .sl true (.sl tEd) (partsTo x i ++ ((partsTo x i).map (· ++ [x.getD i tEd.dflt])).take k))])) a Wc := ⟨_, rfl⟩
              refine wpIn_block (wp_loopAt (loop_upX (n := (partsTo x i).length) A2 ?_ ?_ 0 (Nat.zero_le _) _ _ (by
                rw [hA2]
                simp only [List.take_zero, List.append_nil]
                exact hR5)))
              · clear hR5
                intro a Wc hR
                rw [hA2] at hR
                rw [List.take_of_length_le (by simp)] at hR
                refine wpIn_seq (eng_thru hk mix_ok rfl rfl (ly := ⟨[(3, true), (9, false), (10, true), (11, true), (19, true)], [(8, true)]⟩) (x := ([(3, .own 8 0), (9, .d false tX x), (10, .d true .int (x.length : Int)), (11, .d true .int (i : Int)), (19, .d true .bool (decide (((partsTo x i).length : Int) < ((partsTo x i).length : Int))))], [(8, .sl true (.sl tEd) (partsTo x i ++ ((partsTo x i).map (· ++ [x.getD i tEd.dflt]))))])) hR (by kernel_rfl) (fun _ _ => rfl) ?_ ?_)
                · have h0 : (([(3, V.own 8 0), (9, V.d false tX x), (10, V.d true .int (x.length : Int)), (11, V.d true .int (i : Int)), (19, V.d true .bool (decide (((partsTo x i).length : Int) < ((partsTo x i).length : Int))))], [(8, L.sl true (.sl tEd) (partsTo x i ++ ((partsTo x i).map (· ++ [x.getD i tEd.dflt]))))]) : Lst) = ([(3, .own 8 0), (9, .d false tX x), (10, .d true .int (x.length : Int)), (11, .d true .int (i : Int)), (19, .d true .bool (decide (((partsTo x i).length : Int) < ((partsTo x i).length : Int))))], [(8, .sl true (.sl tEd) (partsTo x i ++ ((partsTo x i).map (· ++ [x.getD i tEd.dflt]))))]) := rfl
                  exact Eq.mpr (by kernel_rfl) h0
                · intro a W6 hR6
                  simp only [Exit.then]
                  have hb0 := rel_bool hR6 (d := 19) rfl
                  refine wpIn_seq (wpIn_cond_false (by rw [hb0]; simp) (wpIn_exit ?_))
                  simp only [Exit.then, Exit.inBlock, if_true]
                  refine eng_thru hk mix_ok rfl rfl (ly := ⟨[(3, true), (9, false), (10, true), (11, true)], [(8, true)]⟩) (x := ([(3, .own 8 0), (9, .d false tX x), (10, .d true .int (x.length : Int)), (11, .d true .int ((i : Int) + 1))], [(8, .sl true (.sl tEd) (partsTo x i ++ ((partsTo x i).map (· ++ [x.getD i tEd.dflt]))))])) hR6 (by kernel_rfl) (fun _ _ => rfl) ?_ ?_
                  · have h0 : inI ((i : Int) + 1) ∧ ((([(3, V.own 8 0), (9, V.d false tX x), (10, V.d true .int (x.length : Int)), (11, V.d true .int ((i : Int) + 1))], [(8, L.sl true (.sl tEd) (partsTo x i ++ ((partsTo x i).map (· ++ [x.getD i tEd.dflt]))))]) : Lst) = ([(3, .own 8 0), (9, .d false tX x), (10, .d true .int (x.length : Int)), (11, .d true .int ((i : Int) + 1))], [(8, .sl true (.sl tEd) (partsTo x i ++ ((partsTo x i).map (· ++ [x.getD i tEd.dflt]))))])) := ⟨by unfold inI; omega, rfl⟩
                    exact Eq.mpr (by kernel_rfl) h0
                  · intro a W10 hR10
                    simp only [Exit.then]
                    rw [hA]
                    exact hR10.now (noItL (by intro p hp; simp at hp; subst hp; rfl))
              · clear hR5
                intro k a Wc hk' hR
                rw [hA2] at hR
                have hsub := ((parts_iff x _ i (by omega)).1 (mem_getD (d := []) hk')).length_le
                rw [List.length_take] at hsub
                refine wpIn_seq (eng_thru hk mix_ok rfl rfl (ly := ⟨[(3, true), (5, true), (9, false), (10, true), (11, true), (16, true), (17, true), (18, true), (19, true)], [(5, true), (8, true)]⟩) (x := ([(3, .own 8 0), (5, .ptr 5 0 []), (9, .d false tX x), (10, .d true .int (x.length : Int)), (11, .d true .int (i : Int)), (16, .d true (.sl (.sl tEd)) (partsTo x i)), (17, .d true .int ((partsTo x i).length : Int)), (18, .d true .int (k : Int)), (19, .d true .bool (decide ((k : Int) < ((partsTo x i).length : Int))))], [(5, .box true tEd (List.getD x (Int.toNat (i : Int)) tEd.dflt)), (8, .sl true (.sl tEd) (partsTo x i ++ ((partsTo x i).map (· ++ [x.getD i tEd.dflt])).take k))])) hR (by kernel_rfl) (fun _ _ => rfl) ?_ ?_)
                · have h0 : (([(3, V.own 8 0), (5, V.ptr 5 0 []), (9, V.d false tX x), (10, V.d true .int (x.length : Int)), (11, V.d true .int (i : Int)), (16, V.d true (.sl (.sl tEd)) (partsTo x i)), (17, V.d true .int ((partsTo x i).length : Int)), (18, V.d true .int (k : Int)), (19, V.d true .bool (decide ((k : Int) < ((partsTo x i).length : Int))))], [(5, L.box true tEd (List.getD x (Int.toNat (i : Int)) tEd.dflt)), (8, L.sl true (.sl tEd) (partsTo x i ++ ((partsTo x i).map (· ++ [x.getD i tEd.dflt])).take k))]) : Lst) = ([(3, .own 8 0), (5, .ptr 5 0 []), (9, .d false tX x), (10, .d true .int (x.length : Int)), (11, .d true .int (i : Int)), (16, .d true (.sl (.sl tEd)) (partsTo x i)), (17, .d true .int ((partsTo x i).length : Int)), (18, .d true .int (k : Int)), (19, .d true .bool (decide ((k : Int) < ((partsTo x i).length : Int))))], [(5, .box true tEd (List.getD x (Int.toNat (i : Int)) tEd.dflt)), (8, .sl true (.sl tEd) (partsTo x i ++ ((partsTo x i).map (· ++ [x.getD i tEd.dflt])).take k))]) := rfl
                  exact Eq.mpr (by kernel_rfl) h0
                · intro a W6 hR6
                  simp only [Exit.then]
                  have hb0 := rel_bool hR6 (d := 19) rfl
                  refine wpIn_seq (wpIn_cond_true (by rw [hb0]; simp; omega) (wpIn_skip ?_))
                  simp only [Exit.then]
                  refine wpIn_seq (eng_thru hk mix_ok rfl rfl (ly := ⟨[(3, true), (5, true), (9, false), (10, true), (11, true), (16, true), (17, true), (18, true)], [(5, true), (8, true)]⟩) (x := ([(3, .own 8 0), (5, .ptr 5 0 []), (9, .d false tX x), (10, .d true .int (x.length : Int)), (11, .d true .int (i : Int)), (16, .d true (.sl (.sl tEd)) (partsTo x i)), (17, .d true .int ((partsTo x i).length : Int)), (18, .d true .int (k : Int))], [(5, .box true tEd (List.getD x (Int.toNat (i : Int)) tEd.dflt)), (8, .sl true (.sl tEd) ((partsTo x i ++ ((partsTo x i).map (· ++ [x.getD i tEd.dflt])).take k) ++ [(List.getD (partsTo x i) (Int.toNat (k : Int)) []) ++ [(List.getD x (Int.toNat (i : Int)) tEd.dflt)]]))])) hR6 (by kernel_rfl) (fun _ _ => rfl) ?_ ?_)
                  · have h0 : idx (k : Int) ((partsTo x i).length : Int) ∧ ((List.getD (partsTo x i) (Int.toNat (k : Int)) []).length ≤ 1000000 ∧ (List.length (List.getD (partsTo x i) (Int.toNat (k : Int)) []) + List.length [(List.getD x (Int.toNat (i : Int)) tEd.dflt)] ≤ 4294967296 ∧ (List.length (partsTo x i ++ ((partsTo x i).map (· ++ [x.getD i tEd.dflt])).take k) + List.length ([(List.getD (partsTo x i) (Int.toNat (k : Int)) []) ++ [(List.getD x (Int.toNat (i : Int)) tEd.dflt)]]) ≤ 4294967296 ∧ ((([(3, V.own 8 0), (5, V.ptr 5 0 []), (9, V.d false tX x), (10, V.d true .int (x.length : Int)), (11, V.d true .int (i : Int)), (16, V.d true (.sl (.sl tEd)) (partsTo x i)), (17, V.d true .int ((partsTo x i).length : Int)), (18, V.d true .int (k : Int))], [(5, L.box true tEd (List.getD x (Int.toNat (i : Int)) tEd.dflt)), (8, L.sl true (.sl tEd) ((partsTo x i ++ ((partsTo x i).map (· ++ [x.getD i tEd.dflt])).take k) ++ [(List.getD (partsTo x i) (Int.toNat (k : Int)) []) ++ [(List.getD x (Int.toNat (i : Int)) tEd.dflt)]]))]) : Lst) = ([(3, .own 8 0), (5, .ptr 5 0 []), (9, .d false tX x), (10, .d true .int (x.length : Int)), (11, .d true .int (i : Int)), (16, .d true (.sl (.sl tEd)) (partsTo x i)), (17, .d true .int ((partsTo x i).length : Int)), (18, .d true .int (k : Int))], [(5, .box true tEd (List.getD x (Int.toNat (i : Int)) tEd.dflt)), (8, .sl true (.sl tEd) ((partsTo x i ++ ((partsTo x i).map (· ++ [x.getD i tEd.dflt])).take k) ++ [(List.getD (partsTo x i) (Int.toNat (k : Int)) []) ++ [(List.getD x (Int.toNat (i : Int)) tEd.dflt)]]))]))))) := ⟨idx_nat hk', by rw [Int.toNat_natCast]; omega, by rw [Int.toNat_natCast]; simp only [List.length_singleton]; omega, by simp; omega, rfl⟩
                    exact Eq.mpr (by kernel_rfl) h0
                  · intro a W8 hR8
                    simp only [Exit.then]
                    refine eng_thru hk mix_ok rfl rfl (ly := ⟨[(3, true), (5, true), (9, false), (10, true), (11, true), (16, true), (17, true), (18, true)], [(5, true), (8, true)]⟩) (x := ([(3, .own 8 0), (5, .ptr 5 0 []), (9, .d false tX x), (10, .d true .int (x.length : Int)), (11, .d true .int (i : Int)), (16, .d true (.sl (.sl tEd)) (partsTo x i)), (17, .d true .int ((partsTo x i).length : Int)), (18, .d true .int ((k : Int) + 1))], [(5, .box true tEd (List.getD x (Int.toNat (i : Int)) tEd.dflt)), (8, .sl true (.sl tEd) ((partsTo x i ++ ((partsTo x i).map (· ++ [x.getD i tEd.dflt])).take k) ++ [(List.getD (partsTo x i) (Int.toNat (k : Int)) []) ++ [(List.getD x (Int.toNat (i : Int)) tEd.dflt)]]))])) hR8 (by kernel_rfl) (fun _ _ => rfl) ?_ ?_
                    · have h0 : inI ((k : Int) + 1) ∧ ((([(3, V.own 8 0), (5, V.ptr 5 0 []), (9, V.d false tX x), (10, V.d true .int (x.length : Int)), (11, V.d true .int (i : Int)), (16, V.d true (.sl (.sl tEd)) (partsTo x i)), (17, V.d true .int ((partsTo x i).length : Int)), (18, V.d true .int ((k : Int) + 1))], [(5, L.box true tEd (List.getD x (Int.toNat (i : Int)) tEd.dflt)), (8, L.sl true (.sl tEd) ((partsTo x i ++ ((partsTo x i).map (· ++ [x.getD i tEd.dflt])).take k) ++ [(List.getD (partsTo x i) (Int.toNat (k : Int)) []) ++ [(List.getD x (Int.toNat (i : Int)) tEd.dflt)]]))]) : Lst) = ([(3, .own 8 0), (5, .ptr 5 0 []), (9, .d false tX x), (10, .d true .int (x.length : Int)), (11, .d true .int (i : Int)), (16, .d true (.sl (.sl tEd)) (partsTo x i)), (17, .d true .int ((partsTo x i).length : Int)), (18, .d true .int ((k : Int) + 1))], [(5, .box true tEd (List.getD x (Int.toNat (i : Int)) tEd.dflt)), (8, .sl true (.sl tEd) ((partsTo x i ++ ((partsTo x i).map (· ++ [x.getD i tEd.dflt])).take k) ++ [(List.getD (partsTo x i) (Int.toNat (k : Int)) []) ++ [(List.getD x (Int.toNat (i : Int)) tEd.dflt)]]))])) := ⟨by unfold inI; omega, rfl⟩
                      exact Eq.mpr (by kernel_rfl) h0
                    · intro a W9 hR9
                      simp only [Exit.then]
                      rw [hA2]
                      dsimp only
                      rw [map_take_next (· ++ [x.getD i tEd.dflt]) (partsTo x i) [] hk', ← List.append_assoc]
                      exact hR9.now (noItL (by intro p hp; simp at hp; rcases hp with rfl | rfl <;> rfl))
end Go.Tk
/- Layer 4: good patches, parts, the smallest one. -/
set_option linter.unusedSimpArgs false
set_option linter.unusedVariables false
set_option linter.unnecessarySimpa false
namespace Go.Tk
open Go Go.RowKit
abbrev cFailingO : Con := { A := (.cons (.sl tL) (.cons (.sl tTs) .nil)), R := (.cons (.osl .int) (.cons .int .nil)), pre := fun x => True, F := fun x => ((if errT [x.1] x.2.1 = 0 then failL x.1 x.2.1 else []), errT [x.1] x.2.1, ()) }
def cFailingO_0  (p : (List Lin)) (l : (List Tst)) (y0 : (List Int)) (y1 : Int) : Prop :=
  True ∧ (if ((errT [p] l) != (0 : Int)) = true then ((errT [p] l) = y1 ∧ ([] : List Int) = y0) else ((l.length ≤ 1000000 ∧ ∀ t' ∈ l, tTs.wf t' → (fun (xx : (Tst × Unit)) => validP p = 0 ∧ isTst xx.1 = true, fun (xx : (Tst × Unit)) => (!(passT p xx.1), ())).1 (t', ())) ∧ ((0 : Int) = y1 ∧ (whereL (fun t' => ((fun (xx : (Tst × Unit)) => validP p = 0 ∧ isTst xx.1 = true, fun (xx : (Tst × Unit)) => (!(passT p xx.1), ())).2 (t', ())).1) l) = y0)))
theorem cFailingO_law (h : ∀ (p : (List Lin)) (l : (List Tst)), cFailingO.A.wf (p, l, ()) → cFailingO_0  p l (if errT [p] l = 0 then failL p l else []) (errT [p] l)) : ConOK Go.Proofs.Tryz.prog 50 cFailingO := by
  refine lawX (X := { subs := [], frz := [2], U := [], mul := [], nst := [], nls := [], itf := none, inp := [], arrs := [] }) (hX := xok0 _ trivial) (Γ := [(89, cFailing1), (87, cTested), (88, cWhere)]) (Θ := Th) (n := 17) [] ⟨cFailing1_ok, cTested_ok, cWhere_ok, trivial⟩ (by kernel_rfl) th_ok mix_ok Go.Proofs.Tryz.func50 (by kernel_rfl) ?_
  intro x hw hp Λ hC
  have h0 := h x.1 x.2.1 hw  
  exact Eq.mpr (by kernel_rfl) h0
theorem cFailingO_ok : ConOK Go.Proofs.Tryz.prog 50 cFailingO := by
  refine cFailingO_law ?_
  intro p l hw
  unfold cFailingO_0
  refine ⟨trivial, ?_⟩
  by_cases h : errT [p] l = 0
  · rw [if_neg (by simp [h]), if_pos h]
    obtain ⟨h1, h2⟩ := errT_ok h
    obtain ⟨h3, h4⟩ := validT_ok h2
    exact ⟨⟨by omega, fun t' ht _ => ⟨h1, h4 t' ht⟩⟩, h.symm, rfl⟩
  · rw [if_pos (by simpa using h), if_neg h]
    exact ⟨rfl, rfl⟩
abbrev cDelI : InC := { a := .int, B := (.cons (.fn (.cons .int .nil) (.cons .bool .nil)) .nil), pre := fun xs x => ∀ r', inI r' → x.1.1 (r', ()), F := fun xs x => xs.filter (fun r' => !(x.1.2 (r', ())).1), ret := true }
def cDelI_0 (Λ1 : Int → Int → (List Int) → Prop) (s : (List Int)) (del : (T.fn (.cons .int .nil) (.cons .bool .nil)).den) (y0 : (List Int)) : Prop :=
  (∀ r, inI r → del.1 (r, ())) ∧ (if ((idxF (fun r => (del.2 (r, ())).1) s) == (-1 : Int)) = true then s = y0 else (inI ((idxF (fun r => (del.2 (r, ())).1) s) + (1 : Int)) ∧ Λ1 (idxF (fun r => (del.2 (r, ())).1) s) ((idxF (fun r => (del.2 (r, ())).1) s) + (1 : Int)) s))
def cDelI_1 (Λ1 : Int → Int → (List Int) → Prop) (s : (List Int)) (del : (T.fn (.cons .int .nil) (.cons .bool .nil)).den) (y0 : (List Int))  (i_1 : Int) (j_1 : Int) (s_1 : (List Int)) : Prop :=
  if (decide (j_1 < (List.length s_1 : Int))) = true then (idx j_1 (List.length s_1 : Int) ∧ (del.1 ((List.getD s_1 (Int.toNat j_1) 0), ()) ∧ (if (!((del.2 ((List.getD s_1 (Int.toNat j_1) 0), ())).1)) = true then (idx i_1 (List.length s_1 : Int) ∧ (inI (i_1 + (1 : Int)) ∧ (inI (j_1 + (1 : Int)) ∧ Λ1 (i_1 + (1 : Int)) (j_1 + (1 : Int)) (List.set s_1 (Int.toNat i_1) (List.getD s_1 (Int.toNat j_1) 0))))) else (inI (j_1 + (1 : Int)) ∧ Λ1 i_1 (j_1 + (1 : Int)) s_1)))) else ((0 ≤ i_1 ∧ i_1 ≤ (List.length s_1 : Int) ∧ (List.length s_1 : Int) ≤ (List.length s_1 : Int) ∧ (List.length s_1 : Int) ≤ (List.length s_1 : Int)) ∧ (True ∧ ((0 ≤ (0 : Int) ∧ (0 : Int) ≤ i_1 ∧ i_1 ≤ (List.length (List.take (Int.toNat i_1) s_1 ++ List.replicate ((Int.toNat (List.length s_1 : Int)) - (Int.toNat i_1)) 0 ++ List.drop (Int.toNat (List.length s_1 : Int)) s_1) : Int) ∧ (List.length (List.take (Int.toNat i_1) s_1 ++ List.replicate ((Int.toNat (List.length s_1 : Int)) - (Int.toNat i_1)) 0 ++ List.drop (Int.toNat (List.length s_1 : Int)) s_1) : Int) ≤ (List.length (List.take (Int.toNat i_1) s_1 ++ List.replicate ((Int.toNat (List.length s_1 : Int)) - (Int.toNat i_1)) 0 ++ List.drop (Int.toNat (List.length s_1 : Int)) s_1) : Int)) ∧ List.take (Int.toNat i_1) (List.take (Int.toNat i_1) s_1 ++ List.replicate ((Int.toNat (List.length s_1 : Int)) - (Int.toNat i_1)) 0 ++ List.drop (Int.toNat (List.length s_1 : Int)) s_1) = y0)))
theorem cDelI_law (h : ∀ (s : (List Int)) (del : (T.fn (.cons .int .nil) (.cons .bool .nil)).den), (T.sl cDelI.a).wf s → cDelI.B.wf (del, ()) → (∀ r', inI r' → del.1 (r', ())) → ∀ (Λ1 : Int → Int → (List Int) → Prop), (∀ (i_1 : Int) (j_1 : Int) (s_1 : (List Int)), cDelI_1 Λ1 s del (s.filter (fun r' => !(del.2 (r', ())).1)) i_1 j_1 s_1 → Λ1 i_1 j_1 s_1) → cDelI_0 Λ1 s del (s.filter (fun r' => !(del.2 (r', ())).1))) : InF Go.Proofs.Tryz.prog 115 cDelI := by
  refine lawI (X := { subs := [38, 41], frz := [], U := [], mul := [], nst := [], nls := [], itf := none, inp := [], arrs := [] }) (hX := xok0 _ trivial) (Γ := [(132, cIndexI)]) (Θ := Th) (n := 42) [([1, 1, 1, 0, 1, 0], ⟨[(0, true), (1, false), (5, true), (6, true)], [(0, false)]⟩)] ⟨cIndexI_ok, trivial⟩ (by kernel_rfl) th_ok mix_ok Go.Proofs.Tryz.func115 (by kernel_rfl) ?_
  intro xs x hs hw hp Λ hC
  have h0 := h xs x.1 hs hw hp (fun i_1 j_1 s_1 => Λ [1, 1, 1, 0, 1, 0] ([(0, .own 0 0), (1, .d false (.fn (.cons .int .nil) (.cons .bool .nil)) x.1), (5, .d true .int i_1), (6, .d true .int j_1)], [(0, .sl false .int s_1)])) (fun i_1 j_1 s_1 hb => hC [1, 1, 1, 0, 1, 0] ([(0, .own 0 0), (1, .d false (.fn (.cons .int .nil) (.cons .bool .nil)) x.1), (5, .d true .int i_1), (6, .d true .int j_1)], [(0, .sl false .int s_1)]) (Eq.mpr (by kernel_rfl) hb))
  exact Eq.mpr (by kernel_rfl) h0
theorem cDelI_ok : FunOK Go.Proofs.Tryz.prog 115 ∧ InF Go.Proofs.Tryz.prog 115 cDelI := by
  refine ⟨funB_ok (by kernel_rfl), cDelI_law ?_⟩
  intro s del hs hw hp Λ1 h1
  unfold cDelI_0
  have hl : s.length ≤ 140737488355328 := hs.1
  refine ⟨hp, ?_⟩
  generalize hpe : (fun r => (del.2 (r, ())).1) = p
  have hfe : (s.filter fun r => !(del.2 (r, ())).1) = s.filter fun r => !p r := by rw [← hpe]
  rw [hfe]
  rw [hfe] at h1
  rcases idxF_cases 0 p s with ⟨e1, e2⟩ | ⟨k, hk, e1, e2, e3⟩
  · rw [e1, if_pos (by rfl), filter_none e2]
  · rw [e1, if_neg (by simp)]
    refine ⟨by unfold inI; omega, ?_⟩
    obtain ⟨d1, d2⟩ := DelI.start 0 hk e2 e3
    have key : ∀ j, j ≤ s.length → ∀ s1, DelI p s s1 j → Λ1 ((keepK p s j).length : Int) (j : Int) s1 := by
      refine upto ?_ ?_
      · intro s1 hd
        apply h1; unfold cDelI_1
        rw [if_neg (by simp [hd.len])]
        have hkl := keepK_len p s s.length
        refine ⟨⟨by omega, by rw [hd.len]; omega, Int.le_refl _, Int.le_refl _⟩, trivial, ⟨Int.le_refl _, by omega, ?_, Int.le_refl _⟩, ?_⟩
        · simp [hd.len]; omega
        · simp only [Int.toNat_natCast]
          rw [List.take_append_of_le_length (by simp [hd.len]; omega), List.take_append_of_le_length (by simp [hd.len]; omega), List.take_take, Nat.min_self, hd.fst, keepK_all]
      · intro j hj ih s1 hd
        apply h1; unfold cDelI_1
        rw [if_pos (by simp [hd.len]; exact hj)]
        rw [Int.toNat_natCast, hd.get (d := 0) hj]
        have hlt := hd.lt
        refine ⟨⟨by omega, by rw [hd.len]; omega⟩, hp _ (hs.2 _ (mem_getD hj)), ?_⟩
        have hpv : (del.2 (s.getD j 0, ())).1 = p (s.getD j 0) := by rw [← hpe]
        rw [hpv]
        cases hv : p (s.getD j 0)
        · rw [if_pos (by rfl)]
          obtain ⟨g1, g2⟩ := hd.keep (d := 0) hj hv
          have := ih _ g1
          rw [g2] at this
          exact ⟨⟨by omega, by rw [hd.len]; omega⟩, by unfold inI; omega, by unfold inI; omega, by simpa using this⟩
        · rw [if_neg (by simp)]
          obtain ⟨g1, g2⟩ := hd.skip (d := 0) hj hv
          have := ih _ g1
          rw [g2] at this
          exact ⟨by unfold inI; omega, by simpa using this⟩
    have := key (k + 1) (by omega) s d1
    rw [d2] at this
    simpa using this
abbrev cTurned1 : Con := { A := (.cons .int (.cons (.ref (.sl .int)) .nil)), R := (.cons .bool .nil), pre := fun x => True, F := fun x => (!(decide (x.1 ∈ x.2.1)), ()) }
def cTurned1_0  (i : Int) (c0 : (List Int)) (y0 : Bool) : Prop :=
  True ∧ ((!(decide (i ∈ c0))) = y0 ∧ True)
theorem cTurned1_law (h : ∀ (i : Int) (c0 : (List Int)), cTurned1.A.wf (i, c0, ()) → cTurned1_0  i c0 (!(decide (i ∈ c0)))) : ConOK Go.Proofs.Tryz.prog 116 cTurned1 := by
  refine lawL (Γ := [(83, cContN)]) (Θ := Th) (n := 8) [] ⟨cContN_ok, trivial⟩ (by kernel_rfl) th_ok mix_ok Go.Proofs.Tryz.func116 (by kernel_rfl) ?_
  intro x hw hp Λ hC
  have h0 := h x.1 x.2.1 hw  
  exact Eq.mpr (by kernel_rfl) h0
theorem cTurned1_ok : ConOK Go.Proofs.Tryz.prog 116 cTurned1 := by
  refine cTurned1_law ?_
  intro i c0 hw
  unfold cTurned1_0
  exact ⟨trivial, rfl, trivial⟩
abbrev cTurned : Con := { A := (.cons (.sl tL) (.cons (.sl tL) (.cons (.sl tTs) .nil))), R := (.cons (.osl .int) .nil), pre := fun x => validP x.1 = 0 ∧ validP x.2.1 = 0 ∧ validT x.2.2.1 = 0, F := fun x => (turnedL x.1 x.2.1 x.2.2.1, ()) }
def cTurned_0  (p : (List Lin)) (q : (List Lin)) (l : (List Tst)) (y0 : (List Int)) : Prop :=
  True ∧ (True ∧ ((∀ r', inI r' → (fun (xx : (Int × Unit)) => True, fun (xx : (Int × Unit)) => (!(decide (xx.1 ∈ ((if errT [q] l = 0 then whereL (passT q) l else [])))), ())).1 (r', ())) ∧ (((if errT [p] l = 0 then failL p l else [])).filter (fun r' => !((fun (xx : (Int × Unit)) => True, fun (xx : (Int × Unit)) => (!(decide (xx.1 ∈ ((if errT [q] l = 0 then whereL (passT q) l else [])))), ())).2 (r', ())).1)) = y0))
theorem cTurned_law (h : ∀ (p : (List Lin)) (q : (List Lin)) (l : (List Tst)), cTurned.A.wf (p, q, l, ()) → (validP p = 0 ∧ validP q = 0 ∧ validT l = 0) → cTurned_0  p q l (turnedL p q l)) : ConOK Go.Proofs.Tryz.prog 85 cTurned := by
  refine lawX (X := { subs := [], frz := [], U := [], mul := [], nst := [], nls := [], itf := none, inp := [(115, cDelI)], arrs := [] }) (hX := xok0 _ ⟨cDelI_ok, trivial⟩) (Γ := [(50, cFailingO), (114, cPassing), (116, cTurned1)]) (Θ := Th) (n := 26) [] ⟨cFailingO_ok, cPassing_ok, cTurned1_ok, trivial⟩ (by kernel_rfl) th_ok mix_ok Go.Proofs.Tryz.func85 (by kernel_rfl) ?_
  intro x hw hp Λ hC
  have h0 := h x.1 x.2.1 x.2.2.1 hw hp  
  exact Eq.mpr (by kernel_rfl) h0
theorem cTurned_ok : ConOK Go.Proofs.Tryz.prog 85 cTurned := by
  refine cTurned_law ?_
  intro p q l hw hp
  unfold cTurned_0
  obtain ⟨h1, h2, h3⟩ := hp
  have e1 : errT [p] l = 0 := by unfold errT firstErr firstErr; rw [if_pos h1, if_pos rfl, h3]
  have e2 : errT [q] l = 0 := by unfold errT firstErr firstErr; rw [if_pos h2, if_pos rfl, h3]
  rw [if_pos e1, if_pos e2]
  refine ⟨trivial, trivial, fun _ _ => trivial, ?_⟩
  unfold turnedL
  congr 1
  funext r
  simp
abbrev cFixes : Con := { A := (.cons (.sl tL) (.cons (.sl tEd) (.cons (.sl tTs) .nil))), R := (.cons (.osl .int) (.cons .int .nil)), pre := fun x => True, F := fun x => ((if errXT x.1 x.2.1 x.2.2.1 = 0 then turnedL x.1 (playX x.1 x.2.1) x.2.2.1 else []), errXT x.1 x.2.1 x.2.2.1, ()) }
def cFixes_0  (p : (List Lin)) (x : (List Edt)) (l : (List Tst)) (y0 : (List Int)) (y1 : Int) : Prop :=
  True ∧ (if ((errXT p x l) != (0 : Int)) = true then ((errXT p x l) = y1 ∧ ([] : List Int) = y0) else ((p.length ≤ 1000 ∧ x.length ≤ 1000 ∧ Asc (readE x) ∧ inX p.length x) ∧ ((validP p = 0 ∧ validP (playX p x) = 0 ∧ validT l = 0) ∧ ((0 : Int) = y1 ∧ (turnedL p (playX p x) l) = y0))))
theorem cFixes_law (h : ∀ (p : (List Lin)) (x : (List Edt)) (l : (List Tst)), cFixes.A.wf (p, x, l, ()) → cFixes_0  p x l (if errXT p x l = 0 then turnedL p (playX p x) l else []) (errXT p x l)) : ConOK Go.Proofs.Tryz.prog 46 cFixes := by
  refine lawL (Γ := [(57, cChk), (58, cDo), (85, cTurned)]) (Θ := Th) (n := 22) [] ⟨cChk_ok, cDo_ok, cTurned_ok, trivial⟩ (by kernel_rfl) th_ok mix_ok Go.Proofs.Tryz.func46 (by kernel_rfl) ?_
  intro x hw hp Λ hC
  have h0 := h x.1 x.2.1 x.2.2.1 hw  
  exact Eq.mpr (by kernel_rfl) h0
theorem cFixes_ok : ConOK Go.Proofs.Tryz.prog 46 cFixes := by
  refine cFixes_law ?_
  intro p x l hw
  unfold cFixes_0
  refine ⟨trivial, ?_⟩
  by_cases h : errXT p x l = 0
  · obtain ⟨g1, g2, g3, g4⟩ := errXT_ok h
    have h8 := (validP_ok g1).1
    have h4 := (validX_ok g2).1
    have hv := errX_play (errXT_X h)
    rw [if_neg (by simp [h])]
    exact ⟨⟨by omega, by omega, validX_asc g2, g4⟩, ⟨g1, hv, g3⟩, h.symm, by rw [if_pos h]⟩
  · rw [if_pos (by simpa using h)]
    exact ⟨rfl, by rw [if_neg h]⟩
abbrev cBreaks : Con := { A := (.cons (.sl tL) (.cons (.sl tEd) (.cons (.sl tTs) .nil))), R := (.cons (.osl .int) (.cons .int .nil)), pre := fun x => True, F := fun x => ((if errXT x.1 x.2.1 x.2.2.1 = 0 then turnedL (playX x.1 x.2.1) x.1 x.2.2.1 else []), errXT x.1 x.2.1 x.2.2.1, ()) }
def cBreaks_0  (p : (List Lin)) (x : (List Edt)) (l : (List Tst)) (y0 : (List Int)) (y1 : Int) : Prop :=
  True ∧ (if ((errXT p x l) != (0 : Int)) = true then ((errXT p x l) = y1 ∧ ([] : List Int) = y0) else ((p.length ≤ 1000 ∧ x.length ≤ 1000 ∧ Asc (readE x) ∧ inX p.length x) ∧ ((validP (playX p x) = 0 ∧ validP p = 0 ∧ validT l = 0) ∧ ((0 : Int) = y1 ∧ (turnedL (playX p x) p l) = y0))))
theorem cBreaks_law (h : ∀ (p : (List Lin)) (x : (List Edt)) (l : (List Tst)), cBreaks.A.wf (p, x, l, ()) → cBreaks_0  p x l (if errXT p x l = 0 then turnedL (playX p x) p l else []) (errXT p x l)) : ConOK Go.Proofs.Tryz.prog 48 cBreaks := by
  refine lawL (Γ := [(57, cChk), (58, cDo), (85, cTurned)]) (Θ := Th) (n := 22) [] ⟨cChk_ok, cDo_ok, cTurned_ok, trivial⟩ (by kernel_rfl) th_ok mix_ok Go.Proofs.Tryz.func48 (by kernel_rfl) ?_
  intro x hw hp Λ hC
  have h0 := h x.1 x.2.1 x.2.2.1 hw  
  exact Eq.mpr (by kernel_rfl) h0
theorem cBreaks_ok : ConOK Go.Proofs.Tryz.prog 48 cBreaks := by
  refine cBreaks_law ?_
  intro p x l hw
  unfold cBreaks_0
  refine ⟨trivial, ?_⟩
  by_cases h : errXT p x l = 0
  · obtain ⟨g1, g2, g3, g4⟩ := errXT_ok h
    have h8 := (validP_ok g1).1
    have h4 := (validX_ok g2).1
    have hv := errX_play (errXT_X h)
    rw [if_neg (by simp [h])]
    exact ⟨⟨by omega, by omega, validX_asc g2, g4⟩, ⟨hv, g1, g3⟩, h.symm, by rw [if_pos h]⟩
  · rw [if_pos (by simpa using h)]
    exact ⟨rfl, by rw [if_neg h]⟩
abbrev cIsGood0 : Con := { A := (.cons (.sl tL) (.cons (.sl tEd) (.cons (.sl tTs) .nil))), R := (.cons .bool .nil), pre := fun x => errXT x.1 x.2.1 x.2.2.1 = 0, F := fun x => (goodX x.1 x.2.1 x.2.2.1, ()) }
def cIsGood0_0  (p : (List Lin)) (x : (List Edt)) (l : (List Tst)) (y0 : Bool) : Prop :=
  (p.length ≤ 1000 ∧ x.length ≤ 1000 ∧ Asc (readE x) ∧ inX p.length x) ∧ (True ∧ (((List.length ((if errT [(playX p x)] l = 0 then failL (playX p x) l else [])) : Int) == (0 : Int)) = y0 ∧ True))
theorem cIsGood0_law (h : ∀ (p : (List Lin)) (x : (List Edt)) (l : (List Tst)), cIsGood0.A.wf (p, x, l, ()) → (errXT p x l = 0) → cIsGood0_0  p x l (goodX p x l)) : ConOK Go.Proofs.Tryz.prog 91 cIsGood0 := by
  refine lawL (Γ := [(58, cDo), (50, cFailingO)]) (Θ := Th) (n := 20) [] ⟨cDo_ok, cFailingO_ok, trivial⟩ (by kernel_rfl) th_ok mix_ok Go.Proofs.Tryz.func91 (by kernel_rfl) ?_
  intro x hw hp Λ hC
  have h0 := h x.1 x.2.1 x.2.2.1 hw hp  
  exact Eq.mpr (by kernel_rfl) h0
theorem cIsGood0_ok : ConOK Go.Proofs.Tryz.prog 91 cIsGood0 := by
  refine cIsGood0_law ?_
  intro p x l hw hp
  unfold cIsGood0_0
  obtain ⟨g1, g2, g3, g4⟩ := errXT_ok hp
  have h8 := (validP_ok g1).1
  have h4 := (validX_ok g2).1
  have hv := errX_play (errXT_X hp)
  have e1 : errT [playX p x] l = 0 := by unfold errT firstErr firstErr; rw [if_pos hv, if_pos rfl, g3]
  rw [if_pos e1]
  refine ⟨⟨by omega, by omega, validX_asc g2, g4⟩, trivial, ?_, trivial⟩
  unfold goodX
  cases failL (playX p x) l with
  | nil => rfl
  | cons a b => simp; omega
abbrev cIsGood : Con := { A := (.cons (.sl tL) (.cons (.sl tEd) (.cons (.sl tTs) .nil))), R := (.cons .bool (.cons .int .nil)), pre := fun x => True, F := fun x => ((errXT x.1 x.2.1 x.2.2.1 == 0 && goodX x.1 x.2.1 x.2.2.1), errXT x.1 x.2.1 x.2.2.1, ()) }
def cIsGood_0  (p : (List Lin)) (x : (List Edt)) (l : (List Tst)) (y0 : Bool) (y1 : Int) : Prop :=
  True ∧ (if ((errXT p x l) != (0 : Int)) = true then (false = y0 ∧ (errXT p x l) = y1 ∧ True) else (errXT p x l = 0 ∧ ((goodX p x l) = y0 ∧ (0 : Int) = y1 ∧ True)))
theorem cIsGood_law (h : ∀ (p : (List Lin)) (x : (List Edt)) (l : (List Tst)), cIsGood.A.wf (p, x, l, ()) → cIsGood_0  p x l (errXT p x l == 0 && goodX p x l) (errXT p x l)) : ConOK Go.Proofs.Tryz.prog 51 cIsGood := by
  refine lawL (Γ := [(57, cChk), (91, cIsGood0)]) (Θ := Th) (n := 20) [] ⟨cChk_ok, cIsGood0_ok, trivial⟩ (by kernel_rfl) th_ok mix_ok Go.Proofs.Tryz.func51 (by kernel_rfl) ?_
  intro x hw hp Λ hC
  have h0 := h x.1 x.2.1 x.2.2.1 hw  
  exact Eq.mpr (by kernel_rfl) h0
theorem cIsGood_ok : ConOK Go.Proofs.Tryz.prog 51 cIsGood := by
  refine cIsGood_law ?_
  intro p x l hw
  unfold cIsGood_0
  refine ⟨trivial, ?_⟩
  by_cases h : errXT p x l = 0
  · rw [if_neg (by simp [h])]
    exact ⟨h, by rw [h]; rfl, h.symm, trivial⟩
  · rw [if_pos (by simpa using h)]
    refine ⟨?_, rfl, trivial⟩
    rw [beq_eq_false_iff_ne.2 h]; rfl
abbrev cIndexP : Con := { A := (.cons (.sl (.sl tEd)) (.cons (.fn (.cons (.sl tEd) .nil) (.cons .bool .nil)) .nil)), R := (.cons .int .nil), pre := fun x => ∀ r', r' ∈ x.1 → x.2.1.1 (r', ()), F := fun x => (idxF (fun r' => (x.2.1.2 (r', ())).1) x.1, ()) }
def cIndexP_0 (Λ1 : Int → Prop) (s : (List (List Edt))) (f : (T.fn (.cons (.sl tEd) .nil) (.cons .bool .nil)).den) (y0 : Int) : Prop :=
  Λ1 (0 : Int)
def cIndexP_1 (Λ1 : Int → Prop) (s : (List (List Edt))) (f : (T.fn (.cons (.sl tEd) .nil) (.cons .bool .nil)).den) (y0 : Int)  (t8_1 : Int) : Prop :=
  if (decide (t8_1 < (List.length s : Int))) = true then (idx t8_1 (List.length s : Int) ∧ (f.1 ((List.getD s (Int.toNat t8_1) ([] : List Edt)), ()) ∧ (if ((f.2 ((List.getD s (Int.toNat t8_1) ([] : List Edt)), ())).1) = true then (t8_1 = y0 ∧ True) else (inI (t8_1 + (1 : Int)) ∧ Λ1 (t8_1 + (1 : Int)))))) else ((-1 : Int) = y0 ∧ True)
theorem cIndexP_law (h : ∀ (s : (List (List Edt))) (f : (T.fn (.cons (.sl tEd) .nil) (.cons .bool .nil)).den), cIndexP.A.wf (s, f, ()) → (∀ r', r' ∈ s → f.1 (r', ())) → ∀ (Λ1 : Int → Prop), (∀ (t8_1 : Int), cIndexP_1 Λ1 s f (idxF (fun r' => (f.2 (r', ())).1) s) t8_1 → Λ1 t8_1) → cIndexP_0 Λ1 s f (idxF (fun r' => (f.2 (r', ())).1) s)) : ConOK Go.Proofs.Tryz.prog 125 cIndexP := by
  refine lawL (Γ := []) (Θ := Th) (n := 19) [([1, 0, 1, 0], ⟨[(0, false), (1, false), (7, true), (8, true)], []⟩)] trivial (by kernel_rfl) th_ok mix_ok Go.Proofs.Tryz.func125 (by kernel_rfl) ?_
  intro x hw hp Λ hC
  have h0 := h x.1 x.2.1 hw hp (fun t8_1 => Λ [1, 0, 1, 0] ([(0, .d false (.sl (.sl tEd)) x.1), (1, .d false (.fn (.cons (.sl tEd) .nil) (.cons .bool .nil)) x.2.1), (7, .d true .int (List.length x.1 : Int)), (8, .d true .int t8_1)], [])) (fun t8_1 hb => hC [1, 0, 1, 0] ([(0, .d false (.sl (.sl tEd)) x.1), (1, .d false (.fn (.cons (.sl tEd) .nil) (.cons .bool .nil)) x.2.1), (7, .d true .int (List.length x.1 : Int)), (8, .d true .int t8_1)], []) (Eq.mpr (by kernel_rfl) hb))
  exact Eq.mpr (by kernel_rfl) h0
theorem cIndexP_ok : ConOK Go.Proofs.Tryz.prog 125 cIndexP := by
  refine cIndexP_law ?_
  intro s f hw hp Λ1 h1
  unfold cIndexP_0
  refine upto (n := s.length) (Q := fun i => (s.take i).any (fun r => (f.2 (r, ())).1) = false → Λ1 i) ?_ ?_ 0 (Nat.zero_le _) rfl
  · intro ha
    rw [List.take_length] at ha
    apply h1; unfold cIndexP_1; rw [if_neg (by simp), idxF_none ha]
    exact ⟨rfl, trivial⟩
  · intro i hi ih ha
    apply h1; unfold cIndexP_1; rw [if_pos (by simpa using hi), Int.toNat_natCast]
    refine ⟨idx_nat hi, hp _ (mem_getD hi), ?_⟩
    cases hv : (f.2 (List.getD s i [], ())).1
    · rw [if_neg (by simp)]
      exact ⟨inI_succ hi hw.1.1, ih (any_take_next (p := fun r => (f.2 (r, ())).1) [] hi ha hv)⟩
    · rw [if_pos (by rfl), idxF_at (p := fun r => (f.2 (r, ())).1) [] hi ha hv]
      exact ⟨rfl, trivial⟩
abbrev cDelP : InC := { a := (.sl tEd), B := (.cons (.fn (.cons (.sl tEd) .nil) (.cons .bool .nil)) .nil), pre := fun xs x => ∀ r', r' ∈ xs → x.1.1 (r', ()), F := fun xs x => xs.filter (fun r' => !(x.1.2 (r', ())).1), ret := true }
def cDelP_0 (Λ1 : Int → Int → (List (List Edt)) → Prop) (s : (List (List Edt))) (del : (T.fn (.cons (.sl tEd) .nil) (.cons .bool .nil)).den) (y0 : (List (List Edt))) : Prop :=
  (∀ r', r' ∈ s → del.1 (r', ())) ∧ (if ((idxF (fun r' => (del.2 (r', ())).1) s) == (-1 : Int)) = true then s = y0 else (inI ((idxF (fun r' => (del.2 (r', ())).1) s) + (1 : Int)) ∧ Λ1 (idxF (fun r' => (del.2 (r', ())).1) s) ((idxF (fun r' => (del.2 (r', ())).1) s) + (1 : Int)) s))
def cDelP_1 (Λ1 : Int → Int → (List (List Edt)) → Prop) (s : (List (List Edt))) (del : (T.fn (.cons (.sl tEd) .nil) (.cons .bool .nil)).den) (y0 : (List (List Edt)))  (i_1 : Int) (j_1 : Int) (s_1 : (List (List Edt))) : Prop :=
  if (decide (j_1 < (List.length s_1 : Int))) = true then (idx j_1 (List.length s_1 : Int) ∧ (del.1 ((List.getD s_1 (Int.toNat j_1) ([] : List Edt)), ()) ∧ (if (!((del.2 ((List.getD s_1 (Int.toNat j_1) ([] : List Edt)), ())).1)) = true then (idx i_1 (List.length s_1 : Int) ∧ (inI (i_1 + (1 : Int)) ∧ (inI (j_1 + (1 : Int)) ∧ Λ1 (i_1 + (1 : Int)) (j_1 + (1 : Int)) (List.set s_1 (Int.toNat i_1) (List.getD s_1 (Int.toNat j_1) ([] : List Edt)))))) else (inI (j_1 + (1 : Int)) ∧ Λ1 i_1 (j_1 + (1 : Int)) s_1)))) else ((0 ≤ i_1 ∧ i_1 ≤ (List.length s_1 : Int) ∧ (List.length s_1 : Int) ≤ (List.length s_1 : Int) ∧ (List.length s_1 : Int) ≤ (List.length s_1 : Int)) ∧ (True ∧ ((0 ≤ (0 : Int) ∧ (0 : Int) ≤ i_1 ∧ i_1 ≤ (List.length (List.take (Int.toNat i_1) s_1 ++ List.replicate ((Int.toNat (List.length s_1 : Int)) - (Int.toNat i_1)) ([] : List Edt) ++ List.drop (Int.toNat (List.length s_1 : Int)) s_1) : Int) ∧ (List.length (List.take (Int.toNat i_1) s_1 ++ List.replicate ((Int.toNat (List.length s_1 : Int)) - (Int.toNat i_1)) ([] : List Edt) ++ List.drop (Int.toNat (List.length s_1 : Int)) s_1) : Int) ≤ (List.length (List.take (Int.toNat i_1) s_1 ++ List.replicate ((Int.toNat (List.length s_1 : Int)) - (Int.toNat i_1)) ([] : List Edt) ++ List.drop (Int.toNat (List.length s_1 : Int)) s_1) : Int)) ∧ List.take (Int.toNat i_1) (List.take (Int.toNat i_1) s_1 ++ List.replicate ((Int.toNat (List.length s_1 : Int)) - (Int.toNat i_1)) ([] : List Edt) ++ List.drop (Int.toNat (List.length s_1 : Int)) s_1) = y0)))
theorem cDelP_law (h : ∀ (s : (List (List Edt))) (del : (T.fn (.cons (.sl tEd) .nil) (.cons .bool .nil)).den), (T.sl cDelP.a).wf s → cDelP.B.wf (del, ()) → (∀ r', r' ∈ s → del.1 (r', ())) → ∀ (Λ1 : Int → Int → (List (List Edt)) → Prop), (∀ (i_1 : Int) (j_1 : Int) (s_1 : (List (List Edt))), cDelP_1 Λ1 s del (s.filter (fun r' => !(del.2 (r', ())).1)) i_1 j_1 s_1 → Λ1 i_1 j_1 s_1) → cDelP_0 Λ1 s del (s.filter (fun r' => !(del.2 (r', ())).1))) : InF Go.Proofs.Tryz.prog 101 cDelP := by
  refine lawI (X := { subs := [38, 41], frz := [], U := [], mul := [], nst := [], nls := [], itf := none, inp := [], arrs := [] }) (hX := xok0 _ trivial) (Γ := [(125, cIndexP)]) (Θ := Th) (n := 42) [([1, 1, 1, 0, 1, 0], ⟨[(0, true), (1, false), (5, true), (6, true)], [(0, false)]⟩)] ⟨cIndexP_ok, trivial⟩ (by kernel_rfl) th_ok mix_ok Go.Proofs.Tryz.func101 (by kernel_rfl) ?_
  intro xs x hs hw hp Λ hC
  have h0 := h xs x.1 hs hw hp (fun i_1 j_1 s_1 => Λ [1, 1, 1, 0, 1, 0] ([(0, .own 0 0), (1, .d false (.fn (.cons (.sl tEd) .nil) (.cons .bool .nil)) x.1), (5, .d true .int i_1), (6, .d true .int j_1)], [(0, .sl false (.sl tEd) s_1)])) (fun i_1 j_1 s_1 hb => hC [1, 1, 1, 0, 1, 0] ([(0, .own 0 0), (1, .d false (.fn (.cons (.sl tEd) .nil) (.cons .bool .nil)) x.1), (5, .d true .int i_1), (6, .d true .int j_1)], [(0, .sl false (.sl tEd) s_1)]) (Eq.mpr (by kernel_rfl) hb))
  exact Eq.mpr (by kernel_rfl) h0
theorem cDelP_ok : FunOK Go.Proofs.Tryz.prog 101 ∧ InF Go.Proofs.Tryz.prog 101 cDelP := by
  refine ⟨funB_ok (by kernel_rfl), cDelP_law ?_⟩
  intro s del hs hw hp Λ1 h1
  unfold cDelP_0
  have hl : s.length ≤ 140737488355328 := hs.1
  refine ⟨hp, ?_⟩
  generalize hpe : (fun r => (del.2 (r, ())).1) = p
  have hfe : (s.filter fun r => !(del.2 (r, ())).1) = s.filter fun r => !p r := by rw [← hpe]
  rw [hfe]
  rw [hfe] at h1
  rcases idxF_cases [] p s with ⟨e1, e2⟩ | ⟨k, hk, e1, e2, e3⟩
  · rw [e1, if_pos (by rfl), filter_none e2]
  · rw [e1, if_neg (by simp)]
    refine ⟨by unfold inI; omega, ?_⟩
    obtain ⟨d1, d2⟩ := DelI.start [] hk e2 e3
    have key : ∀ j, j ≤ s.length → ∀ s1, DelI p s s1 j → Λ1 ((keepK p s j).length : Int) (j : Int) s1 := by
      refine upto ?_ ?_
      · intro s1 hd
        apply h1; unfold cDelP_1
        rw [if_neg (by simp [hd.len])]
        have hkl := keepK_len p s s.length
        refine ⟨⟨by omega, by rw [hd.len]; omega, Int.le_refl _, Int.le_refl _⟩, trivial, ⟨Int.le_refl _, by omega, ?_, Int.le_refl _⟩, ?_⟩
        · simp [hd.len]; omega
        · simp only [Int.toNat_natCast]
          rw [List.take_append_of_le_length (by simp [hd.len]; omega), List.take_append_of_le_length (by simp [hd.len]; omega), List.take_take, Nat.min_self, hd.fst, keepK_all]
      · intro j hj ih s1 hd
        apply h1; unfold cDelP_1
        rw [if_pos (by simp [hd.len]; exact hj)]
        rw [Int.toNat_natCast, hd.get (d := []) hj]
        have hlt := hd.lt
        refine ⟨⟨by omega, by rw [hd.len]; omega⟩, hp _ (mem_getD hj), ?_⟩
        have hpv : (del.2 (s.getD j [], ())).1 = p (s.getD j []) := by rw [← hpe]
        rw [hpv]
        cases hv : p (s.getD j [])
        · rw [if_pos (by rfl)]
          obtain ⟨g1, g2⟩ := hd.keep (d := []) hj hv
          have := ih _ g1
          rw [g2] at this
          exact ⟨⟨by omega, by rw [hd.len]; omega⟩, by unfold inI; omega, by unfold inI; omega, by simpa using this⟩
        · rw [if_neg (by simp)]
          obtain ⟨g1, g2⟩ := hd.skip (d := []) hj hv
          have := ih _ g1
          rw [g2] at this
          exact ⟨by unfold inI; omega, by simpa using this⟩
    have := key (k + 1) (by omega) s d1
    rw [d2] at this
    simpa using this
abbrev cNaN : Con := { A := (.cons .int .nil), R := (.cons .bool .nil), pre := fun x => True, F := fun x => (false, ()) }
def cNaN_0  (x : Int) (y0 : Bool) : Prop :=
  (x != x) = y0 ∧ True
theorem cNaN_law (h : ∀ (x : Int), cNaN.A.wf (x, ()) → cNaN_0  x false) : ConOK Go.Proofs.Tryz.prog 127 cNaN := by
  refine lawL (Γ := []) (Θ := Th) (n := 6) [] trivial (by kernel_rfl) th_ok mix_ok Go.Proofs.Tryz.func127 (by kernel_rfl) ?_
  intro x hw hp Λ hC
  have h0 := h x.1 hw  
  exact Eq.mpr (by kernel_rfl) h0
theorem cNaN_ok : ConOK Go.Proofs.Tryz.prog 127 cNaN := by
  refine cNaN_law ?_
  intro x hw
  unfold cNaN_0
  exact ⟨by simp, trivial⟩
abbrev cCmpI : Con := { A := (.cons .int (.cons .int .nil)), R := (.cons .int .nil), pre := fun x => True, F := fun x => (cmpI x.1 x.2.1, ()) }
def cCmpI_0  (x : Int) (y_ : Int) (y0 : Int) : Prop :=
  True ∧ (True ∧ (if (decide (x < y_)) = true then ((-1 : Int) = y0 ∧ True) else (if (decide (x > y_)) = true then ((1 : Int) = y0 ∧ True) else ((0 : Int) = y0 ∧ True))))
theorem cCmpI_law (h : ∀ (x : Int) (y_ : Int), cCmpI.A.wf (x, y_, ()) → cCmpI_0  x y_ (cmpI x y_)) : ConOK Go.Proofs.Tryz.prog 107 cCmpI := by
  refine lawL (Γ := [(127, cNaN)]) (Θ := Th) (n := 20) [] ⟨cNaN_ok, trivial⟩ (by kernel_rfl) th_ok mix_ok Go.Proofs.Tryz.func107 (by kernel_rfl) ?_
  intro x hw hp Λ hC
  have h0 := h x.1 x.2.1 hw  
  exact Eq.mpr (by kernel_rfl) h0
theorem cCmpI_ok : ConOK Go.Proofs.Tryz.prog 107 cCmpI := by
  refine cCmpI_law ?_
  intro x y_ hw
  unfold cCmpI_0
  unfold cmpI
  refine ⟨trivial, trivial, ?_⟩
  simp only [decide_eq_true_eq]
  split
  · exact ⟨rfl, trivial⟩
  · split
    · exact ⟨rfl, trivial⟩
    · exact ⟨rfl, trivial⟩
abbrev cCmpL : Con := { A := (.cons (.sl .int) (.cons (.sl .int) .nil)), R := (.cons .int .nil), pre := fun x => True, F := fun x => (cmpL x.1 x.2.1, ()) }
def cCmpL_0 (Λ1 : Int → Prop) (s1 : (List Int)) (s2 : (List Int)) (y0 : Int) : Prop :=
  Λ1 (0 : Int)
def cCmpL_1 (Λ1 : Int → Prop) (s1 : (List Int)) (s2 : (List Int)) (y0 : Int)  (t11_1 : Int) : Prop :=
  if (decide (t11_1 < (List.length s1 : Int))) = true then (idx t11_1 (List.length s1 : Int) ∧ (if (decide (t11_1 ≥ (List.length s2 : Int))) = true then ((1 : Int) = y0 ∧ True) else (idx t11_1 (List.length s2 : Int) ∧ (True ∧ (if ((cmpI (List.getD s1 (Int.toNat t11_1) 0) (List.getD s2 (Int.toNat t11_1) 0)) != (0 : Int)) = true then ((cmpI (List.getD s1 (Int.toNat t11_1) 0) (List.getD s2 (Int.toNat t11_1) 0)) = y0 ∧ True) else (inI (t11_1 + (1 : Int)) ∧ Λ1 (t11_1 + (1 : Int)))))))) else (if (decide ((List.length s1 : Int) < (List.length s2 : Int))) = true then ((-1 : Int) = y0 ∧ True) else ((0 : Int) = y0 ∧ True))
theorem cCmpL_law (h : ∀ (s1 : (List Int)) (s2 : (List Int)), cCmpL.A.wf (s1, s2, ()) → ∀ (Λ1 : Int → Prop), (∀ (t11_1 : Int), cCmpL_1 Λ1 s1 s2 (cmpL s1 s2) t11_1 → Λ1 t11_1) → cCmpL_0 Λ1 s1 s2 (cmpL s1 s2)) : ConOK Go.Proofs.Tryz.prog 108 cCmpL := by
  refine lawL (Γ := [(107, cCmpI)]) (Θ := Th) (n := 36) [([1, 0, 1, 0], ⟨[(0, false), (1, false), (9, false), (10, true), (11, true)], []⟩)] ⟨cCmpI_ok, trivial⟩ (by kernel_rfl) th_ok mix_ok Go.Proofs.Tryz.func108 (by kernel_rfl) ?_
  intro x hw hp Λ hC
  have h0 := h x.1 x.2.1 hw (fun t11_1 => Λ [1, 0, 1, 0] ([(0, .d false (.sl .int) x.1), (1, .d false (.sl .int) x.2.1), (9, .d false (.sl .int) x.1), (10, .d true .int (List.length x.1 : Int)), (11, .d true .int t11_1)], [])) (fun t11_1 hb => hC [1, 0, 1, 0] ([(0, .d false (.sl .int) x.1), (1, .d false (.sl .int) x.2.1), (9, .d false (.sl .int) x.1), (10, .d true .int (List.length x.1 : Int)), (11, .d true .int t11_1)], []) (Eq.mpr (by kernel_rfl) hb))
  exact Eq.mpr (by kernel_rfl) h0
theorem cCmpL_ok : ConOK Go.Proofs.Tryz.prog 108 cCmpL := by
  refine cCmpL_law ?_
  intro s1 s2 hw Λ1 h1
  unfold cCmpL_0
  have hl : s1.length ≤ 140737488355328 := hw.1.1
  have key : ∀ i, i ≤ s1.length → i ≤ s2.length → s1.take i = s2.take i → Λ1 (i : Int) := by
    refine upto ?_ ?_
    · intro h2 ha
      apply h1; unfold cCmpL_1
      rw [if_neg (by simp), cmpL_end ha h2]
      by_cases hlt : s1.length < s2.length
      · rw [if_pos (by simpa using hlt), if_pos hlt]; exact ⟨rfl, trivial⟩
      · rw [if_neg (by simpa using hlt), if_neg hlt]; exact ⟨rfl, trivial⟩
    · intro i hi ih h2 ha
      apply h1; unfold cCmpL_1
      rw [if_pos (by simpa using hi), Int.toNat_natCast]
      refine ⟨idx_nat hi, ?_⟩
      by_cases hlt : i < s2.length
      · rw [if_neg (by simpa using hlt)]
        refine ⟨idx_nat hlt, trivial, ?_⟩
        by_cases hv : s1.getD i 0 = s2.getD i 0
        · rw [hv, if_neg (by simp [cmpI])]
          exact ⟨inI_succ hi hl, ih hlt (by rw [take_snoc 0 hi, take_snoc 0 hlt, ha, hv])⟩
        · have hc : cmpI (s1.getD i 0) (s2.getD i 0) ≠ 0 := by
            unfold cmpI
            split
            · omega
            · split
              · omega
              · omega
          rw [if_pos (by rw [bne_iff_ne]; exact hc), cmpL_at ha hi hlt hv]
          exact ⟨rfl, trivial⟩
      · rw [if_pos (by simp; omega), cmpL_gt ha hi (by omega) h2]
        exact ⟨rfl, trivial⟩
  exact key 0 (Nat.zero_le _) (Nat.zero_le _) rfl
abbrev cOrI : Con := { A := (.cons (.sl .int) .nil), R := (.cons .int .nil), pre := fun x => x.1.length ≤ 100, F := fun x => ((x.1.find? fun e' => !(e' == 0)).getD 0, ()) }
def cOrI_0 (Λ1 : Int → Prop) (vals : (List Int)) (y0 : Int) : Prop :=
  Λ1 (0 : Int)
def cOrI_1 (Λ1 : Int → Prop) (vals : (List Int)) (y0 : Int)  (t8_1 : Int) : Prop :=
  if (decide (t8_1 < (List.length vals : Int))) = true then (idx t8_1 (List.length vals : Int) ∧ (if ((List.getD vals (Int.toNat t8_1) 0) != (0 : Int)) = true then ((List.getD vals (Int.toNat t8_1) 0) = y0 ∧ True) else (inI (t8_1 + (1 : Int)) ∧ Λ1 (t8_1 + (1 : Int))))) else ((0 : Int) = y0 ∧ True)
theorem cOrI_law (h : ∀ (vals : (List Int)), cOrI.A.wf (vals, ()) → (vals.length ≤ 100) → ∀ (Λ1 : Int → Prop), (∀ (t8_1 : Int), cOrI_1 Λ1 vals ((vals.find? fun e' => !(e' == 0)).getD 0) t8_1 → Λ1 t8_1) → cOrI_0 Λ1 vals ((vals.find? fun e' => !(e' == 0)).getD 0)) : ConOK Go.Proofs.Tryz.prog 106 cOrI := by
  refine lawL (Γ := []) (Θ := Th) (n := 18) [([1, 1, 0, 1, 0], ⟨[(3, true), (6, false), (7, true), (8, true)], []⟩)] trivial (by kernel_rfl) th_ok mix_ok Go.Proofs.Tryz.func106 (by kernel_rfl) ?_
  intro x hw hp Λ hC
  have h0 := h x.1 hw hp (fun t8_1 => Λ [1, 1, 0, 1, 0] ([(3, .d true .int 0), (6, .d false (.sl .int) x.1), (7, .d true .int (List.length x.1 : Int)), (8, .d true .int t8_1)], [])) (fun t8_1 hb => hC [1, 1, 0, 1, 0] ([(3, .d true .int 0), (6, .d false (.sl .int) x.1), (7, .d true .int (List.length x.1 : Int)), (8, .d true .int t8_1)], []) (Eq.mpr (by kernel_rfl) hb))
  exact Eq.mpr (by kernel_rfl) h0
theorem cOrI_ok : ConOK Go.Proofs.Tryz.prog 106 cOrI := by
  refine cOrI_law ?_
  intro vals hw hp Λ1 h1
  unfold cOrI_0
  refine upto (n := vals.length) (Q := fun i => (vals.take i).any (fun e => !(e == 0)) = false → Λ1 (i : Int)) ?_ ?_ 0 (Nat.zero_le _) rfl
  · intro ha
    rw [List.take_length] at ha
    apply h1; unfold cOrI_1
    rw [if_neg (by simp)]
    refine ⟨?_, trivial⟩
    have : vals.find? (fun e => !(e == 0)) = none := by
      rw [List.find?_eq_none]
      intro x hx
      exact Bool.eq_false_iff.1 (List.any_eq_false.1 ha x hx |> fun h => Bool.eq_false_iff.2 h)
    rw [this]; rfl
  · intro i hi ih ha
    apply h1; unfold cOrI_1
    rw [if_pos (by simpa using hi), Int.toNat_natCast]
    refine ⟨idx_nat hi, ?_⟩
    cases hv : (!(List.getD vals i 0 == 0))
    · rw [if_neg (by simpa using hv)]
      exact ⟨by unfold inI; omega, ih (any_take_next (p := fun e => !(e == 0)) 0 hi ha hv)⟩
    · rw [if_pos (by simpa using hv)]
      refine ⟨?_, trivial⟩
      have : vals.find? (fun e => !(e == 0)) = some (vals.getD i 0) := by
        rw [List.find?_eq_some_iff_getElem]
        refine ⟨hv, i, hi, ?_, fun j hj => ?_⟩
        · rw [List.getD_eq_getElem?_getD, List.getElem?_eq_getElem hi]; rfl
        · have := List.any_eq_false.1 ha vals[j] (List.mem_take_iff_getElem.2 ⟨j, by omega, rfl⟩)
          simpa using this
      rw [this]; rfl
abbrev cSmall1 : Con := { A := (.cons (.sl tEd) (.cons (.ref (.sl tL)) (.cons (.ref (.sl tTs)) .nil))), R := (.cons .bool .nil), pre := fun x => errXT x.2.1 x.1 x.2.2.1 = 0, F := fun x => (!(goodX x.2.1 x.1 x.2.2.1), ()) }
def cSmall1_0  (part : (List Edt)) (c0 : (List Lin)) (c1 : (List Tst)) (y0 : Bool) : Prop :=
  errXT c0 part c1 = 0 ∧ ((!(goodX c0 part c1)) = y0 ∧ True)
theorem cSmall1_law (h : ∀ (part : (List Edt)) (c0 : (List Lin)) (c1 : (List Tst)), cSmall1.A.wf (part, c0, c1, ()) → (errXT c0 part c1 = 0) → cSmall1_0  part c0 c1 (!(goodX c0 part c1))) : ConOK Go.Proofs.Tryz.prog 103 cSmall1 := by
  refine lawL (Γ := [(91, cIsGood0)]) (Θ := Th) (n := 10) [] ⟨cIsGood0_ok, trivial⟩ (by kernel_rfl) th_ok mix_ok Go.Proofs.Tryz.func103 (by kernel_rfl) ?_
  intro x hw hp Λ hC
  have h0 := h x.1 x.2.1 x.2.2.1 hw hp  
  exact Eq.mpr (by kernel_rfl) h0
theorem cSmall1_ok : ConOK Go.Proofs.Tryz.prog 103 cSmall1 := by
  refine cSmall1_law ?_
  intro part c0 c1 hw hp
  unfold cSmall1_0
  exact ⟨hp, rfl, trivial⟩
abbrev cSmall2 : Con := { A := (.cons (.sl tEd) (.cons (.sl tEd) .nil)), R := (.cons .int .nil), pre := fun x => x.1.length ≤ 1000 ∧ x.2.1.length ≤ 1000, F := fun x => (cmpPart x.1 x.2.1, ()) }
def cSmall2_0  (a : (List Edt)) (b : (List Edt)) (y0 : Int) : Prop :=
  True ∧ (a.length ≤ 1000000 ∧ (b.length ≤ 1000000 ∧ (True ∧ ([(cmpI (List.length a : Int) (List.length b : Int)), (cmpL (a.map (·.1)) (b.map (·.1)))].length ≤ 100 ∧ ((([(cmpI (List.length a : Int) (List.length b : Int)), (cmpL (a.map (·.1)) (b.map (·.1)))].find? fun e' => !(e' == 0)).getD 0) = y0 ∧ True)))))
theorem cSmall2_law (h : ∀ (a : (List Edt)) (b : (List Edt)), cSmall2.A.wf (a, b, ()) → (a.length ≤ 1000 ∧ b.length ≤ 1000) → cSmall2_0  a b (cmpPart a b)) : ConOK Go.Proofs.Tryz.prog 105 cSmall2 := by
  refine lawL (Γ := [(107, cCmpI), (108, cCmpL), (106, cOrI), (84, cPlaces)]) (Θ := Th) (n := 17) [] ⟨cCmpI_ok, cCmpL_ok, cOrI_ok, cPlaces_ok, trivial⟩ (by kernel_rfl) th_ok mix_ok Go.Proofs.Tryz.func105 (by kernel_rfl) ?_
  intro x hw hp Λ hC
  have h0 := h x.1 x.2.1 hw hp  
  exact Eq.mpr (by kernel_rfl) h0
theorem cSmall2_ok : ConOK Go.Proofs.Tryz.prog 105 cSmall2 := by
  refine cSmall2_law ?_
  intro a b hw hp
  unfold cSmall2_0
  refine ⟨trivial, by omega, by omega, trivial, by simp, ?_, trivial⟩
  rw [or_two]; rfl
abbrev cMinP : Con := { A := (.cons (.sl (.sl tEd)) (.cons (.fn (.cons (.sl tEd) (.cons (.sl tEd) .nil)) (.cons .int .nil)) .nil)), R := (.cons (.sl tEd) .nil), pre := fun x => x.1 ≠ [] ∧ ∀ a', a' ∈ x.1 → ∀ b', b' ∈ x.1 → x.2.1.1 (a', b', ()), F := fun x => (minF (fun m' b' => if (x.2.1.2 (b', m', ())).1 < 0 then b' else m') x.1, ()), al := true }
def cMinP_0 (Λ1 : Prop) (Λ2 : (List Edt) → Int → Prop) (x : (List (List Edt))) (cmp : (T.fn (.cons (.sl tEd) (.cons (.sl tEd) .nil)) (.cons .int .nil)).den) (y0 : (List Edt)) : Prop :=
  if (decide ((List.length x : Int) < (1 : Int))) = true then False else Λ1
def cMinP_1 (Λ1 : Prop) (Λ2 : (List Edt) → Int → Prop) (x : (List (List Edt))) (cmp : (T.fn (.cons (.sl tEd) (.cons (.sl tEd) .nil)) (.cons .int .nil)).den) (y0 : (List Edt))   : Prop :=
  idx (0 : Int) (List.length x : Int) ∧ Λ2 (List.getD x (Int.toNat (0 : Int)) ([] : List Edt)) (1 : Int)
def cMinP_2 (Λ1 : Prop) (Λ2 : (List Edt) → Int → Prop) (x : (List (List Edt))) (cmp : (T.fn (.cons (.sl tEd) (.cons (.sl tEd) .nil)) (.cons .int .nil)).den) (y0 : (List Edt))  (m_2 : (List Edt)) (i_2 : Int) : Prop :=
  if (decide (i_2 < (List.length x : Int))) = true then (idx i_2 (List.length x : Int) ∧ (cmp.1 ((List.getD x (Int.toNat i_2) ([] : List Edt)), m_2, ()) ∧ (if (decide (((cmp.2 ((List.getD x (Int.toNat i_2) ([] : List Edt)), m_2, ())).1) < (0 : Int))) = true then (idx i_2 (List.length x : Int) ∧ (inI (i_2 + (1 : Int)) ∧ Λ2 (List.getD x (Int.toNat i_2) ([] : List Edt)) (i_2 + (1 : Int)))) else (inI (i_2 + (1 : Int)) ∧ Λ2 m_2 (i_2 + (1 : Int)))))) else (m_2 = y0 ∧ True)
theorem cMinP_law (h : ∀ (x : (List (List Edt))) (cmp : (T.fn (.cons (.sl tEd) (.cons (.sl tEd) .nil)) (.cons .int .nil)).den), cMinP.A.wf (x, cmp, ()) → (x ≠ [] ∧ ∀ a', a' ∈ x → ∀ b', b' ∈ x → cmp.1 (a', b', ())) → ∀ (Λ1 : Prop) (Λ2 : (List Edt) → Int → Prop), (cMinP_1 Λ1 Λ2 x cmp (minF (fun m' b' => if (cmp.2 (b', m', ())).1 < 0 then b' else m') x) → Λ1) → (∀ (m_2 : (List Edt)) (i_2 : Int), cMinP_2 Λ1 Λ2 x cmp (minF (fun m' b' => if (cmp.2 (b', m', ())).1 < 0 then b' else m') x) m_2 i_2 → Λ2 m_2 i_2) → cMinP_0 Λ1 Λ2 x cmp (minF (fun m' b' => if (cmp.2 (b', m', ())).1 < 0 then b' else m') x)) : ConOK Go.Proofs.Tryz.prog 104 cMinP := by
  refine lawL (Γ := []) (Θ := Th) (n := 33) [([1, 2], ⟨[(0, false), (1, false)], []⟩), ([1, 1, 1, 0, 1, 0], ⟨[(0, false), (1, false), (5, false), (6, true)], []⟩)] trivial (by kernel_rfl) th_ok mix_ok Go.Proofs.Tryz.func104 (by kernel_rfl) ?_
  intro x hw hp Λ hC
  have h0 := h x.1 x.2.1 hw hp (Λ [1, 2] ([(0, .d false (.sl (.sl tEd)) x.1), (1, .d false (.fn (.cons (.sl tEd) (.cons (.sl tEd) .nil)) (.cons .int .nil)) x.2.1)], [])) (fun m_2 i_2 => Λ [1, 1, 1, 0, 1, 0] ([(0, .d false (.sl (.sl tEd)) x.1), (1, .d false (.fn (.cons (.sl tEd) (.cons (.sl tEd) .nil)) (.cons .int .nil)) x.2.1), (5, .d false (.sl tEd) m_2), (6, .d true .int i_2)], [])) (fun  hb => hC [1, 2] ([(0, .d false (.sl (.sl tEd)) x.1), (1, .d false (.fn (.cons (.sl tEd) (.cons (.sl tEd) .nil)) (.cons .int .nil)) x.2.1)], []) (Eq.mpr (by kernel_rfl) hb)) (fun m_2 i_2 hb => hC [1, 1, 1, 0, 1, 0] ([(0, .d false (.sl (.sl tEd)) x.1), (1, .d false (.fn (.cons (.sl tEd) (.cons (.sl tEd) .nil)) (.cons .int .nil)) x.2.1), (5, .d false (.sl tEd) m_2), (6, .d true .int i_2)], []) (Eq.mpr (by kernel_rfl) hb))
  exact Eq.mpr (by kernel_rfl) h0
theorem cMinP_ok : ConOK Go.Proofs.Tryz.prog 104 cMinP := by
  refine cMinP_law ?_
  intro x cmp hw hp Λ1 Λ2 h1 h2
  unfold cMinP_0
  obtain ⟨p1, p2⟩ := hp
  have hpos : 0 < x.length := List.length_pos_iff.2 p1
  have hxl : x.length ≤ 140737488355328 := hw.1.1
  rw [if_neg (by simp; omega)]
  apply h1; unfold cMinP_1
  refine ⟨by unfold idx; omega, ?_⟩
  have mem : ∀ i, i < x.length → minU (fun m' b' => if (cmp.2 (b', m', ())).1 < 0 then b' else m') x i ∈ x := fun i hi => minU_mem (fun m b => by
    by_cases hc : (cmp.2 (b, m, ())).1 < 0
    · exact .inr (if_pos hc)
    · exact .inl (if_neg hc)) i hi
  have key : ∀ i, i + 1 ≤ x.length → Λ2 (minU (fun m' b' => if (cmp.2 (b', m', ())).1 < 0 then b' else m') x i) ((i + 1 : Nat) : Int) := by
    intro i hi
    obtain ⟨d, hd⟩ : ∃ d, i + 1 + d = x.length := ⟨x.length - (i + 1), by omega⟩
    induction d generalizing i with
    | zero =>
      apply h2; unfold cMinP_2
      rw [if_neg (by simp; omega)]
      refine ⟨?_, trivial⟩
      unfold minF
      rw [show x.length - 1 = i by omega]
    | succ d ih =>
      have := ih (i + 1) (by omega) (by omega)
      apply h2; unfold cMinP_2
      rw [if_pos (by simp; omega), Int.toNat_natCast]
      refine ⟨idx_nat (by omega), p2 _ (mem_getD (d := []) (show i + 1 < x.length by omega)) _ (mem i (by omega)), ?_⟩
      rw [minU] at this
      split
      · rename_i hc
        rw [if_pos (by simpa using hc)] at this
        exact ⟨idx_nat (by omega), by unfold inI; omega, this⟩
      · rename_i hc
        rw [if_neg (by simpa using hc)] at this
        exact ⟨by unfold inI; omega, this⟩
  exact key 0 (by omega)
end Go.Tk
/- patch.smallest. -/
set_option linter.unusedSimpArgs false
set_option linter.unusedVariables false
set_option linter.unnecessarySimpa false
set_option maxRecDepth 10000
set_option maxHeartbeats 400000
namespace Go.Tk
open Go Go.RowKit
theorem arr18 (x : Array Value) (h : x.size = 18) : ∃ x0 x1 x2 x3 x4 x5 x6 x7 x8 x9 x10 x11 x12 x13 x14 x15 x16 x17 : Value, x = #[x0, x1, x2, x3, x4, x5, x6, x7, x8, x9, x10, x11, x12, x13, x14, x15, x16, x17] := by
  obtain ⟨l⟩ := x
  match l, h with
  | x0 :: x1 :: x2 :: x3 :: x4 :: x5 :: x6 :: x7 :: x8 :: x9 :: x10 :: x11 :: x12 :: x13 :: x14 :: x15 :: x16 :: x17 :: [], _ => exact ⟨_, _, _, _, _, _, _, _, _, _, _, _, _, _, _, _, _, _, rfl⟩
abbrev tTs4 : T := .sl tTs
def cmpFn : (T.fn (.cons (.sl tEd) (.cons (.sl tEd) .nil)) (.cons .int .nil)).den := (fun xx => xx.1.length ≤ 1000 ∧ xx.2.1.length ≤ 1000, fun xx => (cmpPart xx.1 xx.2.1, ()))
theorem cmpFn_rep (w : World) (S : Nat → Prop) : (reps Go.Proofs.Tryz.prog (.fn (.cons (.sl tEd) (.cons (.sl tEd) .nil)) (.cons .int .nil))).c w S cmpFn [.func (.func 105) #[] #[]] := by
  have hk : Cok Go.Proofs.Tryz.prog ⟨[(105, cSmall2)], Th, 18, noX⟩ := cok_of ⟨cSmall2_ok, trivial⟩ (by kernel_rfl) th_ok
  refine .inr ⟨105, [], rfl, hk.fn _ _ rfl, ?_⟩
  exact fnOK_of hk (con := cSmall2) rfl rfl (a := .cons (.sl tEd) (.cons (.sl tEd) .nil)) (r := .cons .int .nil) (ct := .nil) rfl rfl () [] (S0 := S) ⟨rfl, rfl⟩ (.inl rfl)
theorem min_call {w : World} {S : Nat → Prop} {l : List (List Edt)} {v : Value} (h : (reps Go.Proofs.Tryz.prog (.sl (.sl tEd))).c w S l [v]) (hne : l ≠ []) (hl : ∀ a ∈ l, a.length ≤ 1000) :
    Calls Go.Proofs.Tryz.prog 104 #[v, .func (.func 105) #[] #[]] w fun e w' => ∃ v', e = .returned v' ∧ (reps Go.Proofs.Tryz.prog tX).c w' (fun b => w.heap.size ≤ b ∨ S b) (minL l) [v'] ∧ Below w.heap.size w w' := by
  refine ((cMinP_ok.1 rfl) w S (l, cmpFn, ()) [v, _] ⟨v, [_], [], [], rfl, rfl, ⟨rfl, [v], rfl, h⟩, _, [], [], [], rfl, rfl, ⟨rfl, [_], rfl, cmpFn_rep w S⟩, rfl, rfl⟩ ⟨hne, fun a ha b hb => ⟨hl a ha, hl b hb⟩⟩).mono ?_
  rintro e w' ⟨rs, bs, rfl, ⟨u, us, b1, b2, rfl, eb, ⟨hb1, cs, rfl, hc⟩, rfl, hb2⟩, _, _, hb⟩
  obtain ⟨v', rfl, hc2⟩ := hc
  refine ⟨v', rfl, ?_, hb⟩
  refine c_mono tX ⟨v', rfl, hc2⟩ fun b _ hb => ?_
  rcases hb.1 with h | h
  · exact .inl h
  · exact .inr h.2
theorem slB_post {w W : World} {S : Nat → Prop} {xs : List Edt} {b : Bool} {v : Value} (h : (reps Go.Proofs.Tryz.prog tX).c W (fun b => w.heap.size ≤ b ∨ S b) xs [v]) (hb : Below w.heap.size w W) :
    ∃ rs, Ending.returned (.tuple #[v, .bool b]) = .returned (mkRes rs) ∧ ∃ bs, (reps Go.Proofs.Tryz.prog (.cons (.sl tEd) (.cons .bool .nil))).v W (fun b => (w.heap.size ≤ b ∨ S b) ∧ ¬ b ∈ bs) (xs, b, ()) rs bs ∧ bs.Nodup ∧ (∀ b ∈ bs, w.heap.size ≤ b) ∧ Below w.heap.size w W :=
  ⟨[v, .bool b], rfl, [], ⟨v, [.bool b], [], [], rfl, rfl, ⟨rfl, [v], rfl, c_mono tX h fun _ _ h => ⟨h, by simp⟩⟩, .bool b, [], [], [], rfl, rfl, ⟨rfl, [.bool b], rfl, rfl⟩, rfl, rfl⟩, by simp, by simp, hb⟩
theorem nilX_rep {W : World} {S : Nat → Prop} : (reps Go.Proofs.Tryz.prog tX).c W S [] [.slice none 0 0] := ⟨_, rfl, none, 0, rfl, Nat.le_refl _, Nat.zero_le _, .inl rfl⟩
abbrev cSmallest0 : Con := { A := (.cons (.sl tL) (.cons (.sl tEd) (.cons (.sl tTs) .nil))), R := (.cons (.sl tEd) (.cons .bool .nil)), pre := fun x => errXT x.1 x.2.1 x.2.2.1 = 0, F := fun x => (smallX x.1 x.2.1 x.2.2.1, smallB x.1 x.2.1 x.2.2.1, ()), al := true }
theorem cSmallest0_ok : ConOK Go.Proofs.Tryz.prog 64 cSmallest0 := by
  refine ConOK.f ?_ rfl
  rintro w S ⟨p, x, l, ⟨⟩⟩ vs hv hp
  change List Lin at p
  change List Edt at x
  change List Tst at l
  have hp : errXT p x l = 0 := hp
  obtain ⟨g1, g2, g3, g4⟩ := errXT_ok hp
  have h4 := (validX_ok g2).1
  have hv0 := hv
  obtain ⟨pv, vs1, b1, b2, rfl, e2, h1, h2⟩ := hv
  obtain ⟨xv, vs2, b3, b4, rfl, e3, h3, h4'⟩ := h2
  obtain ⟨lv, vs3, b5, b6, rfl, e4, h5, h6⟩ := h4'
  obtain ⟨rfl, _⟩ : vs3 = [] ∧ _ := h6
  show Calls _ _ #[pv, xv, lv] w _
  have hk : Cok Go.Proofs.Tryz.prog ⟨[(102, cParts), (103, cSmall1), (105, cSmall2)], Th, 18, { subs := [], frz := [3, 5], U := [], mul := [], nst := [], nls := [], itf := none, inp := [(101, cDelP)], arrs := [] }⟩ := cok_ofX ⟨cParts_ok, cSmall1_ok, cSmall2_ok, trivial⟩ (by kernel_rfl) th_ok (xok0 _ ⟨cDelP_ok, trivial⟩)
  have hR := rel_start (n := 18) (A := .cons tP (.cons tX (.cons tTs4 .nil))) (x := (p, x, l, ())) rfl hv0
  refine calls_of_wp Go.Proofs.Tryz.func64 rfl ?_
  rw [Go.Proofs.Tryz.ntmps64]
  refine (wpIn_wide (n := 0)).1 ?_
  show Code.wpIn (Fw none) 0 _ _ _ _ _
  refine eng_to hk mix_ok rfl rfl (ly := [([1, 1, 0, 2], ⟨[(8, true), (15, true)], [(10, false)]⟩)]) hR (by kernel_rfl) (fun _ _ => rfl) (fun Λ hΛ => ?_)
  have h0 : x.length ≤ 4 ∧ ((∀ r', r' ∈ (partsL x) → (fun (xx : ((List Edt) × Unit)) => errXT p xx.1 l = 0, fun (xx : ((List Edt) × Unit)) => (!(goodX p xx.1 l), ())).1 (r', ())) ∧ Λ [1, 1, 0, 2] ([(8, .own 10 0), (15, .d true .bool ((List.length ((partsL x).filter (fun r' => !((fun (xx : ((List Edt) × Unit)) => errXT p xx.1 l = 0, fun (xx : ((List Edt) × Unit)) => (!(goodX p xx.1 l), ())).2 (r', ())).1)) : Int) == (0 : Int)))], [(10, .sl false (.sl tEd) ((partsL x).filter (fun r' => !((fun (xx : ((List Edt) × Unit)) => errXT p xx.1 l = 0, fun (xx : ((List Edt) × Unit)) => (!(goodX p xx.1 l), ())).2 (r', ())).1)))])) := by
    refine ⟨h4, fun a ha => errXT_sub hp (partsL_iff.1 ha), ?_⟩
    have e : ((partsL x).filter (fun r' => !((fun (xx : ((List Edt) × Unit)) => errXT p xx.1 l = 0, fun (xx : ((List Edt) × Unit)) => (!(goodX p xx.1 l), ())).2 (r', ())).1)) = goodL p x l := by
      unfold goodL
      congr 1
      funext r
      simp
    rw [e]
    subst hΛ
    intro a W hR
    have hB := hR.low
    have hb0 := rel_bool hR (d := 15) rfl
    obtain ⟨tm, df⟩ := a
    obtain rfl : df = [] := hR.nd.2 rfl
    obtain ⟨y0, y1, y2, y3, y4, y5, y6, y7, y8, y9, y10, y11, y12, y13, y14, y15, y16, y17, rfl⟩ := arr18 tm hR.sz
    show Code.wpIn (Fw none) 0 _ _ _ _ _
    by_cases h : goodL p x l = []
    · refine wpIn_cond_true (by rw [hb0, h]; rfl) (wpIn_seq (ql_region rfl ?_))
      simp [ql, go_sem, Exit.then]
      refine wpIn_ret ?_
      refine ⟨rfl, .tuple #[.slice none 0 0, .bool false], ?_, ?_⟩
      · simp [results, Go.Proofs.Tryz.results64, go_sem]
      · have e1 : smallX p x l = [] := by unfold smallX; rw [if_pos h]
        have e2 : smallB p x l = false := by unfold smallB; rw [decide_eq_true h]; rfl
        dsimp only
        rw [e1, e2]
        exact slB_post nilX_rep hB
    · have hpos := List.length_pos_iff.2 h
      refine wpIn_cond_false (by rw [hb0]; simp; omega) (wpIn_skip ?_)
      simp only [Exit.then]
      obtain ⟨G, hm, he⟩ := hR.ex
      have h8 : mkLoc [(10, L.sl false (.sl tEd) (goodL p x l))] 10 = some (0, .sl false (.sl tEd) (goodL p x l)) := rfl
      have hl8 := hm.loc 10 _ _ h8
      have hy8 : y8 = (G 10).hdr := by
        obtain ⟨g', l', q1, _, q2⟩ := he 8
        have q1 : mkLoc [(10, L.sl false (.sl tEd) (goodL p x l))] 10 = some (g', l') := q1
        rw [h8] at q1
        cases q1
        exact q2 rfl
      have hrep : (reps Go.Proofs.Tryz.prog (.sl (.sl tEd))).c W (fun b => w.heap.size ≤ b ∨ S b) (goodL p x l) [y8] := by
        rw [hy8]
        refine ⟨_, rfl, repSl_of_own hl8 (fun b o hb => .inl ?_) (fun z cs h => c_mono (.sl tEd) h fun b _ hb => hb.1.2)⟩
        rcases hl8 with ⟨_, _, h⟩ | ⟨b', off, cap, cur, e, q1, q2, q3, _⟩
        · rw [h] at hb; cases hb
        · rw [q1] at hb; cases hb; exact q3
      refine wpIn_seq (ql_region rfl ?_)
      simp [ql, go_sem, Exit.then]
      refine (min_call hrep h fun a ha => Nat.le_trans (goodL_iff.1 ha).1.length_le (by omega)).mono ?_
      rintro e W2 ⟨v', rfl, hrep2, hb2⟩
      have hs := hB.size
      have hrep3 : (reps Go.Proofs.Tryz.prog tX).c W2 (fun b => w.heap.size ≤ b ∨ S b) (minL (goodL p x l)) [v'] := c_mono tX hrep2 fun b _ h => by
        rcases h with h | h
        · exact .inl (Nat.le_trans hs h)
        · exact h
      obtain ⟨ao, n, c, rfl⟩ : ∃ ao n c, v' = .slice ao n c := by
        obtain ⟨u, e, ao, c, e2, _⟩ := hrep2
        cases e
        exact ⟨_, _, _, e2⟩
      simp [ql, go_sem, Exit.then]
      refine wpIn_ret ?_
      refine ⟨rfl, .tuple #[.slice ao n c, .bool true], ?_, ?_⟩
      · simp [results, Go.Proofs.Tryz.results64, go_sem]
      · have e1 : smallX p x l = minL (goodL p x l) := by unfold smallX; rw [if_neg h]
        have e2 : smallB p x l = true := by unfold smallB; rw [decide_eq_false h]; rfl
        dsimp only
        rw [e1, e2]
        exact slB_post hrep3 (hB.trans (hb2.mono hs))
  exact Eq.mpr (by kernel_rfl) h0
end Go.Tk
