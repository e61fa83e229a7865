import Derived.Test.YtolbkaphghjeeaaC2
import Derived.Test.YtolbkaphghjeeaaP2t
set_option linter.unusedSimpArgs false
set_option linter.unusedVariables false
namespace Go.Tk
open Go Go.RowKit

abbrev cIsTest : Con := { A := (.cons tTs .nil), R := (.cons .bool .nil), pre := fun x => True, F := fun x => (isTst x.1, ()) }
def cIsTest_0  (t : Tst) (y0 : Bool) : Prop :=
  True ∧ (if (validS t.1) = true then (True ∧ (True ∧ (if (bif true then (isReg t.2.1) else false) = true then (True ∧ (True ∧ ((bif true then (isVal t.2.2.1) else false) = y0 ∧ True))) else (false = false ∧ (false = y0 ∧ True))))) else (false = false ∧ (false = false ∧ (false = y0 ∧ True))))
theorem cIsTest_law (h : ∀ (t : Tst), cIsTest.A.wf (t, ()) → cIsTest_0  t (isTst t)) : ConOK Go.Proofs.Try.prog 82 cIsTest := by
  refine lawL (Γ := [(90, cIsReg2), (89, cIsState), (110, cIsVal2)]) (Θ := Th) (n := 16) [] ⟨cIsReg2_ok, cIsState_ok, cIsVal2_ok, trivial⟩ (by kernel_rfl) th_ok mix_ok Go.Proofs.Try.func82 (by kernel_rfl) ?_
  intro x hw hp Λ hC
  have h0 := h x.1 hw  
  exact Eq.mpr (by kernel_rfl) h0
theorem cIsTest_ok : ConOK Go.Proofs.Try.prog 82 cIsTest := by
  refine cIsTest_law ?_
  intro t hw
  unfold cIsTest_0
  refine ⟨trivial, ?_⟩
  unfold isTst
  cases validS t.1
  · simp
  · cases isReg t.2.1 <;> simp
abbrev cNotTest : Con := { A := (.cons tTs .nil), R := (.cons .bool .nil), pre := fun x => True, F := fun x => (!(isTst x.1), ()) }
def cNotTest_0  (t : Tst) (y0 : Bool) : Prop :=
  True ∧ ((!(isTst t)) = y0 ∧ True)
theorem cNotTest_law (h : ∀ (t : Tst), cNotTest.A.wf (t, ()) → cNotTest_0  t (!(isTst t))) : ConOK Go.Proofs.Try.prog 81 cNotTest := by
  refine lawL (Γ := [(82, cIsTest)]) (Θ := Th) (n := 6) [] ⟨cIsTest_ok, trivial⟩ (by kernel_rfl) th_ok mix_ok Go.Proofs.Try.func81 (by kernel_rfl) ?_
  intro x hw hp Λ hC
  have h0 := h x.1 hw  
  exact Eq.mpr (by kernel_rfl) h0
theorem cNotTest_ok : ConOK Go.Proofs.Try.prog 81 cNotTest := by
  refine cNotTest_law ?_
  intro t hw
  unfold cNotTest_0
  exact ⟨trivial, rfl, trivial⟩
abbrev cIndexT : Con := { A := (.cons (.sl tTs) (.cons (.fn (.cons tTs .nil) (.cons .bool .nil)) .nil)), R := (.cons .int .nil), pre := fun x => ∀ r', tTs.wf r' → x.2.1.1 (r', ()), F := fun x => (idxF (fun r' => (x.2.1.2 (r', ())).1) x.1, ()) }
def cIndexT_0 (Λ1 : Int → Prop) (s : (List Tst)) (f : (T.fn (.cons tTs .nil) (.cons .bool .nil)).den) (y0 : Int) : Prop :=
  Λ1 (0 : Int)
def cIndexT_1 (Λ1 : Int → Prop) (s : (List Tst)) (f : (T.fn (.cons tTs .nil) (.cons .bool .nil)).den) (y0 : Int)  (t8_1 : Int) : Prop :=
  if (decide (t8_1 < (List.length s : Int))) = true then (idx t8_1 (List.length s : Int) ∧ (f.1 ((List.getD s (Int.toNat t8_1) tTs.dflt), ()) ∧ (if ((f.2 ((List.getD s (Int.toNat t8_1) tTs.dflt), ())).1) = true then (t8_1 = y0 ∧ True) else (inI (t8_1 + (1 : Int)) ∧ Λ1 (t8_1 + (1 : Int)))))) else ((-1 : Int) = y0 ∧ True)
theorem cIndexT_law (h : ∀ (s : (List Tst)) (f : (T.fn (.cons tTs .nil) (.cons .bool .nil)).den), cIndexT.A.wf (s, f, ()) → (∀ r', tTs.wf r' → f.1 (r', ())) → ∀ (Λ1 : Int → Prop), (∀ (t8_1 : Int), cIndexT_1 Λ1 s f (idxF (fun r' => (f.2 (r', ())).1) s) t8_1 → Λ1 t8_1) → cIndexT_0 Λ1 s f (idxF (fun r' => (f.2 (r', ())).1) s)) : ConOK Go.Proofs.Try.prog 115 cIndexT := by
  refine lawL (Γ := []) (Θ := Th) (n := 19) [([1, 0, 1, 0], ⟨[(0, false), (1, false), (7, true), (8, true)], []⟩)] trivial (by kernel_rfl) th_ok mix_ok Go.Proofs.Try.func115 (by kernel_rfl) ?_
  intro x hw hp Λ hC
  have h0 := h x.1 x.2.1 hw hp (fun t8_1 => Λ [1, 0, 1, 0] ([(0, .d false (.sl tTs) x.1), (1, .d false (.fn (.cons tTs .nil) (.cons .bool .nil)) x.2.1), (7, .d true .int (List.length x.1 : Int)), (8, .d true .int t8_1)], [])) (fun t8_1 hb => hC [1, 0, 1, 0] ([(0, .d false (.sl tTs) x.1), (1, .d false (.fn (.cons tTs .nil) (.cons .bool .nil)) x.2.1), (7, .d true .int (List.length x.1 : Int)), (8, .d true .int t8_1)], []) (Eq.mpr (by kernel_rfl) hb))
  exact Eq.mpr (by kernel_rfl) h0
theorem cIndexT_ok : ConOK Go.Proofs.Try.prog 115 cIndexT := by
  refine cIndexT_law ?_
  intro s f hw hp Λ1 h1
  unfold cIndexT_0
  refine upto (n := s.length) (Q := fun i => (s.take i).any (fun r => (f.2 (r, ())).1) = false → Λ1 i) ?_ ?_ 0 (Nat.zero_le _) rfl
  · intro ha
    rw [List.take_length] at ha
    apply h1; unfold cIndexT_1; rw [if_neg (by simp), idxF_none ha]
    exact ⟨rfl, trivial⟩
  · intro i hi ih ha
    apply h1; unfold cIndexT_1; rw [if_pos (by simpa using hi), Int.toNat_natCast]
    refine ⟨idx_nat hi, hp _ (hw.1.2 _ (mem_getD hi)), ?_⟩
    cases hv : (f.2 (List.getD s i tTs.dflt, ())).1
    · rw [if_neg (by simp)]
      exact ⟨inI_succ hi hw.1.1, ih (any_take_next (p := fun r => (f.2 (r, ())).1) tTs.dflt hi ha hv)⟩
    · rw [if_pos (by rfl), idxF_at (p := fun r => (f.2 (r, ())).1) tTs.dflt hi ha hv]
      exact ⟨rfl, trivial⟩
abbrev cContT : Con := { A := (.cons (.sl tTs) (.cons (.fn (.cons tTs .nil) (.cons .bool .nil)) .nil)), R := (.cons .bool .nil), pre := fun x => ∀ r', tTs.wf r' → x.2.1.1 (r', ()), F := fun x => (x.1.any (fun r' => (x.2.1.2 (r', ())).1), ()) }
def cContT_0  (s : (List Tst)) (f : (T.fn (.cons tTs .nil) (.cons .bool .nil)).den) (y0 : Bool) : Prop :=
  (∀ r', tTs.wf r' → f.1 (r', ())) ∧ ((decide ((idxF (fun r' => (f.2 (r', ())).1) s) ≥ (0 : Int))) = y0 ∧ True)
theorem cContT_law (h : ∀ (s : (List Tst)) (f : (T.fn (.cons tTs .nil) (.cons .bool .nil)).den), cContT.A.wf (s, f, ()) → (∀ r', tTs.wf r' → f.1 (r', ())) → cContT_0  s f (s.any (fun r' => (f.2 (r', ())).1))) : ConOK Go.Proofs.Try.prog 80 cContT := by
  refine lawL (Γ := [(115, cIndexT)]) (Θ := Th) (n := 9) [] ⟨cIndexT_ok, trivial⟩ (by kernel_rfl) th_ok mix_ok Go.Proofs.Try.func80 (by kernel_rfl) ?_
  intro x hw hp Λ hC
  have h0 := h x.1 x.2.1 hw hp  
  exact Eq.mpr (by kernel_rfl) h0
theorem cContT_ok : ConOK Go.Proofs.Try.prog 80 cContT := by
  refine cContT_law ?_
  intro s f hw hp
  unfold cContT_0
  exact ⟨hp, idxF_any _ _, trivial⟩
abbrev cValT : Con := { A := (.cons (.sl tTs) .nil), R := (.cons .int .nil), pre := fun x => True, F := fun x => (validT x.1, ()) }
def cValT_0  (l : (List Tst)) (y0 : Int) : Prop :=
  if (decide ((List.length l : Int) > (8 : Int))) = true then ((3 : Int) = y0 ∧ True) else ((∀ r', tTs.wf r' → (fun (xx : (Tst × Unit)) => True, fun (xx : (Tst × Unit)) => (!(isTst xx.1), ())).1 (r', ())) ∧ (if (l.any (fun r' => ((fun (xx : (Tst × Unit)) => True, fun (xx : (Tst × Unit)) => (!(isTst xx.1), ())).2 (r', ())).1)) = true then ((1 : Int) = y0 ∧ True) else ((0 : Int) = y0 ∧ True)))
theorem cValT_law (h : ∀ (l : (List Tst)), cValT.A.wf (l, ()) → cValT_0  l (validT l)) : ConOK Go.Proofs.Try.prog 37 cValT := by
  refine lawL (Γ := [(80, cContT), (81, cNotTest)]) (Θ := Th) (n := 8) [] ⟨cContT_ok, cNotTest_ok, trivial⟩ (by kernel_rfl) th_ok mix_ok Go.Proofs.Try.func37 (by kernel_rfl) ?_
  intro x hw hp Λ hC
  have h0 := h x.1 hw  
  exact Eq.mpr (by kernel_rfl) h0
theorem cValT_ok : ConOK Go.Proofs.Try.prog 37 cValT := by
  refine cValT_law ?_
  intro l hw
  unfold cValT_0
  unfold validT
  simp only [decide_eq_true_eq]
  by_cases h : l.length > 8
  · rw [if_pos (by omega), if_pos h]; exact ⟨rfl, trivial⟩
  · rw [if_neg (by omega), if_neg h]
    refine ⟨fun _ _ => trivial, ?_⟩
    show if (l.any fun r => !isTst r) = true then _ else _
    rw [any_not_all]
    cases l.all isTst <;> exact ⟨rfl, trivial⟩
abbrev cTested : Con := { A := (.cons (.sl tTs) (.cons (.sl (.sl tL)) .nil)), R := (.cons .int .nil), pre := fun x => True, F := fun x => (errT x.2.1 x.1, ()) }
def cTested_0 (Λ1 : Int → Prop) (l : (List Tst)) (programs : (List (List Lin))) (y0 : Int) : Prop :=
  Λ1 (0 : Int)
def cTested_1 (Λ1 : Int → Prop) (l : (List Tst)) (programs : (List (List Lin))) (y0 : Int)  (t10_1 : Int) : Prop :=
  if (decide (t10_1 < (List.length programs : Int))) = true then (idx t10_1 (List.length programs : Int) ∧ (True ∧ (if ((validP (List.getD programs (Int.toNat t10_1) ([] : List Lin))) != (0 : Int)) = true then ((validP (List.getD programs (Int.toNat t10_1) ([] : List Lin))) = y0 ∧ True) else (inI (t10_1 + (1 : Int)) ∧ Λ1 (t10_1 + (1 : Int)))))) else (True ∧ ((validT l) = y0 ∧ True))
theorem cTested_law (h : ∀ (l : (List Tst)) (programs : (List (List Lin))), cTested.A.wf (l, programs, ()) → ∀ (Λ1 : Int → Prop), (∀ (t10_1 : Int), cTested_1 Λ1 l programs (errT programs l) t10_1 → Λ1 t10_1) → cTested_0 Λ1 l programs (errT programs l)) : ConOK Go.Proofs.Try.prog 61 cTested := by
  refine lawL (Γ := [(88, cValP), (37, cValT)]) (Θ := Th) (n := 22) [([1, 0, 1, 0], ⟨[(0, false), (8, false), (9, true), (10, true)], []⟩)] ⟨cValP_ok, cValT_ok, trivial⟩ (by kernel_rfl) th_ok mix_ok Go.Proofs.Try.func61 (by kernel_rfl) ?_
  intro x hw hp Λ hC
  have h0 := h x.1 x.2.1 hw (fun t10_1 => Λ [1, 0, 1, 0] ([(0, .d false (.sl tTs) x.1), (8, .d false (.sl (.sl tL)) x.2.1), (9, .d true .int (List.length x.2.1 : Int)), (10, .d true .int t10_1)], [])) (fun t10_1 hb => hC [1, 0, 1, 0] ([(0, .d false (.sl tTs) x.1), (8, .d false (.sl (.sl tL)) x.2.1), (9, .d true .int (List.length x.2.1 : Int)), (10, .d true .int t10_1)], []) (Eq.mpr (by kernel_rfl) hb))
  exact Eq.mpr (by kernel_rfl) h0
theorem cTested_ok : ConOK Go.Proofs.Try.prog 61 cTested := by
  refine cTested_law ?_
  intro l programs hw Λ1 h1
  unfold cTested_0
  have key : ∀ n i, i + n = programs.length → firstErr programs = firstErr (programs.drop i) → Λ1 i := by
    intro n
    induction n with
    | zero =>
      intro i hi e
      apply h1; unfold cTested_1
      rw [if_neg (by simp; omega)]
      rw [List.drop_eq_nil_of_le (by omega)] at e
      refine ⟨trivial, ?_, trivial⟩
      unfold errT
      rw [if_pos (by rw [e]; rfl)]
    | succ n ih =>
      intro i hi e
      have hl : i < programs.length := by omega
      apply h1; unfold cTested_1
      rw [if_pos (by simpa using hl), Int.toNat_natCast]
      have hd : programs.drop i = programs.getD i [] :: programs.drop (i + 1) := by
        rw [List.drop_eq_getElem_cons hl]; simp [List.getD_eq_getElem?_getD, hl]
      rw [hd, firstErr] at e
      refine ⟨idx_nat hl, trivial, ?_⟩
      by_cases g : validP (programs.getD i []) = 0
      · rw [if_pos g] at e
        rw [if_neg (by simpa using g)]
        exact ⟨inI_succ hl hw.2.1.1, ih (i + 1) (by omega) e⟩
      · rw [if_neg g] at e
        rw [if_pos (by simpa using g)]
        refine ⟨?_, trivial⟩
        unfold errT
        rw [e, if_neg g]
  exact key programs.length 0 (by omega) rfl
abbrev cEnd : Con := { A := (.cons (.sl tL) (.cons (.sl .int) (.cons .int .nil))), R := (.cons .int .nil), pre := fun x => validP x.1 = 0 ∧ validS x.2.1 = true ∧ 0 ≤ x.2.2.1 ∧ x.2.2.1 ≤ 3, F := fun x => (Rg (runS x.1 x.2.1) x.2.2.1, ()) }
def cEnd_0  (p : (List Lin)) (in_ : (List Int)) (out : Int) (y0 : Int) : Prop :=
  True ∧ (idx out (List.length ((if err1 p in_ = 0 then runS p in_ else [])) : Int) ∧ ((List.getD ((if err1 p in_ = 0 then runS p in_ else [])) (Int.toNat out) 0) = y0 ∧ True))
theorem cEnd_law (h : ∀ (p : (List Lin)) (in_ : (List Int)) (out : Int), cEnd.A.wf (p, in_, out, ()) → (validP p = 0 ∧ validS in_ = true ∧ 0 ≤ out ∧ out ≤ 3) → cEnd_0  p in_ out (Rg (runS p in_) out)) : ConOK Go.Proofs.Try.prog 75 cEnd := by
  refine lawL (Γ := [(113, cRun)]) (Θ := Th) (n := 19) [] ⟨cRun_ok, trivial⟩ (by kernel_rfl) th_ok mix_ok Go.Proofs.Try.func75 (by kernel_rfl) ?_
  intro x hw hp Λ hC
  have h0 := h x.1 x.2.1 x.2.2.1 hw hp  
  exact Eq.mpr (by kernel_rfl) h0
theorem cEnd_ok : ConOK Go.Proofs.Try.prog 75 cEnd := by
  refine cEnd_law ?_
  intro p in_ out hw hp
  unfold cEnd_0
  obtain ⟨p1, p2, p3, p4⟩ := hp
  have e : err1 p in_ = 0 := by unfold err1; rw [if_pos p1, p2]; rfl
  have l4 := validS_len (runS_ok (p := p) p2)
  rw [if_pos e]
  exact ⟨trivial, ⟨p3, by omega⟩, rfl, trivial⟩
abbrev cPassT : Con := { A := (.cons (.sl tL) (.cons tTs .nil)), R := (.cons .bool .nil), pre := fun x => validP x.1 = 0 ∧ isTst x.2.1 = true, F := fun x => (passT x.1 x.2.1, ()) }
def cPassT_0  (p : (List Lin)) (t : Tst) (y0 : Bool) : Prop :=
  (validP p = 0 ∧ validS t.1 = true ∧ 0 ≤ t.2.1 ∧ t.2.1 ≤ 3) ∧ (((Rg (runS p t.1) t.2.1) == t.2.2.1) = y0 ∧ True)
theorem cPassT_law (h : ∀ (p : (List Lin)) (t : Tst), cPassT.A.wf (p, t, ()) → (validP p = 0 ∧ isTst t = true) → cPassT_0  p t (passT p t)) : ConOK Go.Proofs.Try.prog 70 cPassT := by
  refine lawL (Γ := [(75, cEnd)]) (Θ := Th) (n := 14) [] ⟨cEnd_ok, trivial⟩ (by kernel_rfl) th_ok mix_ok Go.Proofs.Try.func70 (by kernel_rfl) ?_
  intro x hw hp Λ hC
  have h0 := h x.1 x.2.1 hw hp  
  exact Eq.mpr (by kernel_rfl) h0
theorem cPassT_ok : ConOK Go.Proofs.Try.prog 70 cPassT := by
  refine cPassT_law ?_
  intro p t hw hp
  unfold cPassT_0
  obtain ⟨p1, p2⟩ := hp
  obtain ⟨q1, q2, q3⟩ := isTst_iff.1 p2
  exact ⟨⟨p1, q1, q2.1, q2.2⟩, rfl, trivial⟩
abbrev cWhere : Con := { A := (.cons (.sl tTs) (.cons (.fn (.cons tTs .nil) (.cons .bool .nil)) .nil)), R := (.cons (.osl .int) .nil), pre := fun x => x.1.length ≤ 1000000 ∧ ∀ t' ∈ x.1, tTs.wf t' → x.2.1.1 (t', ()), F := fun x => (whereL (fun t' => (x.2.1.2 (t', ())).1) x.1, ()) }
def cWhere_0 (Λ1 : Int → (List Int) → Prop) (l : (List Tst)) (is_ : (T.fn (.cons tTs .nil) (.cons .bool .nil)).den) (y0 : (List Int)) : Prop :=
  Λ1 (0 : Int) ([] : List Int)
def cWhere_1 (Λ1 : Int → (List Int) → Prop) (l : (List Tst)) (is_ : (T.fn (.cons tTs .nil) (.cons .bool .nil)).den) (y0 : (List Int))  (t10_1 : Int) (out_1 : (List Int)) : Prop :=
  if (decide (t10_1 < (List.length l : Int))) = true then (idx t10_1 (List.length l : Int) ∧ (is_.1 ((List.getD l (Int.toNat t10_1) tTs.dflt), ()) ∧ (if ((is_.2 ((List.getD l (Int.toNat t10_1) tTs.dflt), ())).1) = true then (List.length out_1 + List.length [t10_1] ≤ 4294967296 ∧ (inI (t10_1 + (1 : Int)) ∧ Λ1 (t10_1 + (1 : Int)) (out_1 ++ [t10_1]))) else (inI (t10_1 + (1 : Int)) ∧ Λ1 (t10_1 + (1 : Int)) out_1)))) else out_1 = y0
theorem cWhere_law (h : ∀ (l : (List Tst)) (is_ : (T.fn (.cons tTs .nil) (.cons .bool .nil)).den), cWhere.A.wf (l, is_, ()) → (l.length ≤ 1000000 ∧ ∀ t' ∈ l, tTs.wf t' → is_.1 (t', ())) → ∀ (Λ1 : Int → (List Int) → Prop), (∀ (t10_1 : Int) (out_1 : (List Int)), cWhere_1 Λ1 l is_ (whereL (fun t' => (is_.2 (t', ())).1) l) t10_1 out_1 → Λ1 t10_1 out_1) → cWhere_0 Λ1 l is_ (whereL (fun t' => (is_.2 (t', ())).1) l)) : ConOK Go.Proofs.Try.prog 73 cWhere := by
  refine lawL (Γ := []) (Θ := Th) (n := 24) [([1, 1, 0, 1, 0], ⟨[(1, false), (5, true), (8, false), (9, true), (10, true)], [(5, true)]⟩)] trivial (by kernel_rfl) th_ok mix_ok Go.Proofs.Try.func73 (by kernel_rfl) ?_
  intro x hw hp Λ hC
  have h0 := h x.1 x.2.1 hw hp (fun t10_1 out_1 => Λ [1, 1, 0, 1, 0] ([(1, .d false (.fn (.cons tTs .nil) (.cons .bool .nil)) x.2.1), (5, .own 5 0), (8, .d false (.sl tTs) x.1), (9, .d true .int (List.length x.1 : Int)), (10, .d true .int t10_1)], [(5, .sl true .int out_1)])) (fun t10_1 out_1 hb => hC [1, 1, 0, 1, 0] ([(1, .d false (.fn (.cons tTs .nil) (.cons .bool .nil)) x.2.1), (5, .own 5 0), (8, .d false (.sl tTs) x.1), (9, .d true .int (List.length x.1 : Int)), (10, .d true .int t10_1)], [(5, .sl true .int out_1)]) (Eq.mpr (by kernel_rfl) hb))
  exact Eq.mpr (by kernel_rfl) h0
theorem cWhere_ok : ConOK Go.Proofs.Try.prog 73 cWhere := by
  refine cWhere_law ?_
  intro l is_ hw hp Λ1 h1
  unfold cWhere_0
  obtain ⟨p1, p2⟩ := hp
  refine upto (n := l.length) (Q := fun i => Λ1 i (whereTo (fun t' => (is_.2 (t', ())).1) l i)) ?_ ?_ 0 (Nat.zero_le _)
  · apply h1; unfold cWhere_1; rw [if_neg (by simp)]; exact rfl
  · intro i hi ih
    apply h1; unfold cWhere_1; rw [if_pos (by simpa using hi), Int.toNat_natCast]
    have hm : List.getD l i tTs.dflt ∈ l := mem_getD hi
    refine ⟨idx_nat hi, p2 _ hm (hw.1.2 _ hm), ?_⟩
    unfold whereTo at ih
    have hle := whereTo_len (fun t' => (is_.2 (t', ())).1) l i
    cases hv : (is_.2 (List.getD l i tTs.dflt, ())).1
    · rw [hv, if_neg (by simp), List.append_nil] at ih
      rw [if_neg (by simp)]
      exact ⟨inI_succ hi (by omega), ih⟩
    · rw [hv, if_pos rfl] at ih
      rw [if_pos (by rfl)]
      exact ⟨by simp only [List.length_cons, List.length_nil]; omega, inI_succ hi (by omega), ih⟩
theorem errT_cases (p : List Lin) (l : List Tst) : errT [p] l = if validP p = 0 then validT l else validP p := by
  unfold errT firstErr firstErr
  by_cases e : validP p = 0
  · rw [if_pos e, if_pos rfl, if_pos e]
  · rw [if_neg e, if_neg e]
theorem errT2_cases (p q : List Lin) (l : List Tst) : errT [p, q] l = if validP p = 0 then errT [q] l else validP p := by
  rw [errT_cases]
  unfold errT firstErr firstErr firstErr
  by_cases e : validP p = 0
  · rw [if_pos e, if_pos e]
    by_cases e2 : validP q = 0
    · rw [if_pos e2, if_pos rfl, if_pos e2]
    · rw [if_neg e2, if_neg e2]
  · rw [if_neg e, if_neg e, if_neg e]

abbrev cPasses : Con := { A := (.cons (.sl tL) (.cons tTs .nil)), R := (.cons .bool (.cons .int .nil)), pre := fun x => True, F := fun x => ((errT [x.1] [x.2.1] == 0 && passT x.1 x.2.1), errT [x.1] [x.2.1], ()) }
def cPasses_0  (p : (List Lin)) (t : Tst) (y0 : Bool) (y1 : Int) : Prop :=
  True ∧ (if ((errT [p] [t]) != (0 : Int)) = true then (false = y0 ∧ (errT [p] [t]) = y1 ∧ True) else ((validP p = 0 ∧ isTst t = true) ∧ ((passT p t) = y0 ∧ (0 : Int) = y1 ∧ True)))
theorem cPasses_law (h : ∀ (p : (List Lin)) (t : Tst), cPasses.A.wf (p, t, ()) → cPasses_0  p t (errT [p] [t] == 0 && passT p t) (errT [p] [t])) : ConOK Go.Proofs.Try.prog 28 cPasses := by
  refine lawL (Γ := [(70, cPassT), (61, cTested)]) (Θ := Th) (n := 18) [] ⟨cPassT_ok, cTested_ok, trivial⟩ (by kernel_rfl) th_ok mix_ok Go.Proofs.Try.func28 (by kernel_rfl) ?_
  intro x hw hp Λ hC
  have h0 := h x.1 x.2.1 hw  
  exact Eq.mpr (by kernel_rfl) h0
theorem cPasses_ok : ConOK Go.Proofs.Try.prog 28 cPasses := by
  refine cPasses_law ?_
  intro p t hw
  unfold cPasses_0
  refine ⟨trivial, ?_⟩
  by_cases h : errT [p] [t] = 0
  · rw [if_neg (by simp [h])]
    obtain ⟨h1, h2⟩ := errT_ok h
    exact ⟨⟨h1, (validT_ok h2).2 t (by simp)⟩, by simp [h], h.symm, trivial⟩
  · rw [if_pos (by simpa using h)]
    exact ⟨by simp [h], rfl, trivial⟩
abbrev cPassing1 : Con := { A := (.cons tTs (.cons (.ref (.sl tL)) .nil)), R := (.cons .bool .nil), pre := fun x => validP x.2.1 = 0 ∧ isTst x.1 = true, F := fun x => (passT x.2.1 x.1, ()) }
def cPassing1_0  (t : Tst) (c0 : (List Lin)) (y0 : Bool) : Prop :=
  (validP c0 = 0 ∧ isTst t = true) ∧ ((passT c0 t) = y0 ∧ True)
theorem cPassing1_law (h : ∀ (t : Tst) (c0 : (List Lin)), cPassing1.A.wf (t, c0, ()) → (validP c0 = 0 ∧ isTst t = true) → cPassing1_0  t c0 (passT c0 t)) : ConOK Go.Proofs.Try.prog 77 cPassing1 := by
  refine lawL (Γ := [(70, cPassT)]) (Θ := Th) (n := 7) [] ⟨cPassT_ok, trivial⟩ (by kernel_rfl) th_ok mix_ok Go.Proofs.Try.func77 (by kernel_rfl) ?_
  intro x hw hp Λ hC
  have h0 := h x.1 x.2.1 hw hp  
  exact Eq.mpr (by kernel_rfl) h0
theorem cPassing1_ok : ConOK Go.Proofs.Try.prog 77 cPassing1 := by
  refine cPassing1_law ?_
  intro t c0 hw hp
  unfold cPassing1_0
  exact ⟨hp, rfl, trivial⟩
abbrev cPassing : Con := { A := (.cons (.sl tL) (.cons (.sl tTs) .nil)), R := (.cons (.sl .int) (.cons .int .nil)), pre := fun x => True, F := fun x => ((if errT [x.1] x.2.1 = 0 then whereL (passT x.1) x.2.1 else []), errT [x.1] x.2.1, ()) }
def cPassing_0  (p : (List Lin)) (l : (List Tst)) (y0 : (List Int)) (y1 : Int) : Prop :=
  True ∧ (if ((errT [p] l) != (0 : Int)) = true then (([] : List Int) = y0 ∧ (errT [p] l) = y1 ∧ True) else ((l.length ≤ 1000000 ∧ ∀ t' ∈ l, tTs.wf t' → (fun (xx : (Tst × Unit)) => validP p = 0 ∧ isTst xx.1 = true, fun (xx : (Tst × Unit)) => (passT p xx.1, ())).1 (t', ())) ∧ ((whereL (fun t' => ((fun (xx : (Tst × Unit)) => validP p = 0 ∧ isTst xx.1 = true, fun (xx : (Tst × Unit)) => (passT p xx.1, ())).2 (t', ())).1) l) = y0 ∧ (0 : Int) = y1 ∧ True)))
theorem cPassing_law (h : ∀ (p : (List Lin)) (l : (List Tst)), cPassing.A.wf (p, l, ()) → cPassing_0  p l (if errT [p] l = 0 then whereL (passT p) l else []) (errT [p] l)) : ConOK Go.Proofs.Try.prog 33 cPassing := by
  refine lawX (X := { subs := [], frz := [2], U := [], mul := [], nst := [], nls := [], itf := none }) (hX := xok0 _) (Γ := [(77, cPassing1), (61, cTested), (73, cWhere)]) (Θ := Th) (n := 17) [] ⟨cPassing1_ok, cTested_ok, cWhere_ok, trivial⟩ (by kernel_rfl) th_ok mix_ok Go.Proofs.Try.func33 (by kernel_rfl) ?_
  intro x hw hp Λ hC
  have h0 := h x.1 x.2.1 hw  
  exact Eq.mpr (by kernel_rfl) h0
theorem cPassing_ok : ConOK Go.Proofs.Try.prog 33 cPassing := by
  refine cPassing_law ?_
  intro p l hw
  unfold cPassing_0
  refine ⟨trivial, ?_⟩
  by_cases h : errT [p] l = 0
  · rw [if_neg (by simp [h]), if_pos h]
    obtain ⟨h1, h2⟩ := errT_ok h
    obtain ⟨h3, h4⟩ := validT_ok h2
    exact ⟨⟨by omega, fun t' ht _ => ⟨h1, h4 t' ht⟩⟩, rfl, h.symm, trivial⟩
  · rw [if_pos (by simpa using h), if_neg h]
    exact ⟨rfl, rfl, trivial⟩
abbrev cFailing1 : Con := { A := (.cons tTs (.cons (.ref (.sl tL)) .nil)), R := (.cons .bool .nil), pre := fun x => validP x.2.1 = 0 ∧ isTst x.1 = true, F := fun x => (!(passT x.2.1 x.1), ()) }
def cFailing1_0  (t : Tst) (c0 : (List Lin)) (y0 : Bool) : Prop :=
  (validP c0 = 0 ∧ isTst t = true) ∧ ((!(passT c0 t)) = y0 ∧ True)
theorem cFailing1_law (h : ∀ (t : Tst) (c0 : (List Lin)), cFailing1.A.wf (t, c0, ()) → (validP c0 = 0 ∧ isTst t = true) → cFailing1_0  t c0 (!(passT c0 t))) : ConOK Go.Proofs.Try.prog 79 cFailing1 := by
  refine lawL (Γ := [(70, cPassT)]) (Θ := Th) (n := 8) [] ⟨cPassT_ok, trivial⟩ (by kernel_rfl) th_ok mix_ok Go.Proofs.Try.func79 (by kernel_rfl) ?_
  intro x hw hp Λ hC
  have h0 := h x.1 x.2.1 hw hp  
  exact Eq.mpr (by kernel_rfl) h0
theorem cFailing1_ok : ConOK Go.Proofs.Try.prog 79 cFailing1 := by
  refine cFailing1_law ?_
  intro t c0 hw hp
  unfold cFailing1_0
  exact ⟨hp, rfl, trivial⟩
abbrev cFailing : Con := { A := (.cons (.sl tL) (.cons (.sl tTs) .nil)), R := (.cons (.sl .int) (.cons .int .nil)), pre := fun x => True, F := fun x => ((if errT [x.1] x.2.1 = 0 then failL x.1 x.2.1 else []), errT [x.1] x.2.1, ()) }
def cFailing_0  (p : (List Lin)) (l : (List Tst)) (y0 : (List Int)) (y1 : Int) : Prop :=
  True ∧ (if ((errT [p] l) != (0 : Int)) = true then (([] : List Int) = y0 ∧ (errT [p] l) = y1 ∧ True) else ((l.length ≤ 1000000 ∧ ∀ t' ∈ l, tTs.wf t' → (fun (xx : (Tst × Unit)) => validP p = 0 ∧ isTst xx.1 = true, fun (xx : (Tst × Unit)) => (!(passT p xx.1), ())).1 (t', ())) ∧ ((whereL (fun t' => ((fun (xx : (Tst × Unit)) => validP p = 0 ∧ isTst xx.1 = true, fun (xx : (Tst × Unit)) => (!(passT p xx.1), ())).2 (t', ())).1) l) = y0 ∧ (0 : Int) = y1 ∧ True)))
theorem cFailing_law (h : ∀ (p : (List Lin)) (l : (List Tst)), cFailing.A.wf (p, l, ()) → cFailing_0  p l (if errT [p] l = 0 then failL p l else []) (errT [p] l)) : ConOK Go.Proofs.Try.prog 35 cFailing := by
  refine lawX (X := { subs := [], frz := [2], U := [], mul := [], nst := [], nls := [], itf := none }) (hX := xok0 _) (Γ := [(79, cFailing1), (61, cTested), (73, cWhere)]) (Θ := Th) (n := 17) [] ⟨cFailing1_ok, cTested_ok, cWhere_ok, trivial⟩ (by kernel_rfl) th_ok mix_ok Go.Proofs.Try.func35 (by kernel_rfl) ?_
  intro x hw hp Λ hC
  have h0 := h x.1 x.2.1 hw  
  exact Eq.mpr (by kernel_rfl) h0
theorem cFailing_ok : ConOK Go.Proofs.Try.prog 35 cFailing := by
  refine cFailing_law ?_
  intro p l hw
  unfold cFailing_0
  refine ⟨trivial, ?_⟩
  by_cases h : errT [p] l = 0
  · rw [if_neg (by simp [h]), if_pos h]
    obtain ⟨h1, h2⟩ := errT_ok h
    obtain ⟨h3, h4⟩ := validT_ok h2
    exact ⟨⟨by omega, fun t' ht _ => ⟨h1, h4 t' ht⟩⟩, rfl, h.symm, trivial⟩
  · rw [if_pos (by simpa using h), if_neg h]
    exact ⟨rfl, rfl, trivial⟩
abbrev cTells1 : Con := { A := (.cons tTs (.cons (.ref (.sl tL)) (.cons (.ref (.sl tL)) .nil))), R := (.cons .bool .nil), pre := fun x => validP x.2.1 = 0 ∧ validP x.2.2.1 = 0 ∧ isTst x.1 = true, F := fun x => (endT x.2.1 x.1 != endT x.2.2.1 x.1, ()) }
def cTells1_0  (t : Tst) (c0 : (List Lin)) (c1 : (List Lin)) (y0 : Bool) : Prop :=
  (validP c0 = 0 ∧ validS t.1 = true ∧ 0 ≤ t.2.1 ∧ t.2.1 ≤ 3) ∧ ((validP c1 = 0 ∧ validS t.1 = true ∧ 0 ≤ t.2.1 ∧ t.2.1 ≤ 3) ∧ (((Rg (runS c0 t.1) t.2.1) != (Rg (runS c1 t.1) t.2.1)) = y0 ∧ True))
theorem cTells1_law (h : ∀ (t : Tst) (c0 : (List Lin)) (c1 : (List Lin)), cTells1.A.wf (t, c0, c1, ()) → (validP c0 = 0 ∧ validP c1 = 0 ∧ isTst t = true) → cTells1_0  t c0 c1 (endT c0 t != endT c1 t)) : ConOK Go.Proofs.Try.prog 74 cTells1 := by
  refine lawL (Γ := [(75, cEnd)]) (Θ := Th) (n := 18) [] ⟨cEnd_ok, trivial⟩ (by kernel_rfl) th_ok mix_ok Go.Proofs.Try.func74 (by kernel_rfl) ?_
  intro x hw hp Λ hC
  have h0 := h x.1 x.2.1 x.2.2.1 hw hp  
  exact Eq.mpr (by kernel_rfl) h0
theorem cTells1_ok : ConOK Go.Proofs.Try.prog 74 cTells1 := by
  refine cTells1_law ?_
  intro t c0 c1 hw hp
  unfold cTells1_0
  obtain ⟨p1, p2, p3⟩ := hp
  obtain ⟨q1, q2, q3⟩ := isTst_iff.1 p3
  exact ⟨⟨p1, q1, q2.1, q2.2⟩, ⟨p2, q1, q2.1, q2.2⟩, rfl, trivial⟩
abbrev cTells : Con := { A := (.cons (.sl tL) (.cons (.sl tL) (.cons (.sl tTs) .nil))), R := (.cons (.sl .int) (.cons .int .nil)), pre := fun x => True, F := fun x => ((if errT [x.1, x.2.1] x.2.2.1 = 0 then tellsT x.1 x.2.1 x.2.2.1 else []), errT [x.1, x.2.1] x.2.2.1, ()) }
def cTells_0  (p : (List Lin)) (q : (List Lin)) (l : (List Tst)) (y0 : (List Int)) (y1 : Int) : Prop :=
  True ∧ (if ((errT [p, q] l) != (0 : Int)) = true then (([] : List Int) = y0 ∧ (errT [p, q] l) = y1 ∧ True) else ((l.length ≤ 1000000 ∧ ∀ t' ∈ l, tTs.wf t' → (fun (xx : (Tst × Unit)) => validP p = 0 ∧ validP q = 0 ∧ isTst xx.1 = true, fun (xx : (Tst × Unit)) => (endT p xx.1 != endT q xx.1, ())).1 (t', ())) ∧ ((whereL (fun t' => ((fun (xx : (Tst × Unit)) => validP p = 0 ∧ validP q = 0 ∧ isTst xx.1 = true, fun (xx : (Tst × Unit)) => (endT p xx.1 != endT q xx.1, ())).2 (t', ())).1) l) = y0 ∧ (0 : Int) = y1 ∧ True)))
theorem cTells_law (h : ∀ (p : (List Lin)) (q : (List Lin)) (l : (List Tst)), cTells.A.wf (p, q, l, ()) → cTells_0  p q l (if errT [p, q] l = 0 then tellsT p q l else []) (errT [p, q] l)) : ConOK Go.Proofs.Try.prog 30 cTells := by
  refine lawX (X := { subs := [], frz := [3, 4], U := [], mul := [], nst := [], nls := [], itf := none }) (hX := xok0 _) (Γ := [(74, cTells1), (61, cTested), (73, cWhere)]) (Θ := Th) (n := 20) [] ⟨cTells1_ok, cTested_ok, cWhere_ok, trivial⟩ (by kernel_rfl) th_ok mix_ok Go.Proofs.Try.func30 (by kernel_rfl) ?_
  intro x hw hp Λ hC
  have h0 := h x.1 x.2.1 x.2.2.1 hw  
  exact Eq.mpr (by kernel_rfl) h0
theorem cTells_ok : ConOK Go.Proofs.Try.prog 30 cTells := by
  refine cTells_law ?_
  intro p q l hw
  unfold cTells_0
  refine ⟨trivial, ?_⟩
  by_cases h : errT [p, q] l = 0
  · rw [if_neg (by simp [h]), if_pos h]
    obtain ⟨h1, h1', h2⟩ := errT2_ok h
    obtain ⟨h3, h4⟩ := validT_ok h2
    exact ⟨⟨by omega, fun t' ht _ => ⟨h1, h1', h4 t' ht⟩⟩, rfl, h.symm, trivial⟩
  · rw [if_pos (by simpa using h), if_neg h]
    exact ⟨rfl, rfl, trivial⟩
abbrev cTable0 : Con := { A := (.cons (.sl tL) (.cons (.sl tTs) .nil)), R := (.cons (.osl (.sl .int)) .nil), pre := fun x => validP x.1 = 0 ∧ validT x.2.1 = 0, F := fun x => (tableT x.1 x.2.1, ()) }
def cTable0_0 (Λ1 : Int → (List (List Int)) → Prop) (Λ2 : (List (List Int)) → Int → Int → (List Int) → Prop) (p : (List Lin)) (l : (List Tst)) (y0 : (List (List Int))) : Prop :=
  Λ1 (0 : Int) ([] : List (List Int))
def cTable0_1 (Λ1 : Int → (List (List Int)) → Prop) (Λ2 : (List (List Int)) → Int → Int → (List Int) → Prop) (p : (List Lin)) (l : (List Tst)) (y0 : (List (List Int)))  (t15_1 : Int) (out_1 : (List (List Int))) : Prop :=
  if (decide (t15_1 < (List.length l : Int))) = true then (idx t15_1 (List.length l : Int) ∧ (mkLen (List.length p : Int) (List.length p : Int) ∧ (True ∧ Λ2 out_1 t15_1 (0 : Int) (List.replicate (Int.toNat (List.length p : Int)) (0 : Int))))) else out_1 = y0
def cTable0_2 (Λ1 : Int → (List (List Int)) → Prop) (Λ2 : (List (List Int)) → Int → Int → (List Int) → Prop) (p : (List Lin)) (l : (List Tst)) (y0 : (List (List Int))) (out_1 : (List (List Int))) (t15_1 : Int) (t31_2 : Int) (row_2 : (List Int)) : Prop :=
  if (decide (t31_2 < (List.length ((if err1 p ((List.getD l (Int.toNat t15_1) tTs.dflt).1) = 0 then doneS p ((List.getD l (Int.toNat t15_1) tTs.dflt).1) else [])) : Int))) = true then (idx t31_2 (List.length ((if err1 p ((List.getD l (Int.toNat t15_1) tTs.dflt).1) = 0 then doneS p ((List.getD l (Int.toNat t15_1) tTs.dflt).1) else [])) : Int) ∧ (idx (List.getD ((if err1 p ((List.getD l (Int.toNat t15_1) tTs.dflt).1) = 0 then doneS p ((List.getD l (Int.toNat t15_1) tTs.dflt).1) else [])) (Int.toNat t31_2) 0) (List.length row_2 : Int) ∧ (inI (t31_2 + (1 : Int)) ∧ Λ2 out_1 t15_1 (t31_2 + (1 : Int)) (List.set row_2 (Int.toNat (List.getD ((if err1 p ((List.getD l (Int.toNat t15_1) tTs.dflt).1) = 0 then doneS p ((List.getD l (Int.toNat t15_1) tTs.dflt).1) else [])) (Int.toNat t31_2) 0)) 1)))) else (List.length out_1 + List.length [row_2] ≤ 4294967296 ∧ (inI (t15_1 + (1 : Int)) ∧ Λ1 (t15_1 + (1 : Int)) (out_1 ++ [row_2])))
theorem cTable0_law (h : ∀ (p : (List Lin)) (l : (List Tst)), cTable0.A.wf (p, l, ()) → (validP p = 0 ∧ validT l = 0) → ∀ (Λ1 : Int → (List (List Int)) → Prop) (Λ2 : (List (List Int)) → Int → Int → (List Int) → Prop), (∀ (t15_1 : Int) (out_1 : (List (List Int))), cTable0_1 Λ1 Λ2 p l (tableT p l) t15_1 out_1 → Λ1 t15_1 out_1) → (∀ (out_1 : (List (List Int))) (t15_1 : Int) (t31_2 : Int) (row_2 : (List Int)), cTable0_2 Λ1 Λ2 p l (tableT p l) out_1 t15_1 t31_2 row_2 → Λ2 out_1 t15_1 t31_2 row_2) → cTable0_0 Λ1 Λ2 p l (tableT p l)) : ConOK Go.Proofs.Try.prog 84 cTable0 := by
  refine lawL (Γ := [(116, cDone)]) (Θ := Th) (n := 45) [([1, 1, 0, 1, 0], ⟨[(0, false), (5, true), (13, false), (14, true), (15, true)], [(5, true)]⟩), ([1, 1, 0, 1, 0, 0, 1, 1, 0, 0, 1, 1, 1, 0, 1, 0], ⟨[(0, false), (5, true), (8, true), (13, false), (14, true), (15, true), (29, true), (30, true), (31, true)], [(5, true), (21, true)]⟩)] ⟨cDone_ok, trivial⟩ (by kernel_rfl) th_ok mix_ok Go.Proofs.Try.func84 (by kernel_rfl) ?_
  intro x hw hp Λ hC
  have h0 := h x.1 x.2.1 hw hp (fun t15_1 out_1 => Λ [1, 1, 0, 1, 0] ([(0, .d false (.sl tL) x.1), (5, .own 5 0), (13, .d false (.sl tTs) x.2.1), (14, .d true .int (List.length x.2.1 : Int)), (15, .d true .int t15_1)], [(5, .sl true (.sl .int) out_1)])) (fun out_1 t15_1 t31_2 row_2 => Λ [1, 1, 0, 1, 0, 0, 1, 1, 0, 0, 1, 1, 1, 0, 1, 0] ([(0, .d false (.sl tL) x.1), (5, .own 5 0), (8, .own 21 0), (13, .d false (.sl tTs) x.2.1), (14, .d true .int (List.length x.2.1 : Int)), (15, .d true .int t15_1), (29, .d true (.sl .int) ((if err1 x.1 ((List.getD x.2.1 (Int.toNat t15_1) tTs.dflt).1) = 0 then doneS x.1 ((List.getD x.2.1 (Int.toNat t15_1) tTs.dflt).1) else []))), (30, .d true .int (List.length ((if err1 x.1 ((List.getD x.2.1 (Int.toNat t15_1) tTs.dflt).1) = 0 then doneS x.1 ((List.getD x.2.1 (Int.toNat t15_1) tTs.dflt).1) else [])) : Int)), (31, .d true .int t31_2)], [(5, .sl true (.sl .int) out_1), (21, .sl true .int row_2)])) (fun t15_1 out_1 hb => hC [1, 1, 0, 1, 0] ([(0, .d false (.sl tL) x.1), (5, .own 5 0), (13, .d false (.sl tTs) x.2.1), (14, .d true .int (List.length x.2.1 : Int)), (15, .d true .int t15_1)], [(5, .sl true (.sl .int) out_1)]) (Eq.mpr (by kernel_rfl) hb)) (fun out_1 t15_1 t31_2 row_2 hb => hC [1, 1, 0, 1, 0, 0, 1, 1, 0, 0, 1, 1, 1, 0, 1, 0] ([(0, .d false (.sl tL) x.1), (5, .own 5 0), (8, .own 21 0), (13, .d false (.sl tTs) x.2.1), (14, .d true .int (List.length x.2.1 : Int)), (15, .d true .int t15_1), (29, .d true (.sl .int) ((if err1 x.1 ((List.getD x.2.1 (Int.toNat t15_1) tTs.dflt).1) = 0 then doneS x.1 ((List.getD x.2.1 (Int.toNat t15_1) tTs.dflt).1) else []))), (30, .d true .int (List.length ((if err1 x.1 ((List.getD x.2.1 (Int.toNat t15_1) tTs.dflt).1) = 0 then doneS x.1 ((List.getD x.2.1 (Int.toNat t15_1) tTs.dflt).1) else [])) : Int)), (31, .d true .int t31_2)], [(5, .sl true (.sl .int) out_1), (21, .sl true .int row_2)]) (Eq.mpr (by kernel_rfl) hb))
  exact Eq.mpr (by kernel_rfl) h0
theorem cTable0_ok : ConOK Go.Proofs.Try.prog 84 cTable0 := by
  refine cTable0_law ?_
  intro p l hw hp Λ1 Λ2 h1 h2
  unfold cTable0_0
  obtain ⟨p1, p2⟩ := hp
  obtain ⟨h8, hall⟩ := validT_ok p2
  have hp8 := (validP_ok p1).1
  refine upto (n := l.length) (Q := fun i => Λ1 (i : Int) ((tableT p l).take i)) ?_ ?_ 0 (Nat.zero_le _)
  · apply h1; unfold cTable0_1; rw [if_neg (by simp)]
    rw [List.take_of_length_le (by unfold tableT; simp)]

  · intro i hi ih
    apply h1; unfold cTable0_1; rw [if_pos (by simpa using hi)]
    have ht := isTst_iff.1 (hall _ (mem_getD (d := tTs.dflt) hi))
    have he : err1 p (l.getD i tTs.dflt).1 = 0 := by unfold err1; rw [if_pos p1, ht.1]; rfl
    have hdl := doneS_len p (l.getD i tTs.dflt).1
    have hm : ∀ j, j ≤ (doneS p (l.getD i tTs.dflt).1).length → Λ2 ((tableT p l).take i) (i : Int) (j : Int) (markTo (doneS p (l.getD i tTs.dflt).1) (List.replicate p.length 0) j) := by
      intro j hj
      refine upto (n := (doneS p (l.getD i tTs.dflt).1).length) (Q := fun j => Λ2 ((tableT p l).take i) (i : Int) (j : Int) (markTo (doneS p (l.getD i tTs.dflt).1) (List.replicate p.length 0) j)) ?_ ?_ j hj
      · apply h2; unfold cTable0_2
        rw [Int.toNat_natCast, if_pos he, if_neg (by simp)]
        unfold tableT at ih ⊢
        rw [map_take_next (rowT p) l tTs.dflt hi] at ih
        refine ⟨?_, inI_succ hi (by omega), ih⟩
        simp only [List.length_take, List.length_map, List.length_cons, List.length_nil]; omega
      · intro j hj ihj
        apply h2; unfold cTable0_2
        rw [Int.toNat_natCast, Int.toNat_natCast, if_pos he, if_pos (by simpa using hj)]
        have hd := doneS_ok (p := p) ht.1 hj
        exact ⟨idx_nat hj, ⟨hd.1, by rw [markTo_len, List.length_replicate]; exact hd.2⟩, inI_succ hj (by omega), ihj⟩
    refine ⟨idx_nat hi, by unfold mkLen; omega, trivial, ?_⟩
    rw [Int.toNat_natCast]
    exact hm 0 (Nat.zero_le _)
abbrev cTable : Con := { A := (.cons (.sl tL) (.cons (.sl tTs) .nil)), R := (.cons (.sl (.sl .int)) (.cons .int .nil)), pre := fun x => True, F := fun x => ((if errT [x.1] x.2.1 = 0 then tableT x.1 x.2.1 else []), errT [x.1] x.2.1, ()) }
def cTable_0  (p : (List Lin)) (l : (List Tst)) (y0 : (List (List Int))) (y1 : Int) : Prop :=
  True ∧ (if ((errT [p] l) != (0 : Int)) = true then (([] : List (List Int)) = y0 ∧ (errT [p] l) = y1 ∧ True) else ((validP p = 0 ∧ validT l = 0) ∧ ((tableT p l) = y0 ∧ (0 : Int) = y1 ∧ True)))
theorem cTable_law (h : ∀ (p : (List Lin)) (l : (List Tst)), cTable.A.wf (p, l, ()) → cTable_0  p l (if errT [p] l = 0 then tableT p l else []) (errT [p] l)) : ConOK Go.Proofs.Try.prog 39 cTable := by
  refine lawL (Γ := [(84, cTable0), (61, cTested)]) (Θ := Th) (n := 17) [] ⟨cTable0_ok, cTested_ok, trivial⟩ (by kernel_rfl) th_ok mix_ok Go.Proofs.Try.func39 (by kernel_rfl) ?_
  intro x hw hp Λ hC
  have h0 := h x.1 x.2.1 hw  
  exact Eq.mpr (by kernel_rfl) h0
theorem cTable_ok : ConOK Go.Proofs.Try.prog 39 cTable := by
  refine cTable_law ?_
  intro p l hw
  unfold cTable_0
  refine ⟨trivial, ?_⟩
  by_cases h : errT [p] l = 0
  · rw [if_neg (by simp [h]), if_pos h]
    obtain ⟨h1, h2⟩ := errT_ok h
    exact ⟨⟨h1, h2⟩, rfl, h.symm, trivial⟩
  · rw [if_pos (by simpa using h), if_neg h]
    exact ⟨rfl, rfl, trivial⟩
abbrev cIndexLL : Con := { A := (.cons (.sl (.sl .int)) (.cons (.fn (.cons (.sl .int) .nil) (.cons .bool .nil)) .nil)), R := (.cons .int .nil), pre := fun x => ∀ r' ∈ x.1, x.2.1.1 (r', ()), F := fun x => (idxF (fun r' => (x.2.1.2 (r', ())).1) x.1, ()) }
def cIndexLL_0 (Λ1 : Int → Prop) (s : (List (List Int))) (f : (T.fn (.cons (.sl .int) .nil) (.cons .bool .nil)).den) (y0 : Int) : Prop :=
  Λ1 (0 : Int)
def cIndexLL_1 (Λ1 : Int → Prop) (s : (List (List Int))) (f : (T.fn (.cons (.sl .int) .nil) (.cons .bool .nil)).den) (y0 : Int)  (t8_1 : Int) : Prop :=
  if (decide (t8_1 < (List.length s : Int))) = true then (idx t8_1 (List.length s : Int) ∧ (f.1 ((List.getD s (Int.toNat t8_1) ([] : List Int)), ()) ∧ (if ((f.2 ((List.getD s (Int.toNat t8_1) ([] : List Int)), ())).1) = true then (t8_1 = y0 ∧ True) else (inI (t8_1 + (1 : Int)) ∧ Λ1 (t8_1 + (1 : Int)))))) else ((-1 : Int) = y0 ∧ True)
theorem cIndexLL_law (h : ∀ (s : (List (List Int))) (f : (T.fn (.cons (.sl .int) .nil) (.cons .bool .nil)).den), cIndexLL.A.wf (s, f, ()) → (∀ r' ∈ s, f.1 (r', ())) → ∀ (Λ1 : Int → Prop), (∀ (t8_1 : Int), cIndexLL_1 Λ1 s f (idxF (fun r' => (f.2 (r', ())).1) s) t8_1 → Λ1 t8_1) → cIndexLL_0 Λ1 s f (idxF (fun r' => (f.2 (r', ())).1) s)) : ConOK Go.Proofs.Try.prog 119 cIndexLL := by
  refine lawL (Γ := []) (Θ := Th) (n := 19) [([1, 0, 1, 0], ⟨[(0, false), (1, false), (7, true), (8, true)], []⟩)] trivial (by kernel_rfl) th_ok mix_ok Go.Proofs.Try.func119 (by kernel_rfl) ?_
  intro x hw hp Λ hC
  have h0 := h x.1 x.2.1 hw hp (fun t8_1 => Λ [1, 0, 1, 0] ([(0, .d false (.sl (.sl .int)) x.1), (1, .d false (.fn (.cons (.sl .int) .nil) (.cons .bool .nil)) x.2.1), (7, .d true .int (List.length x.1 : Int)), (8, .d true .int t8_1)], [])) (fun t8_1 hb => hC [1, 0, 1, 0] ([(0, .d false (.sl (.sl .int)) x.1), (1, .d false (.fn (.cons (.sl .int) .nil) (.cons .bool .nil)) x.2.1), (7, .d true .int (List.length x.1 : Int)), (8, .d true .int t8_1)], []) (Eq.mpr (by kernel_rfl) hb))
  exact Eq.mpr (by kernel_rfl) h0
theorem cIndexLL_ok : ConOK Go.Proofs.Try.prog 119 cIndexLL := by
  refine cIndexLL_law ?_
  intro s f hw hp Λ1 h1
  unfold cIndexLL_0
  refine upto (n := s.length) (Q := fun i => (s.take i).any (fun r => (f.2 (r, ())).1) = false → Λ1 i) ?_ ?_ 0 (Nat.zero_le _) rfl
  · intro ha
    rw [List.take_length] at ha
    apply h1; unfold cIndexLL_1; rw [if_neg (by simp), idxF_none ha]
    exact ⟨rfl, trivial⟩
  · intro i hi ih ha
    apply h1; unfold cIndexLL_1; rw [if_pos (by simpa using hi), Int.toNat_natCast]
    refine ⟨idx_nat hi, hp _ (mem_getD hi), ?_⟩
    cases hv : (f.2 (List.getD s i [], ())).1
    · rw [if_neg (by simp)]
      exact ⟨inI_succ hi hw.1.1, ih (any_take_next (p := fun r => (f.2 (r, ())).1) [] hi ha hv)⟩
    · rw [if_pos (by rfl), idxF_at (p := fun r => (f.2 (r, ())).1) [] hi ha hv]
      exact ⟨rfl, trivial⟩
abbrev cContLL : Con := { A := (.cons (.sl (.sl .int)) (.cons (.fn (.cons (.sl .int) .nil) (.cons .bool .nil)) .nil)), R := (.cons .bool .nil), pre := fun x => ∀ r' ∈ x.1, x.2.1.1 (r', ()), F := fun x => (x.1.any (fun r' => (x.2.1.2 (r', ())).1), ()) }
def cContLL_0  (s : (List (List Int))) (f : (T.fn (.cons (.sl .int) .nil) (.cons .bool .nil)).den) (y0 : Bool) : Prop :=
  (∀ r' ∈ s, f.1 (r', ())) ∧ ((decide ((idxF (fun r' => (f.2 (r', ())).1) s) ≥ (0 : Int))) = y0 ∧ True)
theorem cContLL_law (h : ∀ (s : (List (List Int))) (f : (T.fn (.cons (.sl .int) .nil) (.cons .bool .nil)).den), cContLL.A.wf (s, f, ()) → (∀ r' ∈ s, f.1 (r', ())) → cContLL_0  s f (s.any (fun r' => (f.2 (r', ())).1))) : ConOK Go.Proofs.Try.prog 86 cContLL := by
  refine lawL (Γ := [(119, cIndexLL)]) (Θ := Th) (n := 9) [] ⟨cIndexLL_ok, trivial⟩ (by kernel_rfl) th_ok mix_ok Go.Proofs.Try.func86 (by kernel_rfl) ?_
  intro x hw hp Λ hC
  have h0 := h x.1 x.2.1 hw hp  
  exact Eq.mpr (by kernel_rfl) h0
theorem cContLL_ok : ConOK Go.Proofs.Try.prog 86 cContLL := by
  refine cContLL_law ?_
  intro s f hw hp
  unfold cContLL_0
  exact ⟨hp, idxF_any _ _, trivial⟩
abbrev cCovered1 : Con := { A := (.cons (.sl .int) (.cons (.ref .int) .nil)), R := (.cons .bool .nil), pre := fun x => 0 ≤ x.2.1 ∧ x.2.1 < (x.1.length : Int), F := fun x => ((List.getD x.1 (Int.toNat x.2.1) 0 == 1), ()) }
def cCovered1_0  (row : (List Int)) (c0 : Int) (y0 : Bool) : Prop :=
  idx c0 (List.length row : Int) ∧ (((List.getD row (Int.toNat c0) 0) == (1 : Int)) = y0 ∧ True)
theorem cCovered1_law (h : ∀ (row : (List Int)) (c0 : Int), cCovered1.A.wf (row, c0, ()) → (0 ≤ c0 ∧ c0 < (row.length : Int)) → cCovered1_0  row c0 (List.getD row (Int.toNat c0) 0 == 1)) : ConOK Go.Proofs.Try.prog 87 cCovered1 := by
  refine lawL (Γ := []) (Θ := Th) (n := 9) [] trivial (by kernel_rfl) th_ok mix_ok Go.Proofs.Try.func87 (by kernel_rfl) ?_
  intro x hw hp Λ hC
  have h0 := h x.1 x.2.1 hw hp  
  exact Eq.mpr (by kernel_rfl) h0
theorem cCovered1_ok : ConOK Go.Proofs.Try.prog 87 cCovered1 := by
  refine cCovered1_law ?_
  intro row c0 hw hp
  unfold cCovered1_0
  exact ⟨⟨hp.1, hp.2⟩, rfl, trivial⟩
abbrev cIsTestR : Con := { A := (.cons tTs .nil), R := (.cons .bool .nil), pre := fun x => True, F := fun x => (isTst x.1, ()) }
def cIsTestR_0  (t : Tst) (y0 : Bool) : Prop :=
  True ∧ (if ((argErr (validS t.1)) == (0 : Int)) = true then (True ∧ (True ∧ (if (bif true then (within t.2.1 (0 : Int) (3 : Int)) else false) = true then (True ∧ (True ∧ ((bif true then (within t.2.2.1 (-999 : Int) (999 : Int)) else false) = y0 ∧ True))) else (false = false ∧ (false = y0 ∧ True))))) else (false = false ∧ (false = false ∧ (false = y0 ∧ True))))
theorem cIsTestR_law (h : ∀ (t : Tst), cIsTestR.A.wf (t, ()) → cIsTestR_0  t (isTst t)) : ConOK Go.Proofs.Try.prog 83 cIsTestR := by
  refine lawL (Γ := [(68, cValSR), (69, cWithinR2)]) (Θ := Th) (n := 17) [] ⟨cValSR_ok, cWithinR2_ok, trivial⟩ (by kernel_rfl) th_ok mix_ok Go.Proofs.Try.func83 (by kernel_rfl) ?_
  intro x hw hp Λ hC
  have h0 := h x.1 hw  
  exact Eq.mpr (by kernel_rfl) h0
theorem cIsTestR_ok : ConOK Go.Proofs.Try.prog 83 cIsTestR := by
  refine cIsTestR_law ?_
  intro t hw
  unfold cIsTestR_0
  unfold isTst isReg isVal
  cases h : validS t.1
  · simp [argErr]
  · cases h1 : within t.2.1 0 3 <;> simp [argErr, h1]
abbrev cValTR : Con := { A := (.cons (.sl tTs) .nil), R := (.cons .int .nil), pre := fun x => True, F := fun x => (validT x.1, ()) }
def cValTR_0 (Λ1 : Int → Prop) (l : (List Tst)) (y0 : Int) : Prop :=
  if (decide ((List.length l : Int) > (8 : Int))) = true then ((3 : Int) = y0 ∧ True) else Λ1 (0 : Int)
def cValTR_1 (Λ1 : Int → Prop) (l : (List Tst)) (y0 : Int)  (i_1 : Int) : Prop :=
  if (decide (i_1 < (List.length l : Int))) = true then (idx i_1 (List.length l : Int) ∧ (True ∧ (if (!(isTst (List.getD l (Int.toNat i_1) tTs.dflt))) = true then ((1 : Int) = y0 ∧ True) else (inI (i_1 + (1 : Int)) ∧ Λ1 (i_1 + (1 : Int)))))) else ((0 : Int) = y0 ∧ True)
theorem cValTR_law (h : ∀ (l : (List Tst)), cValTR.A.wf (l, ()) → ∀ (Λ1 : Int → Prop), (∀ (i_1 : Int), cValTR_1 Λ1 l (validT l) i_1 → Λ1 i_1) → cValTR_0 Λ1 l (validT l)) : ConOK Go.Proofs.Try.prog 38 cValTR := by
  refine lawL (Γ := [(83, cIsTestR)]) (Θ := Th) (n := 19) [([1, 1, 0, 1, 0], ⟨[(0, false), (3, true)], []⟩)] ⟨cIsTestR_ok, trivial⟩ (by kernel_rfl) th_ok mix_ok Go.Proofs.Try.func38 (by kernel_rfl) ?_
  intro x hw hp Λ hC
  have h0 := h x.1 hw (fun i_1 => Λ [1, 1, 0, 1, 0] ([(0, .d false (.sl tTs) x.1), (3, .d true .int i_1)], [])) (fun i_1 hb => hC [1, 1, 0, 1, 0] ([(0, .d false (.sl tTs) x.1), (3, .d true .int i_1)], []) (Eq.mpr (by kernel_rfl) hb))
  exact Eq.mpr (by kernel_rfl) h0
theorem cValTR_ok : ConOK Go.Proofs.Try.prog 38 cValTR := by
  refine cValTR_law ?_
  intro l hw Λ1 h1
  unfold cValTR_0
  unfold validT
  simp only [decide_eq_true_eq]
  by_cases h : l.length > 8
  · rw [if_pos (by omega), if_pos h]; exact ⟨rfl, trivial⟩
  · rw [if_neg (by omega)]
    refine upto (n := l.length) (Q := fun i => (l.take i).all isTst = true → Λ1 i) ?_ ?_ 0 (Nat.zero_le _) rfl
    · intro ha
      rw [List.take_length] at ha
      apply h1; unfold cValTR_1; rw [if_neg (by simp)]
      unfold validT
      rw [if_neg h, ha]
      exact ⟨rfl, trivial⟩
    · intro i hi ih ha
      apply h1; unfold cValTR_1; rw [if_pos (by simpa using hi), Int.toNat_natCast]
      refine ⟨idx_nat hi, trivial, ?_⟩
      cases hv : isTst (List.getD l i tTs.dflt)
      · rw [if_pos (by rfl)]
        unfold validT
        rw [if_neg h, all_false_at (p := isTst) tTs.dflt hi hv]
        exact ⟨rfl, trivial⟩
      · rw [if_neg (by simp)]
        exact ⟨inI_succ hi (by omega), ih (all_take_next tTs.dflt hi ha hv)⟩
abbrev cTestedR : Con := { A := (.cons (.sl tL) (.cons (.sl tTs) .nil)), R := (.cons .int .nil), pre := fun x => True, F := fun x => (errT [x.1] x.2.1, ()) }
def cTestedR_0  (p : (List Lin)) (l : (List Tst)) (y0 : Int) : Prop :=
  True ∧ (if ((validP p) != (0 : Int)) = true then ((validP p) = y0 ∧ True) else (True ∧ ((validT l) = y0 ∧ True)))
theorem cTestedR_law (h : ∀ (p : (List Lin)) (l : (List Tst)), cTestedR.A.wf (p, l, ()) → cTestedR_0  p l (errT [p] l)) : ConOK Go.Proofs.Try.prog 71 cTestedR := by
  refine lawL (Γ := [(76, cValPR), (38, cValTR)]) (Θ := Th) (n := 13) [] ⟨cValPR_ok, cValTR_ok, trivial⟩ (by kernel_rfl) th_ok mix_ok Go.Proofs.Try.func71 (by kernel_rfl) ?_
  intro x hw hp Λ hC
  have h0 := h x.1 x.2.1 hw  
  exact Eq.mpr (by kernel_rfl) h0
theorem cTestedR_ok : ConOK Go.Proofs.Try.prog 71 cTestedR := by
  refine cTestedR_law ?_
  intro p l hw
  unfold cTestedR_0
  rw [errT_cases]
  refine ⟨trivial, ?_⟩
  by_cases e : validP p = 0
  · rw [if_neg (by simp [e]), if_pos e]; exact ⟨trivial, rfl, trivial⟩
  · rw [if_pos (by simpa using e), if_neg e]; exact ⟨rfl, trivial⟩
abbrev cMade : Con := { A := (.cons (.sl tL) (.cons (.sl .int) (.cons .int .nil))), R := (.cons .int .nil), pre := fun x => validP x.1 = 0 ∧ validS x.2.1 = true ∧ 0 ≤ x.2.2.1 ∧ x.2.2.1 ≤ 3, F := fun x => (Rg (runS x.1 x.2.1) x.2.2.1, ()) }
def cMade_0  (p : (List Lin)) (in_ : (List Int)) (out : Int) (y0 : Int) : Prop :=
  True ∧ (idx out (List.length ((if err1 p in_ = 0 then runS p in_ else [])) : Int) ∧ ((List.getD ((if err1 p in_ = 0 then runS p in_ else [])) (Int.toNat out) 0) = y0 ∧ True))
theorem cMade_law (h : ∀ (p : (List Lin)) (in_ : (List Int)) (out : Int), cMade.A.wf (p, in_, out, ()) → (validP p = 0 ∧ validS in_ = true ∧ 0 ≤ out ∧ out ≤ 3) → cMade_0  p in_ out (Rg (runS p in_) out)) : ConOK Go.Proofs.Try.prog 72 cMade := by
  refine lawL (Γ := [(112, cRunR)]) (Θ := Th) (n := 19) [] ⟨cRunR_ok, trivial⟩ (by kernel_rfl) th_ok mix_ok Go.Proofs.Try.func72 (by kernel_rfl) ?_
  intro x hw hp Λ hC
  have h0 := h x.1 x.2.1 x.2.2.1 hw hp  
  exact Eq.mpr (by kernel_rfl) h0
theorem cMade_ok : ConOK Go.Proofs.Try.prog 72 cMade := by
  refine cMade_law ?_
  intro p in_ out hw hp
  unfold cMade_0
  obtain ⟨p1, p2, p3, p4⟩ := hp
  have e : err1 p in_ = 0 := by unfold err1; rw [if_pos p1, p2]; rfl
  have l4 := validS_len (runS_ok (p := p) p2)
  rw [if_pos e]
  exact ⟨trivial, ⟨p3, by omega⟩, rfl, trivial⟩
abbrev cPassesR : Con := { A := (.cons (.sl tL) (.cons tTs .nil)), R := (.cons .bool (.cons .int .nil)), pre := fun x => True, F := fun x => ((errT [x.1] [x.2.1] == 0 && passT x.1 x.2.1), errT [x.1] [x.2.1], ()) }
def cPassesR_0  (p : (List Lin)) (t : Tst) (y0 : Bool) (y1 : Int) : Prop :=
  True ∧ (if ((errT [p] [t]) != (0 : Int)) = true then (false = y0 ∧ (errT [p] [t]) = y1 ∧ True) else ((validP p = 0 ∧ validS t.1 = true ∧ 0 ≤ t.2.1 ∧ t.2.1 ≤ 3) ∧ (((Rg (runS p t.1) t.2.1) == t.2.2.1) = y0 ∧ (0 : Int) = y1 ∧ True)))
theorem cPassesR_law (h : ∀ (p : (List Lin)) (t : Tst), cPassesR.A.wf (p, t, ()) → cPassesR_0  p t (errT [p] [t] == 0 && passT p t) (errT [p] [t])) : ConOK Go.Proofs.Try.prog 29 cPassesR := by
  refine lawL (Γ := [(72, cMade), (71, cTestedR)]) (Θ := Th) (n := 23) [] ⟨cMade_ok, cTestedR_ok, trivial⟩ (by kernel_rfl) th_ok mix_ok Go.Proofs.Try.func29 (by kernel_rfl) ?_
  intro x hw hp Λ hC
  have h0 := h x.1 x.2.1 hw  
  exact Eq.mpr (by kernel_rfl) h0
theorem cPassesR_ok : ConOK Go.Proofs.Try.prog 29 cPassesR := by
  refine cPassesR_law ?_
  intro p t hw
  unfold cPassesR_0
  refine ⟨trivial, ?_⟩
  by_cases h : errT [p] [t] = 0
  · rw [if_neg (by simp [h])]
    obtain ⟨h1, h2⟩ := errT_ok h
    obtain ⟨q1, q2, q3⟩ := isTst_iff.1 ((validT_ok h2).2 t (by simp))
    exact ⟨⟨h1, q1, q2.1, q2.2⟩, by simp [h, passT, endT], h.symm, trivial⟩
  · rw [if_pos (by simpa using h)]
    exact ⟨by simp [h], rfl, trivial⟩
abbrev cSorted : Con := { A := (.cons (.sl tL) (.cons (.sl tTs) (.cons .bool .nil))), R := (.cons (.sl .int) (.cons .int .nil)), pre := fun x => True, F := fun x => ((if errT [x.1] x.2.1 = 0 then whereL (fun t' => passT x.1 t' == x.2.2.1) x.2.1 else []), errT [x.1] x.2.1, ()) }
def cSorted_0 (Λ1 : Int → (List Int) → Prop) (p : (List Lin)) (l : (List Tst)) (pass : Bool) (y0 : (List Int)) (y1 : Int) : Prop :=
  True ∧ (if ((errT [p] l) != (0 : Int)) = true then (([] : List Int) = y0 ∧ (errT [p] l) = y1 ∧ True) else Λ1 (0 : Int) ([] : List Int))
def cSorted_1 (Λ1 : Int → (List Int) → Prop) (p : (List Lin)) (l : (List Tst)) (pass : Bool) (y0 : (List Int)) (y1 : Int)  (i_1 : Int) (out_1 : (List Int)) : Prop :=
  if (decide (i_1 < (List.length l : Int))) = true then (idx i_1 (List.length l : Int) ∧ (idx i_1 (List.length l : Int) ∧ ((validP p = 0 ∧ validS ((List.getD l (Int.toNat i_1) tTs.dflt).1) = true ∧ 0 ≤ ((List.getD l (Int.toNat i_1) tTs.dflt).2.1) ∧ ((List.getD l (Int.toNat i_1) tTs.dflt).2.1) ≤ 3) ∧ (idx i_1 (List.length l : Int) ∧ (if (((Rg (runS p ((List.getD l (Int.toNat i_1) tTs.dflt).1)) ((List.getD l (Int.toNat i_1) tTs.dflt).2.1)) == (List.getD l (Int.toNat i_1) tTs.dflt).2.2.1) == pass) = true then (List.length out_1 + List.length [i_1] ≤ 4294967296 ∧ (inI (i_1 + (1 : Int)) ∧ Λ1 (i_1 + (1 : Int)) (out_1 ++ [i_1]))) else (inI (i_1 + (1 : Int)) ∧ Λ1 (i_1 + (1 : Int)) out_1)))))) else (out_1 = y0 ∧ (0 : Int) = y1 ∧ True)
theorem cSorted_law (h : ∀ (p : (List Lin)) (l : (List Tst)) (pass : Bool), cSorted.A.wf (p, l, pass, ()) → ∀ (Λ1 : Int → (List Int) → Prop), (∀ (i_1 : Int) (out_1 : (List Int)), cSorted_1 Λ1 p l pass (if errT [p] l = 0 then whereL (fun t' => passT p t' == pass) l else []) (errT [p] l) i_1 out_1 → Λ1 i_1 out_1) → cSorted_0 Λ1 p l pass (if errT [p] l = 0 then whereL (fun t' => passT p t' == pass) l else []) (errT [p] l)) : ConOK Go.Proofs.Try.prog 78 cSorted := by
  refine lawL (Γ := [(72, cMade), (71, cTestedR)]) (Θ := Th) (n := 48) [([1, 1, 1, 0, 1, 0], ⟨[(0, false), (1, false), (2, false), (9, true), (10, true)], [(9, true)]⟩)] ⟨cMade_ok, cTestedR_ok, trivial⟩ (by kernel_rfl) th_ok mix_ok Go.Proofs.Try.func78 (by kernel_rfl) ?_
  intro x hw hp Λ hC
  have h0 := h x.1 x.2.1 x.2.2.1 hw (fun i_1 out_1 => Λ [1, 1, 1, 0, 1, 0] ([(0, .d false (.sl tL) x.1), (1, .d false (.sl tTs) x.2.1), (2, .d false .bool x.2.2.1), (9, .own 9 0), (10, .d true .int i_1)], [(9, .sl true .int out_1)])) (fun i_1 out_1 hb => hC [1, 1, 1, 0, 1, 0] ([(0, .d false (.sl tL) x.1), (1, .d false (.sl tTs) x.2.1), (2, .d false .bool x.2.2.1), (9, .own 9 0), (10, .d true .int i_1)], [(9, .sl true .int out_1)]) (Eq.mpr (by kernel_rfl) hb))
  exact Eq.mpr (by kernel_rfl) h0
theorem cSorted_ok : ConOK Go.Proofs.Try.prog 78 cSorted := by
  refine cSorted_law ?_
  intro p l pass hw Λ1 h1
  unfold cSorted_0
  refine ⟨trivial, ?_⟩
  by_cases h : errT [p] l = 0
  · rw [if_neg (by simp [h])]
    obtain ⟨g1, g2⟩ := errT_ok h
    obtain ⟨g3, g4⟩ := validT_ok g2
    refine upto (n := l.length) (Q := fun i => Λ1 i (whereTo (fun t' => passT p t' == pass) l i)) ?_ ?_ 0 (Nat.zero_le _)
    · apply h1; unfold cSorted_1; rw [if_neg (by simp), if_pos h]
      exact ⟨rfl, h.symm, trivial⟩
    · intro i hi ih
      apply h1; unfold cSorted_1; rw [if_pos (by simpa using hi), Int.toNat_natCast]
      obtain ⟨q1, q2, q3⟩ := isTst_iff.1 (g4 _ (mem_getD (d := tTs.dflt) hi))
      have hle := whereTo_len (fun t' => passT p t' == pass) l i
      rw [show whereTo (fun t' => passT p t' == pass) l (i + 1) = whereTo (fun t' => passT p t' == pass) l i ++ if (passT p (l.getD i tTs.dflt) == pass) = true then [(i : Int)] else [] from rfl] at ih
      refine ⟨idx_nat hi, idx_nat hi, ⟨g1, q1, q2.1, q2.2⟩, idx_nat hi, ?_⟩
      show if (passT p (l.getD i tTs.dflt) == pass) = true then _ else _
      by_cases hv : (passT p (l.getD i tTs.dflt) == pass) = true
      · rw [if_pos hv] at ih ⊢
        exact ⟨by simp only [List.length_cons, List.length_nil]; omega, inI_succ hi (by omega), ih⟩
      · rw [if_neg hv, List.append_nil] at ih
        rw [if_neg hv]
        exact ⟨inI_succ hi (by omega), ih⟩
  · rw [if_pos (by simpa using h), if_neg h]
    exact ⟨rfl, rfl, trivial⟩
abbrev cPassingR : Con := { A := (.cons (.sl tL) (.cons (.sl tTs) .nil)), R := (.cons (.sl .int) (.cons .int .nil)), pre := fun x => True, F := fun x => ((if errT [x.1] x.2.1 = 0 then whereL (passT x.1) x.2.1 else []), errT [x.1] x.2.1, ()) }
def cPassingR_0  (p : (List Lin)) (l : (List Tst)) (y0 : (List Int)) (y1 : Int) : Prop :=
  True ∧ (((if errT [p] l = 0 then whereL (fun t' => passT p t' == true) l else [])) = y0 ∧ (errT [p] l) = y1 ∧ True)
theorem cPassingR_law (h : ∀ (p : (List Lin)) (l : (List Tst)), cPassingR.A.wf (p, l, ()) → cPassingR_0  p l (if errT [p] l = 0 then whereL (passT p) l else []) (errT [p] l)) : ConOK Go.Proofs.Try.prog 34 cPassingR := by
  refine lawL (Γ := [(78, cSorted)]) (Θ := Th) (n := 11) [] ⟨cSorted_ok, trivial⟩ (by kernel_rfl) th_ok mix_ok Go.Proofs.Try.func34 (by kernel_rfl) ?_
  intro x hw hp Λ hC
  have h0 := h x.1 x.2.1 hw  
  exact Eq.mpr (by kernel_rfl) h0
theorem cPassingR_ok : ConOK Go.Proofs.Try.prog 34 cPassingR := by
  refine cPassingR_law ?_
  intro p l hw
  unfold cPassingR_0
  have e : (fun t' => passT p t' == true) = passT p := by funext t; cases passT p t <;> rfl
  rw [e]
  exact ⟨trivial, rfl, rfl, trivial⟩
abbrev cFailingR : Con := { A := (.cons (.sl tL) (.cons (.sl tTs) .nil)), R := (.cons (.sl .int) (.cons .int .nil)), pre := fun x => True, F := fun x => ((if errT [x.1] x.2.1 = 0 then failL x.1 x.2.1 else []), errT [x.1] x.2.1, ()) }
def cFailingR_0  (p : (List Lin)) (l : (List Tst)) (y0 : (List Int)) (y1 : Int) : Prop :=
  True ∧ (((if errT [p] l = 0 then whereL (fun t' => passT p t' == false) l else [])) = y0 ∧ (errT [p] l) = y1 ∧ True)
theorem cFailingR_law (h : ∀ (p : (List Lin)) (l : (List Tst)), cFailingR.A.wf (p, l, ()) → cFailingR_0  p l (if errT [p] l = 0 then failL p l else []) (errT [p] l)) : ConOK Go.Proofs.Try.prog 36 cFailingR := by
  refine lawL (Γ := [(78, cSorted)]) (Θ := Th) (n := 11) [] ⟨cSorted_ok, trivial⟩ (by kernel_rfl) th_ok mix_ok Go.Proofs.Try.func36 (by kernel_rfl) ?_
  intro x hw hp Λ hC
  have h0 := h x.1 x.2.1 hw  
  exact Eq.mpr (by kernel_rfl) h0
theorem cFailingR_ok : ConOK Go.Proofs.Try.prog 36 cFailingR := by
  refine cFailingR_law ?_
  intro p l hw
  unfold cFailingR_0
  have e : (fun t' => passT p t' == false) = fun t => !passT p t := by funext t; cases passT p t <;> rfl
  rw [e]
  exact ⟨trivial, rfl, rfl, trivial⟩
abbrev cTellsR : Con := { A := (.cons (.sl tL) (.cons (.sl tL) (.cons (.sl tTs) .nil))), R := (.cons (.sl .int) (.cons .int .nil)), pre := fun x => True, F := fun x => ((if errT [x.1, x.2.1] x.2.2.1 = 0 then tellsT x.1 x.2.1 x.2.2.1 else []), errT [x.1, x.2.1] x.2.2.1, ()) }
def cTellsR_0 (Λ1 : Int → (List Int) → Prop) (p : (List Lin)) (q : (List Lin)) (l : (List Tst)) (y0 : (List Int)) (y1 : Int) : Prop :=
  True ∧ (if ((validP p) != (0 : Int)) = true then (([] : List Int) = y0 ∧ (validP p) = y1 ∧ True) else (True ∧ (if ((errT [q] l) != (0 : Int)) = true then (([] : List Int) = y0 ∧ (errT [q] l) = y1 ∧ True) else Λ1 (0 : Int) ([] : List Int))))
def cTellsR_1 (Λ1 : Int → (List Int) → Prop) (p : (List Lin)) (q : (List Lin)) (l : (List Tst)) (y0 : (List Int)) (y1 : Int)  (i_1 : Int) (out_1 : (List Int)) : Prop :=
  if (decide (i_1 < (List.length l : Int))) = true then (idx i_1 (List.length l : Int) ∧ (idx i_1 (List.length l : Int) ∧ ((validP p = 0 ∧ validS ((List.getD l (Int.toNat i_1) tTs.dflt).1) = true ∧ 0 ≤ ((List.getD l (Int.toNat i_1) tTs.dflt).2.1) ∧ ((List.getD l (Int.toNat i_1) tTs.dflt).2.1) ≤ 3) ∧ (idx i_1 (List.length l : Int) ∧ (idx i_1 (List.length l : Int) ∧ ((validP q = 0 ∧ validS ((List.getD l (Int.toNat i_1) tTs.dflt).1) = true ∧ 0 ≤ ((List.getD l (Int.toNat i_1) tTs.dflt).2.1) ∧ ((List.getD l (Int.toNat i_1) tTs.dflt).2.1) ≤ 3) ∧ (if ((Rg (runS p ((List.getD l (Int.toNat i_1) tTs.dflt).1)) ((List.getD l (Int.toNat i_1) tTs.dflt).2.1)) != (Rg (runS q ((List.getD l (Int.toNat i_1) tTs.dflt).1)) ((List.getD l (Int.toNat i_1) tTs.dflt).2.1))) = true then (List.length out_1 + List.length [i_1] ≤ 4294967296 ∧ (inI (i_1 + (1 : Int)) ∧ Λ1 (i_1 + (1 : Int)) (out_1 ++ [i_1]))) else (inI (i_1 + (1 : Int)) ∧ Λ1 (i_1 + (1 : Int)) out_1)))))))) else (out_1 = y0 ∧ (0 : Int) = y1 ∧ True)
theorem cTellsR_law (h : ∀ (p : (List Lin)) (q : (List Lin)) (l : (List Tst)), cTellsR.A.wf (p, q, l, ()) → ∀ (Λ1 : Int → (List Int) → Prop), (∀ (i_1 : Int) (out_1 : (List Int)), cTellsR_1 Λ1 p q l (if errT [p, q] l = 0 then tellsT p q l else []) (errT [p, q] l) i_1 out_1 → Λ1 i_1 out_1) → cTellsR_0 Λ1 p q l (if errT [p, q] l = 0 then tellsT p q l else []) (errT [p, q] l)) : ConOK Go.Proofs.Try.prog 31 cTellsR := by
  refine lawL (Γ := [(72, cMade), (71, cTestedR), (76, cValPR)]) (Θ := Th) (n := 59) [([1, 1, 1, 1, 0, 1, 0], ⟨[(0, false), (1, false), (2, false), (10, true), (11, true)], [(10, true)]⟩)] ⟨cMade_ok, cTestedR_ok, cValPR_ok, trivial⟩ (by kernel_rfl) th_ok mix_ok Go.Proofs.Try.func31 (by kernel_rfl) ?_
  intro x hw hp Λ hC
  have h0 := h x.1 x.2.1 x.2.2.1 hw (fun i_1 out_1 => Λ [1, 1, 1, 1, 0, 1, 0] ([(0, .d false (.sl tL) x.1), (1, .d false (.sl tL) x.2.1), (2, .d false (.sl tTs) x.2.2.1), (10, .own 10 0), (11, .d true .int i_1)], [(10, .sl true .int out_1)])) (fun i_1 out_1 hb => hC [1, 1, 1, 1, 0, 1, 0] ([(0, .d false (.sl tL) x.1), (1, .d false (.sl tL) x.2.1), (2, .d false (.sl tTs) x.2.2.1), (10, .own 10 0), (11, .d true .int i_1)], [(10, .sl true .int out_1)]) (Eq.mpr (by kernel_rfl) hb))
  exact Eq.mpr (by kernel_rfl) h0
theorem cTellsR_ok : ConOK Go.Proofs.Try.prog 31 cTellsR := by
  refine cTellsR_law ?_
  intro p q l hw Λ1 h1
  unfold cTellsR_0
  refine ⟨trivial, ?_⟩
  rw [errT2_cases]
  by_cases e : validP p = 0
  · rw [if_neg (by simp [e]), if_pos e]
    refine ⟨trivial, ?_⟩
    by_cases h : errT [q] l = 0
    · rw [if_neg (by simp [h])]
      obtain ⟨g1, g2⟩ := errT_ok h
      obtain ⟨g3, g4⟩ := validT_ok g2
      refine upto (n := l.length) (Q := fun i => Λ1 i (whereTo (fun t => endT p t != endT q t) l i)) ?_ ?_ 0 (Nat.zero_le _)
      · apply h1; unfold cTellsR_1; rw [if_neg (by simp), errT2_cases, if_pos e, if_pos h]
        exact ⟨rfl, h.symm, trivial⟩
      · intro i hi ih
        apply h1; unfold cTellsR_1; rw [if_pos (by simpa using hi), Int.toNat_natCast]
        obtain ⟨q1, q2, q3⟩ := isTst_iff.1 (g4 _ (mem_getD (d := tTs.dflt) hi))
        have hle := whereTo_len (fun t => endT p t != endT q t) l i
        rw [show whereTo (fun t => endT p t != endT q t) l (i + 1) = whereTo (fun t => endT p t != endT q t) l i ++ if (endT p (l.getD i tTs.dflt) != endT q (l.getD i tTs.dflt)) = true then [(i : Int)] else [] from rfl] at ih
        refine ⟨idx_nat hi, idx_nat hi, ⟨e, q1, q2.1, q2.2⟩, idx_nat hi, idx_nat hi, ⟨g1, q1, q2.1, q2.2⟩, ?_⟩
        show if (endT p (l.getD i tTs.dflt) != endT q (l.getD i tTs.dflt)) = true then _ else _
        by_cases hv : (endT p (l.getD i tTs.dflt) != endT q (l.getD i tTs.dflt)) = true
        · rw [if_pos hv] at ih ⊢
          exact ⟨by simp only [List.length_cons, List.length_nil]; omega, inI_succ hi (by omega), ih⟩
        · rw [if_neg hv, List.append_nil] at ih
          rw [if_neg hv]
          exact ⟨inI_succ hi (by omega), ih⟩
    · rw [if_pos (by simpa using h), if_neg h]
      exact ⟨rfl, rfl, trivial⟩
  · rw [if_pos (by simpa using e), if_neg e, if_neg e]
    exact ⟨rfl, rfl, trivial⟩
abbrev cTableR : Con := { A := (.cons (.sl tL) (.cons (.sl tTs) .nil)), R := (.cons (.sl (.sl .int)) (.cons .int .nil)), pre := fun x => True, F := fun x => ((if errT [x.1] x.2.1 = 0 then tableT x.1 x.2.1 else []), errT [x.1] x.2.1, ()) }
def cTableR_0 (Λ1 : Int → (List (List Int)) → Prop) (Λ2 : Int → (List (List Int)) → Int → (List Int) → Prop) (p : (List Lin)) (l : (List Tst)) (y0 : (List (List Int))) (y1 : Int) : Prop :=
  True ∧ (if ((errT [p] l) != (0 : Int)) = true then (([] : List (List Int)) = y0 ∧ (errT [p] l) = y1 ∧ True) else Λ1 (0 : Int) ([] : List (List Int)))
def cTableR_1 (Λ1 : Int → (List (List Int)) → Prop) (Λ2 : Int → (List (List Int)) → Int → (List Int) → Prop) (p : (List Lin)) (l : (List Tst)) (y0 : (List (List Int))) (y1 : Int)  (i_1 : Int) (out_1 : (List (List Int))) : Prop :=
  if (decide (i_1 < (List.length l : Int))) = true then (mkLen (List.length p : Int) (List.length p : Int) ∧ (idx i_1 (List.length l : Int) ∧ (True ∧ Λ2 i_1 out_1 (0 : Int) (List.replicate (Int.toNat (List.length p : Int)) (0 : Int))))) else (out_1 = y0 ∧ (0 : Int) = y1 ∧ True)
def cTableR_2 (Λ1 : Int → (List (List Int)) → Prop) (Λ2 : Int → (List (List Int)) → Int → (List Int) → Prop) (p : (List Lin)) (l : (List Tst)) (y0 : (List (List Int))) (y1 : Int) (i_1 : Int) (out_1 : (List (List Int))) (k_2 : Int) (row_2 : (List Int)) : Prop :=
  if (decide (k_2 < (List.length ((if err1 p ((List.getD l (Int.toNat i_1) tTs.dflt).1) = 0 then doneS p ((List.getD l (Int.toNat i_1) tTs.dflt).1) else [])) : Int))) = true then (idx k_2 (List.length ((if err1 p ((List.getD l (Int.toNat i_1) tTs.dflt).1) = 0 then doneS p ((List.getD l (Int.toNat i_1) tTs.dflt).1) else [])) : Int) ∧ (idx (List.getD ((if err1 p ((List.getD l (Int.toNat i_1) tTs.dflt).1) = 0 then doneS p ((List.getD l (Int.toNat i_1) tTs.dflt).1) else [])) (Int.toNat k_2) 0) (List.length row_2 : Int) ∧ (inI (k_2 + (1 : Int)) ∧ Λ2 i_1 out_1 (k_2 + (1 : Int)) (List.set row_2 (Int.toNat (List.getD ((if err1 p ((List.getD l (Int.toNat i_1) tTs.dflt).1) = 0 then doneS p ((List.getD l (Int.toNat i_1) tTs.dflt).1) else [])) (Int.toNat k_2) 0)) 1)))) else (List.length out_1 + List.length [row_2] ≤ 4294967296 ∧ (inI (i_1 + (1 : Int)) ∧ Λ1 (i_1 + (1 : Int)) (out_1 ++ [row_2])))
theorem cTableR_law (h : ∀ (p : (List Lin)) (l : (List Tst)), cTableR.A.wf (p, l, ()) → ∀ (Λ1 : Int → (List (List Int)) → Prop) (Λ2 : Int → (List (List Int)) → Int → (List Int) → Prop), (∀ (i_1 : Int) (out_1 : (List (List Int))), cTableR_1 Λ1 Λ2 p l (if errT [p] l = 0 then tableT p l else []) (errT [p] l) i_1 out_1 → Λ1 i_1 out_1) → (∀ (i_1 : Int) (out_1 : (List (List Int))) (k_2 : Int) (row_2 : (List Int)), cTableR_2 Λ1 Λ2 p l (if errT [p] l = 0 then tableT p l else []) (errT [p] l) i_1 out_1 k_2 row_2 → Λ2 i_1 out_1 k_2 row_2) → cTableR_0 Λ1 Λ2 p l (if errT [p] l = 0 then tableT p l else []) (errT [p] l)) : ConOK Go.Proofs.Try.prog 40 cTableR := by
  refine lawL (Γ := [(85, cDoneR), (71, cTestedR)]) (Θ := Th) (n := 55) [([1, 1, 1, 0, 1, 0], ⟨[(0, false), (1, false), (7, true), (8, true)], [(7, true)]⟩), ([1, 1, 1, 0, 1, 0, 0, 1, 0, 0, 1, 1, 0, 1, 0], ⟨[(0, false), (1, false), (7, true), (8, true), (9, true), (10, true), (12, true)], [(7, true), (27, true)]⟩)] ⟨cDoneR_ok, cTestedR_ok, trivial⟩ (by kernel_rfl) th_ok mix_ok Go.Proofs.Try.func40 (by kernel_rfl) ?_
  intro x hw hp Λ hC
  have h0 := h x.1 x.2.1 hw (fun i_1 out_1 => Λ [1, 1, 1, 0, 1, 0] ([(0, .d false (.sl tL) x.1), (1, .d false (.sl tTs) x.2.1), (7, .own 7 0), (8, .d true .int i_1)], [(7, .sl true (.sl .int) out_1)])) (fun i_1 out_1 k_2 row_2 => Λ [1, 1, 1, 0, 1, 0, 0, 1, 0, 0, 1, 1, 0, 1, 0] ([(0, .d false (.sl tL) x.1), (1, .d false (.sl tTs) x.2.1), (7, .own 7 0), (8, .d true .int i_1), (9, .own 27 0), (10, .d true (.sl .int) ((if err1 x.1 ((List.getD x.2.1 (Int.toNat i_1) tTs.dflt).1) = 0 then doneS x.1 ((List.getD x.2.1 (Int.toNat i_1) tTs.dflt).1) else []))), (12, .d true .int k_2)], [(7, .sl true (.sl .int) out_1), (27, .sl true .int row_2)])) (fun i_1 out_1 hb => hC [1, 1, 1, 0, 1, 0] ([(0, .d false (.sl tL) x.1), (1, .d false (.sl tTs) x.2.1), (7, .own 7 0), (8, .d true .int i_1)], [(7, .sl true (.sl .int) out_1)]) (Eq.mpr (by kernel_rfl) hb)) (fun i_1 out_1 k_2 row_2 hb => hC [1, 1, 1, 0, 1, 0, 0, 1, 0, 0, 1, 1, 0, 1, 0] ([(0, .d false (.sl tL) x.1), (1, .d false (.sl tTs) x.2.1), (7, .own 7 0), (8, .d true .int i_1), (9, .own 27 0), (10, .d true (.sl .int) ((if err1 x.1 ((List.getD x.2.1 (Int.toNat i_1) tTs.dflt).1) = 0 then doneS x.1 ((List.getD x.2.1 (Int.toNat i_1) tTs.dflt).1) else []))), (12, .d true .int k_2)], [(7, .sl true (.sl .int) out_1), (27, .sl true .int row_2)]) (Eq.mpr (by kernel_rfl) hb))
  exact Eq.mpr (by kernel_rfl) h0
theorem cTableR_ok : ConOK Go.Proofs.Try.prog 40 cTableR := by
  refine cTableR_law ?_
  intro p l hw Λ1 Λ2 h1 h2
  unfold cTableR_0
  refine ⟨trivial, ?_⟩
  by_cases h : errT [p] l = 0
  · rw [if_neg (by simp [h])]
    obtain ⟨p1, p2⟩ := errT_ok h
    obtain ⟨h8, hall⟩ := validT_ok p2
    have hp8 := (validP_ok p1).1
    refine upto (n := l.length) (Q := fun i => Λ1 (i : Int) ((tableT p l).take i)) ?_ ?_ 0 (Nat.zero_le _)
    · apply h1; unfold cTableR_1; rw [if_neg (by simp), if_pos h]
      rw [List.take_of_length_le (by unfold tableT; simp)]
      exact ⟨rfl, h.symm, trivial⟩
    · intro i hi ih
      apply h1; unfold cTableR_1; rw [if_pos (by simpa using hi)]
      have ht := isTst_iff.1 (hall _ (mem_getD (d := tTs.dflt) hi))
      have he : err1 p (l.getD i tTs.dflt).1 = 0 := by unfold err1; rw [if_pos p1, ht.1]; rfl
      have hdl := doneS_len p (l.getD i tTs.dflt).1
      have hm : ∀ j, j ≤ (doneS p (l.getD i tTs.dflt).1).length → Λ2 (i : Int) ((tableT p l).take i) (j : Int) (markTo (doneS p (l.getD i tTs.dflt).1) (List.replicate p.length 0) j) := by
        intro j hj
        refine upto (n := (doneS p (l.getD i tTs.dflt).1).length) (Q := fun j => Λ2 (i : Int) ((tableT p l).take i) (j : Int) (markTo (doneS p (l.getD i tTs.dflt).1) (List.replicate p.length 0) j)) ?_ ?_ j hj
        · apply h2; unfold cTableR_2
          rw [Int.toNat_natCast, if_pos he, if_neg (by simp)]
          unfold tableT at ih ⊢
          rw [map_take_next (rowT p) l tTs.dflt hi] at ih
          refine ⟨?_, inI_succ hi (by omega), ih⟩
          simp only [List.length_take, List.length_map, List.length_cons, List.length_nil]; omega
        · intro j hj ihj
          apply h2; unfold cTableR_2
          rw [Int.toNat_natCast, Int.toNat_natCast, if_pos he, if_pos (by simpa using hj)]
          have hd := doneS_ok (p := p) ht.1 hj
          exact ⟨idx_nat hj, ⟨hd.1, by rw [markTo_len, List.length_replicate]; exact hd.2⟩, inI_succ hj (by omega), ihj⟩
      refine ⟨by unfold mkLen; omega, idx_nat hi, trivial, ?_⟩
      rw [Int.toNat_natCast]
      exact hm 0 (Nat.zero_le _)
  · rw [if_pos (by simpa using h), if_neg h]
    exact ⟨rfl, rfl, trivial⟩
end Go.Tk
