/- Merged: C7t. -/
import Derived.Test.YtookhknbjofmkaaMg2
import Derived.Test.YtookhknbjofmkaaMg1
/- The top statement of layer 7. -/
set_option linter.unusedSimpArgs false
set_option linter.unusedVariables false
set_option linter.unnecessarySimpa false
namespace Go.Tk
open Go Go.RowKit
abbrev cChk1 : Con := { A := (.cons tEd (.cons (.ref (.sl tL)) .nil)), R := (.cons .bool .nil), pre := fun x => True, F := fun x => (decide (x.1.1 ≥ (x.2.1.length : Int)), ()) }
def cChk1_0  (e : Edt) (c0 : (List Lin)) (y0 : Bool) : Prop :=
  (decide (e.1 ≥ (List.length c0 : Int))) = y0 ∧ True
theorem cChk1_law (h : ∀ (e : Edt) (c0 : (List Lin)), cChk1.A.wf (e, c0, ()) → cChk1_0  e c0 (decide (e.1 ≥ (c0.length : Int)))) : ConOK Go.Proofs.Try.prog 144 cChk1 := by
  refine lawL (Γ := []) (Θ := Th) (n := 9) [] trivial (by kernel_rfl) th_ok mix_ok Go.Proofs.Try.func144 (by kernel_rfl) ?_
  intro x hw hp Λ hC
  have h0 := h x.1 x.2.1 hw  
  exact Eq.mpr (by kernel_rfl) h0
theorem cChk1_ok : ConOK Go.Proofs.Try.prog 144 cChk1 := by
  refine cChk1_law ?_
  intro e c0 hw
  unfold cChk1_0
  exact ⟨rfl, trivial⟩
abbrev cChk : Con := { A := (.cons (.sl tL) (.cons (.sl tEd) (.cons (.sl tTs) .nil))), R := (.cons .int .nil), pre := fun x => True, F := fun x => (errXT x.1 x.2.1 x.2.2.1, ()) }
def cChk_0  (p : (List Lin)) (x : (List Edt)) (l : (List Tst)) (y0 : Int) : Prop :=
  True ∧ (if ((validP p) != (0 : Int)) = true then ((validP p) = y0 ∧ True) else (True ∧ (if ((validX x) != (0 : Int)) = true then ((validX x) = y0 ∧ True) else (True ∧ (if ((validT l) != (0 : Int)) = true then ((validT l) = y0 ∧ True) else ((∀ r' ∈ x, (fun (xx : (Edt × Unit)) => True, fun (xx : (Edt × Unit)) => (decide (xx.1.1 ≥ (p.length : Int)), ())).1 (r', ())) ∧ (if (x.any (fun r' => ((fun (xx : (Edt × Unit)) => True, fun (xx : (Edt × Unit)) => (decide (xx.1.1 ≥ (p.length : Int)), ())).2 (r', ())).1)) = true then ((4 : Int) = y0 ∧ True) else ((0 : Int) = y0 ∧ True))))))))
theorem cChk_law (h : ∀ (p : (List Lin)) (x : (List Edt)) (l : (List Tst)), cChk.A.wf (p, x, l, ()) → cChk_0  p x l (errXT p x l)) : ConOK Go.Proofs.Try.prog 105 cChk := by
  refine lawX (X := { subs := [], frz := [3], U := [], mul := [], nst := [], nls := [], itf := none, inp := [], arrs := [] }) (hX := xok0 _ trivial) (Γ := [(144, cChk1), (98, cContE), (68, cValP), (132, cValT), (97, cValX)]) (Θ := Th) (n := 28) [] ⟨cChk1_ok, cContE_ok, cValP_ok, cValT_ok, cValX_ok, trivial⟩ (by kernel_rfl) th_ok mix_ok Go.Proofs.Try.func105 (by kernel_rfl) ?_
  intro x hw hp Λ hC
  have h0 := h x.1 x.2.1 x.2.2.1 hw  
  exact Eq.mpr (by kernel_rfl) h0
theorem cChk_ok : ConOK Go.Proofs.Try.prog 105 cChk := by
  refine cChk_law ?_
  intro p x l hw
  unfold cChk_0
  refine ⟨trivial, ?_⟩
  unfold errXT
  by_cases h1 : validP p = 0
  · rw [if_neg (by simp [h1]), if_pos h1]
    refine ⟨trivial, ?_⟩
    by_cases h2 : validX x = 0
    · rw [if_neg (by simp [h2]), if_pos h2]
      refine ⟨trivial, ?_⟩
      by_cases h3 : validT l = 0
      · rw [if_neg (by simp [h3]), if_pos h3]
        refine ⟨fun _ _ => trivial, ?_⟩
        show if far p.length x = true then _ else _
        by_cases h4 : far p.length x = true
        · rw [if_pos h4, if_pos h4]; exact ⟨rfl, trivial⟩
        · rw [if_neg h4, if_neg h4]; exact ⟨rfl, trivial⟩
      · rw [if_pos (by simpa using h3), if_neg h3]; exact ⟨rfl, trivial⟩
    · rw [if_pos (by simpa using h2), if_neg h2]; exact ⟨rfl, trivial⟩
  · rw [if_pos (by simpa using h1), if_neg h1]; exact ⟨rfl, trivial⟩
abbrev cDoE : Con := { A := (.cons (.sl tL) (.cons (.sl tEd) .nil)), R := (.cons (.osl tL) (.cons .int .nil)), pre := fun x => True, F := fun x => ((if errX x.1 x.2.1 = 0 then playX x.1 x.2.1 else []), errX x.1 x.2.1, ()) }
def cDoE_0  (p : (List Lin)) (x : (List Edt)) (y0 : (List Lin)) (y1 : Int) : Prop :=
  True ∧ (if ((errXT p x ([] : List Tst)) != (0 : Int)) = true then ((errXT p x ([] : List Tst)) = y1 ∧ ([] : List Lin) = y0) else ((p.length ≤ 1000 ∧ x.length ≤ 1000 ∧ Asc (readE x) ∧ inX p.length x) ∧ ((0 : Int) = y1 ∧ (playX p x) = y0)))
theorem cDoE_law (h : ∀ (p : (List Lin)) (x : (List Edt)), cDoE.A.wf (p, x, ()) → cDoE_0  p x (if errX p x = 0 then playX p x else []) (errX p x)) : ConOK Go.Proofs.Try.prog 42 cDoE := by
  refine lawL (Γ := [(105, cChk), (106, cDo)]) (Θ := Th) (n := 16) [] ⟨cChk_ok, cDo_ok, trivial⟩ (by kernel_rfl) th_ok mix_ok Go.Proofs.Try.func42 (by kernel_rfl) ?_
  intro x hw hp Λ hC
  have h0 := h x.1 x.2.1 hw  
  exact Eq.mpr (by kernel_rfl) h0
theorem cDoE_ok : ConOK Go.Proofs.Try.prog 42 cDoE := by
  refine cDoE_law ?_
  intro p x hw
  unfold cDoE_0
  refine ⟨trivial, ?_⟩
  by_cases h : errX p x = 0
  · have h' : errXT p x [] = 0 := h
    obtain ⟨g1, g2, g3⟩ := errX_ok h
    have h8 := (validP_ok g1).1
    have h4 := (validX_ok g2).1
    rw [if_neg (by simp [h'])]
    exact ⟨⟨by omega, by omega, validX_asc g2, g3⟩, h.symm, by rw [if_pos h]⟩
  · have h' : ¬ errXT p x [] = 0 := h
    rw [if_pos (by simpa using h')]
    exact ⟨rfl, by rw [if_neg h]⟩
theorem eqL (a b : Lin) : T.eqB tL a b = decide (a = b) := by rw [Bool.eq_iff_iff, eqB_iff rfl, decide_eq_true_eq]
theorem green_sel (p : List Lin) (h : List (List Edt)) (t : Tst) : ∀ n, greenTo p h t n = selTo (okAt p h t) n
  | 0 => rfl
  | n + 1 => by rw [greenTo, selTo, green_sel p h t n]
theorem green_has (p : List Lin) (h : List (List Edt)) (t : Tst) {k : Nat} (hk : k ≤ h.length) : decide ((k : Int) ∈ greenTo p h t (h.length + 1)) = okAt p h t k := by
  rw [green_sel, Bool.eq_iff_iff, decide_eq_true_eq, selTo_has]
  exact ⟨fun g => g.2, fun g => ⟨by omega, g⟩⟩
theorem part_count (h : List (List Edt)) (i : Nat) : ∀ n, (leftN h [(i : Int)] n).length + (selTo (fun k => need h k i) n).length + (if i < n then 1 else 0) = n
  | 0 => rfl
  | n + 1 => by
    have ih := part_count h i n
    unfold leftN at ih ⊢
    rw [selTo, selTo, List.length_append, List.length_append]
    have hg : goneB h [(i : Int)] n = (decide (n = i) || need h n i) := by
      unfold goneB
      have hd : decide ((n : Int) = (i : Int)) = decide (n = i) := by rw [Bool.eq_iff_iff, decide_eq_true_eq, decide_eq_true_eq]; omega
      simp only [List.mem_singleton, List.any_cons, List.any_nil, Bool.or_false, Int.toNat_natCast, hd]
    rw [hg]
    by_cases e : n = i
    · subst e
      have hn : need h n n = false := by
        cases q : need h n n
        · rfl
        · have := need_lt q; omega
      rw [hn]
      simp at ih ⊢
      omega
    · rw [decide_eq_false e, Bool.false_or]
      have : (if i < n + 1 then 1 else 0 : Nat) = if i < n then 1 else 0 := by
        by_cases g : i < n
        · rw [if_pos g, if_pos (by omega)]
        · rw [if_neg g, if_neg (by omega)]
      rw [this]
      cases need h n i <;> simp <;> omega
def lostAt (p : List Lin) (h : List (List Edt)) (t : Tst) (n : Nat) : List (List Int) := if okAt p h t n = true then (if okAt p h t (n + 1) = true then [] else [pairI n 0]) else []
theorem lossTo_one (p : List Lin) (h : List (List Edt)) (t : Tst) (n : Nat) : lossTo p h [t] (n + 1) = lossTo p h [t] n ++ lostAt p h t n := by
  rw [lossTo]; rfl
theorem lossTo_pre (p : List Lin) (h : List (List Edt)) (t : Tst) : ∀ N n, n ≤ N → ∃ r, lossTo p h [t] N = lossTo p h [t] n ++ r
  | 0, n, hn => by
    have : n = 0 := by omega
    subst this; exact ⟨[], by simp⟩
  | N + 1, n, hn => by
    by_cases e : n = N + 1
    · subst e; exact ⟨[], by simp⟩
    · obtain ⟨r, hr⟩ := lossTo_pre p h t N n (by omega)
      exact ⟨r ++ lostAt p h t N, by rw [lossTo_one, hr, List.append_assoc]⟩
theorem loss_at {p : List Lin} {h : List (List Edt)} {t : Tst} {N n : Nat} (hn : n < N) (h1 : okAt p h t n = true) (h2 : okAt p h t (n + 1) = false) : (lossTo p h [t] n).length < (lossTo p h [t] N).length ∧ (lossTo p h [t] N).getD (lossTo p h [t] n).length (List.replicate 2 0) = pairI n 0 ∧ (lossTo p h [t] (n + 1)).length = (lossTo p h [t] n).length + 1 := by
  have e : lossTo p h [t] (n + 1) = lossTo p h [t] n ++ [pairI n 0] := by rw [lossTo_one]; unfold lostAt; rw [h1, h2]; rfl
  obtain ⟨r, hr⟩ := lossTo_pre p h t N (n + 1) (by omega)
  rw [hr, e]
  refine ⟨by simp, ?_, by simp⟩
  rw [List.getD_eq_getElem?_getD, List.append_assoc, List.getElem?_append_right (Nat.le_refl _), Nat.sub_self]; rfl
theorem loss_no {p : List Lin} {h : List (List Edt)} {t : Tst} {n : Nat} (h1 : (okAt p h t n && !(okAt p h t (n + 1))) = false) : lossTo p h [t] (n + 1) = lossTo p h [t] n := by
  rw [lossTo_one]
  unfold lostAt
  cases e1 : okAt p h t n
  · simp
  · cases e2 : okAt p h t (n + 1)
    · rw [e1, e2] at h1; cases h1
    · simp
abbrev cTopStories : Con := { A := (.cons (.sl tL) (.cons (.sl (.sl tEd)) (.cons tTs .nil))), R := (.cons .bool .nil), pre := fun x => True, F := fun x => (true, ()) }
def cTopStories_0 (Λ1 : Int → Prop) (Λ2 : Int → Prop) (Λ3 : Int → Int → (List (List Edt)) → Prop) (Λ4 : Int → Int → Prop) (p : (List Lin)) (h : (List (List Edt))) (t : Tst) (y0 : Bool) : Prop :=
  True ∧ (if ((err7 ([] : List Lin) ([] : List (List Edt))) != (0 : Int)) = true then (true = true ∧ (false = y0 ∧ True)) else (True ∧ (if (bif false then true else ((cntV ([] : List Lin) ([] : List (List Edt))) != (1 : Int))) = true then (false = y0 ∧ True) else (True ∧ (if (decide (∃ x' ∈ h, 50 < x'.length) || decide (100 < p.length) || decide (50 < h.length)) = true then (true = true ∧ (true = y0 ∧ True)) else (True ∧ (if (bif false then true else (decide ((List.length t.1 : Int) > (50 : Int)))) = true then (true = y0 ∧ True) else (True ∧ (if ((err7 p h) != (0 : Int)) = true then (True ∧ (((err7 p h) == (err7 p h)) = y0 ∧ True)) else (True ∧ (True ∧ (if ((err7 p h) != (0 : Int)) = true then (true = true ∧ (true = true ∧ (false = y0 ∧ True))) else (True ∧ (if (bif false then true else ((ordE p h (lastO p h)) != (0 : Int))) = true then (true = true ∧ (false = y0 ∧ True)) else ((ordV p h (lastO p h)).length ≤ 1000000 ∧ (True ∧ (if (bif false then true else (!(decide ((ordV p h (lastO p h)) = ((if err7 p h = 0 then playH p h else [])))))) = true then (false = y0 ∧ True) else Λ1 (0 : Int))))))))))))))))))
def cTopStories_1 (Λ1 : Int → Prop) (Λ2 : Int → Prop) (Λ3 : Int → Int → (List (List Edt)) → Prop) (Λ4 : Int → Int → Prop) (p : (List Lin)) (h : (List (List Edt))) (t : Tst) (y0 : Bool)  (i_1 : Int) : Prop :=
  if (decide (i_1 < (List.length p : Int))) = true then (True ∧ (if ((whoE p h i_1) != (0 : Int)) = true then (true = true ∧ (true = true ∧ (false = y0 ∧ True))) else (if (whoB p h i_1) = true then (if (decide ((whoN p h i_1) < (0 : Int))) = true then (true = true ∧ (True ∧ (True ∧ (if (bif false then true else (bif true then true else false)) = true then (true = true ∧ (false = y0 ∧ True)) else (if (!(whoB p h i_1)) = true then (idx i_1 (List.length ((if err7 p h = 0 then playH p h else [])) : Int) ∧ (idx i_1 (List.length p : Int) ∧ (True ∧ (True ∧ (if (bif false then true else (bif true then (!(T.eqB tL (List.getD ((if err7 p h = 0 then playH p h else [])) (Int.toNat i_1) tL.dflt) (List.getD p (Int.toNat i_1) tL.dflt))) else false)) = true then (false = y0 ∧ True) else (inI (i_1 + (1 : Int)) ∧ Λ1 (i_1 + (1 : Int)))))))) else (false = false ∧ (True ∧ (if (bif false then true else false) = true then (false = y0 ∧ True) else (inI (i_1 + (1 : Int)) ∧ Λ1 (i_1 + (1 : Int))))))))))) else (True ∧ (True ∧ (True ∧ (if (bif false then true else (bif true then (bif false then true else (decide ((whoN p h i_1) ≥ (List.length h : Int)))) else false)) = true then (true = true ∧ (false = y0 ∧ True)) else (if (!(whoB p h i_1)) = true then (idx i_1 (List.length ((if err7 p h = 0 then playH p h else [])) : Int) ∧ (idx i_1 (List.length p : Int) ∧ (True ∧ (True ∧ (if (bif false then true else (bif true then (!(T.eqB tL (List.getD ((if err7 p h = 0 then playH p h else [])) (Int.toNat i_1) tL.dflt) (List.getD p (Int.toNat i_1) tL.dflt))) else false)) = true then (false = y0 ∧ True) else (inI (i_1 + (1 : Int)) ∧ Λ1 (i_1 + (1 : Int)))))))) else (false = false ∧ (True ∧ (if (bif false then true else false) = true then (false = y0 ∧ True) else (inI (i_1 + (1 : Int)) ∧ Λ1 (i_1 + (1 : Int)))))))))))) else (false = false ∧ (True ∧ (if (bif false then true else false) = true then (true = true ∧ (false = y0 ∧ True)) else (if (!(whoB p h i_1)) = true then (idx i_1 (List.length ((if err7 p h = 0 then playH p h else [])) : Int) ∧ (idx i_1 (List.length p : Int) ∧ (True ∧ (True ∧ (if (bif false then true else (bif true then (!(T.eqB tL (List.getD ((if err7 p h = 0 then playH p h else [])) (Int.toNat i_1) tL.dflt) (List.getD p (Int.toNat i_1) tL.dflt))) else false)) = true then (false = y0 ∧ True) else (inI (i_1 + (1 : Int)) ∧ Λ1 (i_1 + (1 : Int)))))))) else (false = false ∧ (True ∧ (if (bif false then true else false) = true then (false = y0 ∧ True) else (inI (i_1 + (1 : Int)) ∧ Λ1 (i_1 + (1 : Int))))))))))))) else Λ2 (0 : Int)
def cTopStories_2 (Λ1 : Int → Prop) (Λ2 : Int → Prop) (Λ3 : Int → Int → (List (List Edt)) → Prop) (Λ4 : Int → Int → Prop) (p : (List Lin)) (h : (List (List Edt))) (t : Tst) (y0 : Bool)  (i_2 : Int) : Prop :=
  if (decide (i_2 < (List.length h : Int))) = true then (True ∧ (inI (i_2 + (1 : Int)) ∧ (True ∧ (idx i_2 (List.length h : Int) ∧ (True ∧ (if (((if err7 p h = 0 then argErr (within i_2 0 (h.length : Int)) else err7 p h)) != (0 : Int)) = true then (true = true ∧ (true = true ∧ (true = true ∧ (false = y0 ∧ True)))) else (True ∧ (if (bif false then true else (((if err7 p h = 0 then argErr (within (i_2 + (1 : Int)) 0 (h.length : Int)) else err7 p h)) != (0 : Int))) = true then (true = true ∧ (true = true ∧ (false = y0 ∧ True))) else (True ∧ (if (bif false then true else ((errX ((if err7 p h = 0 ∧ within i_2 0 (h.length : Int) = true then playH p (h.take (Int.toNat i_2)) else [])) (List.getD h (Int.toNat i_2) ([] : List Edt))) != (0 : Int))) = true then (true = true ∧ (false = y0 ∧ True)) else (((if errX ((if err7 p h = 0 ∧ within i_2 0 (h.length : Int) = true then playH p (h.take (Int.toNat i_2)) else [])) (List.getD h (Int.toNat i_2) ([] : List Edt)) = 0 then playX ((if err7 p h = 0 ∧ within i_2 0 (h.length : Int) = true then playH p (h.take (Int.toNat i_2)) else [])) (List.getD h (Int.toNat i_2) ([] : List Edt)) else [])).length ≤ 1000000 ∧ (True ∧ (if (bif false then true else (!(decide (((if errX ((if err7 p h = 0 ∧ within i_2 0 (h.length : Int) = true then playH p (h.take (Int.toNat i_2)) else [])) (List.getD h (Int.toNat i_2) ([] : List Edt)) = 0 then playX ((if err7 p h = 0 ∧ within i_2 0 (h.length : Int) = true then playH p (h.take (Int.toNat i_2)) else [])) (List.getD h (Int.toNat i_2) ([] : List Edt)) else [])) = ((if err7 p h = 0 ∧ within (i_2 + (1 : Int)) 0 (h.length : Int) = true then playH p (h.take (Int.toNat (i_2 + (1 : Int)))) else [])))))) = true then (false = y0 ∧ True) else (True ∧ (True ∧ (if ((nE p h i_2) != (0 : Int)) = true then (true = true ∧ (true = true ∧ (true = true ∧ (false = y0 ∧ True)))) else (True ∧ (if (bif false then true else ((revE p h [i_2]) != (0 : Int))) = true then (true = true ∧ (true = true ∧ (false = y0 ∧ True))) else (inI ((List.length (revL p h [i_2]) : Int) + (List.length (neededV p h i_2) : Int)) ∧ (inI (((List.length (revL p h [i_2]) : Int) + (List.length (neededV p h i_2) : Int)) + (1 : Int)) ∧ (True ∧ (if (bif false then true else ((((List.length (revL p h [i_2]) : Int) + (List.length (neededV p h i_2) : Int)) + (1 : Int)) != (List.length h : Int))) = true then (true = true ∧ (false = y0 ∧ True)) else (True ∧ (True ∧ (if (bif false then true else (decide (i_2 ∈ (revL p h [i_2])))) = true then (false = y0 ∧ True) else Λ3 i_2 (0 : Int) ([] : List (List Edt))))))))))))))))))))))))))) else (True ∧ (if ((err7t p h [t]) != (0 : Int)) = true then (((List.length ((if err7t p h [t] = 0 then greenTo p h t (h.length + 1) else [])) : Int) == (0 : Int)) = y0 ∧ True) else (True ∧ (True ∧ (True ∧ (if (!((!((decide ((0 : Int) ∈ ((if err7t p h [t] = 0 then greenTo p h t (h.length + 1) else [])))) == (decide ((List.length h : Int) ∈ ((if err7t p h [t] = 0 then greenTo p h t (h.length + 1) else [])))))) == ((bisE p h t) == (0 : Int)))) = true then (false = y0 ∧ True) else (if (!((decide ((0 : Int) ∈ ((if err7t p h [t] = 0 then greenTo p h t (h.length + 1) else [])))) == (decide ((List.length h : Int) ∈ ((if err7t p h [t] = 0 then greenTo p h t (h.length + 1) else [])))))) = true then (if (decide ((bisN p h t) < (0 : Int))) = true then (true = true ∧ (true = true ∧ (true = true ∧ (True ∧ (if (bif true then true else false) = true then (false = y0 ∧ True) else (True ∧ Λ4 (0 : Int) (0 : Int))))))) else (True ∧ (if (bif false then true else (decide ((bisN p h t) ≥ (List.length h : Int)))) = true then (true = true ∧ (true = true ∧ (True ∧ (if (bif true then true else false) = true then (false = y0 ∧ True) else (True ∧ Λ4 (0 : Int) (0 : Int)))))) else (True ∧ (True ∧ (True ∧ (if (bif false then true else (!((decide ((bisN p h t) ∈ ((if err7t p h [t] = 0 then greenTo p h t (h.length + 1) else [])))) == (decide ((0 : Int) ∈ ((if err7t p h [t] = 0 then greenTo p h t (h.length + 1) else []))))))) = true then (true = true ∧ (True ∧ (if (bif true then true else false) = true then (false = y0 ∧ True) else (True ∧ Λ4 (0 : Int) (0 : Int))))) else (inI ((bisN p h t) + (1 : Int)) ∧ (True ∧ (True ∧ (True ∧ (True ∧ (if (bif true then (bif false then true else ((decide (((bisN p h t) + (1 : Int)) ∈ ((if err7t p h [t] = 0 then greenTo p h t (h.length + 1) else [])))) == (decide ((bisN p h t) ∈ ((if err7t p h [t] = 0 then greenTo p h t (h.length + 1) else [])))))) else false) = true then (false = y0 ∧ True) else (True ∧ Λ4 (0 : Int) (0 : Int))))))))))))))) else (false = false ∧ (True ∧ Λ4 (0 : Int) (0 : Int))))))))))
def cTopStories_3 (Λ1 : Int → Prop) (Λ2 : Int → Prop) (Λ3 : Int → Int → (List (List Edt)) → Prop) (Λ4 : Int → Int → Prop) (p : (List Lin)) (h : (List (List Edt))) (t : Tst) (y0 : Bool) (i_2 : Int) (m_3 : Int) (few_3 : (List (List Edt))) : Prop :=
  if (decide (m_3 < (List.length (revL p h [i_2]) : Int))) = true then (idx m_3 (List.length (revL p h [i_2]) : Int) ∧ (if (decide ((List.getD (revL p h [i_2]) (Int.toNat m_3) 0) < (0 : Int))) = true then (true = true ∧ (true = true ∧ (false = y0 ∧ True))) else (idx m_3 (List.length (revL p h [i_2]) : Int) ∧ (True ∧ (if (bif false then true else (decide ((List.getD (revL p h [i_2]) (Int.toNat m_3) 0) ≥ (List.length h : Int)))) = true then (true = true ∧ (false = y0 ∧ True)) else (idx m_3 (List.length (revL p h [i_2]) : Int) ∧ (True ∧ (True ∧ (if (bif false then true else (decide ((List.getD (revL p h [i_2]) (Int.toNat m_3) 0) ∈ (neededV p h i_2)))) = true then (false = y0 ∧ True) else (idx m_3 (List.length (revL p h [i_2]) : Int) ∧ (idx (List.getD (revL p h [i_2]) (Int.toNat m_3) 0) (List.length h : Int) ∧ (List.length few_3 + List.length ([(List.getD h (Int.toNat (List.getD (revL p h [i_2]) (Int.toNat m_3) 0)) ([] : List Edt))]) ≤ 4294967296 ∧ (inI (m_3 + (1 : Int)) ∧ Λ3 i_2 (m_3 + (1 : Int)) (few_3 ++ [(List.getD h (Int.toNat (List.getD (revL p h [i_2]) (Int.toNat m_3) 0)) ([] : List Edt))])))))))))))))) else (True ∧ (if ((err7 p few_3) != (0 : Int)) = true then (true = true ∧ (false = y0 ∧ True)) else (((if err7 p few_3 = 0 then playH p few_3 else [])).length ≤ 1000000 ∧ (True ∧ (if (bif false then true else (!(decide (((if err7 p few_3 = 0 then playH p few_3 else [])) = (revP p h [i_2]))))) = true then (false = y0 ∧ True) else (inI (i_2 + (1 : Int)) ∧ Λ2 (i_2 + (1 : Int))))))))
def cTopStories_4 (Λ1 : Int → Prop) (Λ2 : Int → Prop) (Λ3 : Int → Int → (List (List Edt)) → Prop) (Λ4 : Int → Int → Prop) (p : (List Lin)) (h : (List (List Edt))) (t : Tst) (y0 : Bool)  (k_4 : Int) (i_4 : Int) : Prop :=
  if (decide (i_4 < (List.length h : Int))) = true then (True ∧ (if (decide (i_4 ∈ ((if err7t p h [t] = 0 then greenTo p h t (h.length + 1) else [])))) = true then (inI (i_4 + (1 : Int)) ∧ (True ∧ (True ∧ (if (bif true then (!(decide ((i_4 + (1 : Int)) ∈ ((if err7t p h [t] = 0 then greenTo p h t (h.length + 1) else []))))) else false) = true then (if (decide (k_4 ≥ (List.length (lossV p h [t]) : Int))) = true then (true = true ∧ (false = y0 ∧ True)) else (idx k_4 (List.length (lossV p h [t]) : Int) ∧ (True ∧ (if (bif false then true else (!(List.getD (List.getD (lossV p h [t]) (Int.toNat k_4) (List.replicate 2 0)) 0 0 == List.getD (List.set (List.set (List.replicate 2 0) 0 i_4) 1 0) 0 0 && List.getD (List.getD (lossV p h [t]) (Int.toNat k_4) (List.replicate 2 0)) 1 0 == List.getD (List.set (List.set (List.replicate 2 0) 0 i_4) 1 0) 1 0))) = true then (false = y0 ∧ True) else (inI (k_4 + (1 : Int)) ∧ (inI (i_4 + (1 : Int)) ∧ Λ4 (k_4 + (1 : Int)) (i_4 + (1 : Int)))))))) else (inI (i_4 + (1 : Int)) ∧ Λ4 k_4 (i_4 + (1 : Int))))))) else (false = false ∧ (inI (i_4 + (1 : Int)) ∧ Λ4 k_4 (i_4 + (1 : Int)))))) else (if ((err7t p h [t]) == (0 : Int)) = true then (True ∧ ((bif true then (k_4 == (List.length (lossV p h [t]) : Int)) else false) = y0 ∧ True)) else (false = false ∧ (false = y0 ∧ True)))
theorem cTopStories_law (h : ∀ (p : (List Lin)) (h : (List (List Edt))) (t : Tst), cTopStories.A.wf (p, h, t, ()) → ∀ (Λ1 : Int → Prop) (Λ2 : Int → Prop) (Λ3 : Int → Int → (List (List Edt)) → Prop) (Λ4 : Int → Int → Prop), (∀ (i_1 : Int), cTopStories_1 Λ1 Λ2 Λ3 Λ4 p h t true i_1 → Λ1 i_1) → (∀ (i_2 : Int), cTopStories_2 Λ1 Λ2 Λ3 Λ4 p h t true i_2 → Λ2 i_2) → (∀ (i_2 : Int) (m_3 : Int) (few_3 : (List (List Edt))), cTopStories_3 Λ1 Λ2 Λ3 Λ4 p h t true i_2 m_3 few_3 → Λ3 i_2 m_3 few_3) → (∀ (k_4 : Int) (i_4 : Int), cTopStories_4 Λ1 Λ2 Λ3 Λ4 p h t true k_4 i_4 → Λ4 k_4 i_4) → cTopStories_0 Λ1 Λ2 Λ3 Λ4 p h t true) : ConOK Go.Proofs.Try.prog 5 cTopStories := by
  refine lawX (X := { subs := [], frz := [], U := [], mul := [], nst := [], nls := [], itf := none, inp := [], arrs := [93] }) (hX := xok0 _ trivial) (Γ := [(41, cAt7), (47, cBisect7), (33, cCountG), (42, cDoE), (46, cGreen7), (45, cHas4), (37, cLastG), (34, cLong7), (48, cLossesV), (43, cNeededP), (35, cPlay), (38, cPlayOrd), (44, cRevertG), (39, cSameL4), (36, cVal7), (40, cWho)]) (Θ := Th) (n := 382) [([1, 1, 1, 1, 1, 1, 1, 1, 1, 0, 1, 0], ⟨[(0, false), (1, false), (5, true), (9, true), (13, true)], [(5, false), (61, true)]⟩), ([1, 1, 1, 1, 1, 1, 1, 1, 1, 1, 0, 1, 0], ⟨[(0, false), (1, false), (5, true), (17, true)], [(5, false)]⟩), ([1, 1, 1, 1, 1, 1, 1, 1, 1, 1, 0, 1, 0, 0, 1, 0, 0, 1, 1, 1, 1, 1, 1, 1, 1, 0, 1, 0], ⟨[(0, false), (1, false), (5, true), (17, true), (24, true), (26, true), (27, true), (29, true), (30, true), (173, true), (174, true), (177, true), (178, true), (181, true), (182, true), (183, true), (184, true), (205, true), (206, true), (209, true), (210, true), (211, true), (212, true), (213, true), (214, true), (215, false), (216, true), (217, true), (220, true), (221, true), (222, true)], [(5, false), (29, false), (158, true), (167, true), (198, true)]⟩), ([1, 1, 1, 1, 1, 1, 1, 1, 1, 1, 1, 1, 1, 1, 1, 1, 1, 1, 1, 0, 1, 0], ⟨[(1, false), (8, true), (33, true), (36, true), (37, true), (38, true)], []⟩)] ⟨cAt7_ok, cBisect7_ok, cCountG_ok, cDoE_ok, cGreen7_ok, cHas4_ok, cLastG_ok, cLong7_ok, cLossesV_ok, cNeededP_ok, cPlay_ok, cPlayOrd_ok, cRevertG_ok, cSameL4_ok, cVal7_ok, cWho_ok, trivial⟩ (by kernel_rfl) th_ok mix_ok Go.Proofs.Try.func5 (by kernel_rfl) ?_
  intro x hw hp Λ hC
  have h0 := h x.1 x.2.1 x.2.2.1 hw (fun i_1 => Λ [1, 1, 1, 1, 1, 1, 1, 1, 1, 0, 1, 0] ([(0, .d false (.sl tL) x.1), (1, .d false (.sl (.sl tEd)) x.2.1), (5, .ptr 5 0 []), (9, .own 61 0), (13, .d true .int i_1)], [(5, .box false tTs x.2.2.1), (61, .sl true tL ((if err7 x.1 x.2.1 = 0 then playH x.1 x.2.1 else [])))])) (fun i_2 => Λ [1, 1, 1, 1, 1, 1, 1, 1, 1, 1, 0, 1, 0] ([(0, .d false (.sl tL) x.1), (1, .d false (.sl (.sl tEd)) x.2.1), (5, .ptr 5 0 []), (17, .d true .int i_2)], [(5, .box false tTs x.2.2.1)])) (fun i_2 m_3 few_3 => Λ [1, 1, 1, 1, 1, 1, 1, 1, 1, 1, 0, 1, 0, 0, 1, 0, 0, 1, 1, 1, 1, 1, 1, 1, 1, 0, 1, 0] ([(0, .d false (.sl tL) x.1), (1, .d false (.sl (.sl tEd)) x.2.1), (5, .ptr 5 0 []), (17, .d true .int i_2), (24, .d true (.sl .int) (neededV x.1 x.2.1 i_2)), (26, .own 198 0), (27, .d true (.sl .int) (revL x.1 x.2.1 [i_2])), (29, .own 29 0), (30, .d true .int m_3), (173, .d true .int ((if err7 x.1 x.2.1 = 0 then argErr (within (i_2 + (1 : Int)) 0 (x.2.1.length : Int)) else err7 x.1 x.2.1))), (174, .d true .bool (((if err7 x.1 x.2.1 = 0 then argErr (within (i_2 + (1 : Int)) 0 (x.2.1.length : Int)) else err7 x.1 x.2.1)) != (0 : Int))), (177, .d true .int (errX ((if err7 x.1 x.2.1 = 0 ∧ within i_2 0 (x.2.1.length : Int) = true then playH x.1 (x.2.1.take (Int.toNat i_2)) else [])) (List.getD x.2.1 (Int.toNat i_2) ([] : List Edt)))), (178, .d true .bool ((errX ((if err7 x.1 x.2.1 = 0 ∧ within i_2 0 (x.2.1.length : Int) = true then playH x.1 (x.2.1.take (Int.toNat i_2)) else [])) (List.getD x.2.1 (Int.toNat i_2) ([] : List Edt))) != (0 : Int))), (181, .own 167 0), (182, .own 158 0), (183, .d true .bool (decide (((if errX ((if err7 x.1 x.2.1 = 0 ∧ within i_2 0 (x.2.1.length : Int) = true then playH x.1 (x.2.1.take (Int.toNat i_2)) else [])) (List.getD x.2.1 (Int.toNat i_2) ([] : List Edt)) = 0 then playX ((if err7 x.1 x.2.1 = 0 ∧ within i_2 0 (x.2.1.length : Int) = true then playH x.1 (x.2.1.take (Int.toNat i_2)) else [])) (List.getD x.2.1 (Int.toNat i_2) ([] : List Edt)) else [])) = ((if err7 x.1 x.2.1 = 0 ∧ within (i_2 + (1 : Int)) 0 (x.2.1.length : Int) = true then playH x.1 (x.2.1.take (Int.toNat (i_2 + (1 : Int)))) else []))))), (184, .d true .bool (!(decide (((if errX ((if err7 x.1 x.2.1 = 0 ∧ within i_2 0 (x.2.1.length : Int) = true then playH x.1 (x.2.1.take (Int.toNat i_2)) else [])) (List.getD x.2.1 (Int.toNat i_2) ([] : List Edt)) = 0 then playX ((if err7 x.1 x.2.1 = 0 ∧ within i_2 0 (x.2.1.length : Int) = true then playH x.1 (x.2.1.take (Int.toNat i_2)) else [])) (List.getD x.2.1 (Int.toNat i_2) ([] : List Edt)) else [])) = ((if err7 x.1 x.2.1 = 0 ∧ within (i_2 + (1 : Int)) 0 (x.2.1.length : Int) = true then playH x.1 (x.2.1.take (Int.toNat (i_2 + (1 : Int)))) else [])))))), (205, .d true .int (revE x.1 x.2.1 [i_2])), (206, .d true .bool ((revE x.1 x.2.1 [i_2]) != (0 : Int))), (209, .d true (.sl .int) (revL x.1 x.2.1 [i_2])), (210, .d true .int (List.length (revL x.1 x.2.1 [i_2]) : Int)), (211, .d true (.sl .int) (neededV x.1 x.2.1 i_2)), (212, .d true .int (List.length (neededV x.1 x.2.1 i_2) : Int)), (213, .d true .int ((List.length (revL x.1 x.2.1 [i_2]) : Int) + (List.length (neededV x.1 x.2.1 i_2) : Int))), (214, .d true .int (((List.length (revL x.1 x.2.1 [i_2]) : Int) + (List.length (neededV x.1 x.2.1 i_2) : Int)) + (1 : Int))), (215, .d false (.sl (.sl tEd)) x.2.1), (216, .d true .int (List.length x.2.1 : Int)), (217, .d true .bool ((((List.length (revL x.1 x.2.1 [i_2]) : Int) + (List.length (neededV x.1 x.2.1 i_2) : Int)) + (1 : Int)) != (List.length x.2.1 : Int))), (220, .d true (.sl .int) (revL x.1 x.2.1 [i_2])), (221, .d true .int i_2), (222, .d true .bool (decide (i_2 ∈ (revL x.1 x.2.1 [i_2]))))], [(5, .box false tTs x.2.2.1), (29, .sl false (.sl tEd) few_3), (158, .sl true tL ((if err7 x.1 x.2.1 = 0 ∧ within (i_2 + (1 : Int)) 0 (x.2.1.length : Int) = true then playH x.1 (x.2.1.take (Int.toNat (i_2 + (1 : Int)))) else []))), (167, .sl true tL ((if errX ((if err7 x.1 x.2.1 = 0 ∧ within i_2 0 (x.2.1.length : Int) = true then playH x.1 (x.2.1.take (Int.toNat i_2)) else [])) (List.getD x.2.1 (Int.toNat i_2) ([] : List Edt)) = 0 then playX ((if err7 x.1 x.2.1 = 0 ∧ within i_2 0 (x.2.1.length : Int) = true then playH x.1 (x.2.1.take (Int.toNat i_2)) else [])) (List.getD x.2.1 (Int.toNat i_2) ([] : List Edt)) else []))), (198, .sl true tL (revP x.1 x.2.1 [i_2]))])) (fun k_4 i_4 => Λ [1, 1, 1, 1, 1, 1, 1, 1, 1, 1, 1, 1, 1, 1, 1, 1, 1, 1, 1, 0, 1, 0] ([(1, .d false (.sl (.sl tEd)) x.2.1), (8, .d true .int (err7t x.1 x.2.1 [x.2.2.1])), (33, .d true (.sl .int) ((if err7t x.1 x.2.1 [x.2.2.1] = 0 then greenTo x.1 x.2.1 x.2.2.1 (x.2.1.length + 1) else []))), (36, .d true (.sl (.arr 2 .int)) (lossV x.1 x.2.1 [x.2.2.1])), (37, .d true .int k_4), (38, .d true .int i_4)], [])) (fun i_1 hb => hC [1, 1, 1, 1, 1, 1, 1, 1, 1, 0, 1, 0] ([(0, .d false (.sl tL) x.1), (1, .d false (.sl (.sl tEd)) x.2.1), (5, .ptr 5 0 []), (9, .own 61 0), (13, .d true .int i_1)], [(5, .box false tTs x.2.2.1), (61, .sl true tL ((if err7 x.1 x.2.1 = 0 then playH x.1 x.2.1 else [])))]) (Eq.mpr (by kernel_rfl) hb)) (fun i_2 hb => hC [1, 1, 1, 1, 1, 1, 1, 1, 1, 1, 0, 1, 0] ([(0, .d false (.sl tL) x.1), (1, .d false (.sl (.sl tEd)) x.2.1), (5, .ptr 5 0 []), (17, .d true .int i_2)], [(5, .box false tTs x.2.2.1)]) (Eq.mpr (by kernel_rfl) hb)) (fun i_2 m_3 few_3 hb => hC [1, 1, 1, 1, 1, 1, 1, 1, 1, 1, 0, 1, 0, 0, 1, 0, 0, 1, 1, 1, 1, 1, 1, 1, 1, 0, 1, 0] ([(0, .d false (.sl tL) x.1), (1, .d false (.sl (.sl tEd)) x.2.1), (5, .ptr 5 0 []), (17, .d true .int i_2), (24, .d true (.sl .int) (neededV x.1 x.2.1 i_2)), (26, .own 198 0), (27, .d true (.sl .int) (revL x.1 x.2.1 [i_2])), (29, .own 29 0), (30, .d true .int m_3), (173, .d true .int ((if err7 x.1 x.2.1 = 0 then argErr (within (i_2 + (1 : Int)) 0 (x.2.1.length : Int)) else err7 x.1 x.2.1))), (174, .d true .bool (((if err7 x.1 x.2.1 = 0 then argErr (within (i_2 + (1 : Int)) 0 (x.2.1.length : Int)) else err7 x.1 x.2.1)) != (0 : Int))), (177, .d true .int (errX ((if err7 x.1 x.2.1 = 0 ∧ within i_2 0 (x.2.1.length : Int) = true then playH x.1 (x.2.1.take (Int.toNat i_2)) else [])) (List.getD x.2.1 (Int.toNat i_2) ([] : List Edt)))), (178, .d true .bool ((errX ((if err7 x.1 x.2.1 = 0 ∧ within i_2 0 (x.2.1.length : Int) = true then playH x.1 (x.2.1.take (Int.toNat i_2)) else [])) (List.getD x.2.1 (Int.toNat i_2) ([] : List Edt))) != (0 : Int))), (181, .own 167 0), (182, .own 158 0), (183, .d true .bool (decide (((if errX ((if err7 x.1 x.2.1 = 0 ∧ within i_2 0 (x.2.1.length : Int) = true then playH x.1 (x.2.1.take (Int.toNat i_2)) else [])) (List.getD x.2.1 (Int.toNat i_2) ([] : List Edt)) = 0 then playX ((if err7 x.1 x.2.1 = 0 ∧ within i_2 0 (x.2.1.length : Int) = true then playH x.1 (x.2.1.take (Int.toNat i_2)) else [])) (List.getD x.2.1 (Int.toNat i_2) ([] : List Edt)) else [])) = ((if err7 x.1 x.2.1 = 0 ∧ within (i_2 + (1 : Int)) 0 (x.2.1.length : Int) = true then playH x.1 (x.2.1.take (Int.toNat (i_2 + (1 : Int)))) else []))))), (184, .d true .bool (!(decide (((if errX ((if err7 x.1 x.2.1 = 0 ∧ within i_2 0 (x.2.1.length : Int) = true then playH x.1 (x.2.1.take (Int.toNat i_2)) else [])) (List.getD x.2.1 (Int.toNat i_2) ([] : List Edt)) = 0 then playX ((if err7 x.1 x.2.1 = 0 ∧ within i_2 0 (x.2.1.length : Int) = true then playH x.1 (x.2.1.take (Int.toNat i_2)) else [])) (List.getD x.2.1 (Int.toNat i_2) ([] : List Edt)) else [])) = ((if err7 x.1 x.2.1 = 0 ∧ within (i_2 + (1 : Int)) 0 (x.2.1.length : Int) = true then playH x.1 (x.2.1.take (Int.toNat (i_2 + (1 : Int)))) else [])))))), (205, .d true .int (revE x.1 x.2.1 [i_2])), (206, .d true .bool ((revE x.1 x.2.1 [i_2]) != (0 : Int))), (209, .d true (.sl .int) (revL x.1 x.2.1 [i_2])), (210, .d true .int (List.length (revL x.1 x.2.1 [i_2]) : Int)), (211, .d true (.sl .int) (neededV x.1 x.2.1 i_2)), (212, .d true .int (List.length (neededV x.1 x.2.1 i_2) : Int)), (213, .d true .int ((List.length (revL x.1 x.2.1 [i_2]) : Int) + (List.length (neededV x.1 x.2.1 i_2) : Int))), (214, .d true .int (((List.length (revL x.1 x.2.1 [i_2]) : Int) + (List.length (neededV x.1 x.2.1 i_2) : Int)) + (1 : Int))), (215, .d false (.sl (.sl tEd)) x.2.1), (216, .d true .int (List.length x.2.1 : Int)), (217, .d true .bool ((((List.length (revL x.1 x.2.1 [i_2]) : Int) + (List.length (neededV x.1 x.2.1 i_2) : Int)) + (1 : Int)) != (List.length x.2.1 : Int))), (220, .d true (.sl .int) (revL x.1 x.2.1 [i_2])), (221, .d true .int i_2), (222, .d true .bool (decide (i_2 ∈ (revL x.1 x.2.1 [i_2]))))], [(5, .box false tTs x.2.2.1), (29, .sl false (.sl tEd) few_3), (158, .sl true tL ((if err7 x.1 x.2.1 = 0 ∧ within (i_2 + (1 : Int)) 0 (x.2.1.length : Int) = true then playH x.1 (x.2.1.take (Int.toNat (i_2 + (1 : Int)))) else []))), (167, .sl true tL ((if errX ((if err7 x.1 x.2.1 = 0 ∧ within i_2 0 (x.2.1.length : Int) = true then playH x.1 (x.2.1.take (Int.toNat i_2)) else [])) (List.getD x.2.1 (Int.toNat i_2) ([] : List Edt)) = 0 then playX ((if err7 x.1 x.2.1 = 0 ∧ within i_2 0 (x.2.1.length : Int) = true then playH x.1 (x.2.1.take (Int.toNat i_2)) else [])) (List.getD x.2.1 (Int.toNat i_2) ([] : List Edt)) else []))), (198, .sl true tL (revP x.1 x.2.1 [i_2]))]) (Eq.mpr (by kernel_rfl) hb)) (fun k_4 i_4 hb => hC [1, 1, 1, 1, 1, 1, 1, 1, 1, 1, 1, 1, 1, 1, 1, 1, 1, 1, 1, 0, 1, 0] ([(1, .d false (.sl (.sl tEd)) x.2.1), (8, .d true .int (err7t x.1 x.2.1 [x.2.2.1])), (33, .d true (.sl .int) ((if err7t x.1 x.2.1 [x.2.2.1] = 0 then greenTo x.1 x.2.1 x.2.2.1 (x.2.1.length + 1) else []))), (36, .d true (.sl (.arr 2 .int)) (lossV x.1 x.2.1 [x.2.2.1])), (37, .d true .int k_4), (38, .d true .int i_4)], []) (Eq.mpr (by kernel_rfl) hb))
  exact Eq.mpr (by kernel_rfl) h0
theorem cTopStories_ok : ConOK Go.Proofs.Try.prog 5 cTopStories := by
  refine cTopStories_law ?_
  intro p h t hw Λ1 Λ2 Λ3 Λ4 h1 h2 h3 h4
  unfold cTopStories_0
  have hll : ∀ n : Nat, n ≤ 8 → inI ((n : Int) + 1) := fun n hn => by unfold inI; omega
  have l4 : err7t p h [t] = 0 → Λ4 0 0 := by
    intro et
    obtain ⟨e, _⟩ := err7t_ok et
    obtain ⟨e1, e2, e3, e4⟩ := err7_ok e
    have hV : lossV p h [t] = lossTo p h [t] h.length := by unfold lossV; rw [if_pos et]
    have h64 := lossV_len p h [t]
    have key : ∀ i, i ≤ h.length → Λ4 ((lossTo p h [t] i).length : Int) (i : Int) := by
      refine upto ?_ ?_
      · apply h4; unfold cTopStories_4
        rw [if_neg (by simp), if_pos (by simp [et]), hV]
        exact ⟨trivial, by simp, trivial⟩
      · intro i hi ih
        have hle : (lossTo p h [t] i).length ≤ 64 := lossTo_small e2 (by simp) (by omega)
        apply h4; unfold cTopStories_4
        have g1 := green_has p h t (k := i) (by omega)
        have g2 := green_has p h t (k := i + 1) (by omega)
        have ei : ((i : Int) + 1) = ((i + 1 : Nat) : Int) := by omega
        rw [if_pos (by simpa using hi), if_pos et, g1, ei, g2, hV, Int.toNat_natCast]
        refine ⟨trivial, ?_⟩
        have nI : inI ((i + 1 : Nat) : Int) := by unfold inI; omega
        cases c1 : okAt p h t i
        · rw [loss_no (by rw [c1]; rfl)] at ih
          rw [if_neg (by simp)]
          exact ⟨rfl, nI, ih⟩
        · rw [if_pos (by rfl)]
          refine ⟨nI, trivial, trivial, ?_⟩
          cases c2 : okAt p h t (i + 1)
          · obtain ⟨k1, k2, k3⟩ := loss_at hi c1 c2
            rw [k3] at ih
            rw [if_pos (by rfl), if_neg (by rw [decide_eq_true_eq]; omega), k2]
            refine ⟨by unfold idx; omega, trivial, ?_⟩
            rw [if_neg (by simp [pairI])]
            exact ⟨by unfold inI; omega, nI, by rw [show (((lossTo p h [t] i).length : Int) + 1) = (((lossTo p h [t] i).length + 1 : Nat) : Int) by omega]; exact ih⟩
          · rw [loss_no (by rw [c1, c2]; rfl)] at ih
            rw [if_neg (by simp)]
            exact ⟨nI, ih⟩
    exact key 0 (Nat.zero_le _)
  have l2 : err7 p h = 0 → Λ2 0 := by
    intro e
    obtain ⟨e1, e2, e3, e4⟩ := err7_ok e
    have p8 := (validP_ok e1).1
    refine upto (n := h.length) (Q := fun i => Λ2 (i : Int)) ?_ ?_ 0 (Nat.zero_le _)
    · apply h2; unfold cTopStories_2
      rw [if_neg (by simp)]
      refine ⟨trivial, ?_⟩
      by_cases et : err7t p h [t] = 0
      · have hl4 := l4 et
        have g0 := green_has p h t (k := 0) (Nat.zero_le _)
        have gl := green_has p h t (k := h.length) (Nat.le_refl _)
        have g0' : decide ((0 : Int) ∈ greenTo p h t (h.length + 1)) = okAt p h t 0 := g0
        rw [if_neg (by simp [et])]
        refine ⟨trivial, trivial, trivial, ?_⟩
        rw [if_pos et, g0', gl]
        by_cases c : (okAt p h t h.length == okAt p h t 0) = true
        · have hE : bisE p h t = 8 := by unfold bisE; rw [if_pos et, if_pos c]
          have hc : (okAt p h t 0 == okAt p h t h.length) = true := by rw [beq_iff_eq]; exact (eq_of_beq c).symm
          rw [hE, hc]
          rw [if_neg (by decide), if_neg (by simp)]
          exact ⟨rfl, trivial, hl4⟩
        · have hE : bisE p h t = 0 := by unfold bisE; rw [if_pos et, if_neg c]
          have hN : bisN p h t = (bisT p h t h.length 0 h.length : Int) := by unfold bisN; rw [if_pos et, if_neg c]
          have hne : okAt p h t h.length ≠ okAt p h t 0 := fun q => c (by rw [q]; simp)
          have hpos : 0 < h.length := by
            apply Classical.byContradiction
            intro q
            exact hne (by rw [show h.length = 0 by omega])
          obtain ⟨b1, b2, b3⟩ := bisT_spec p h t h.length 0 h.length (by omega) hpos rfl hne
          have hc : (okAt p h t 0 == okAt p h t h.length) = false := by rw [beq_eq_false_iff_ne]; exact fun q => hne q.symm
          have gb := green_has p h t (k := bisT p h t h.length 0 h.length) (by omega)
          have gb1 := green_has p h t (k := bisT p h t h.length 0 h.length + 1) (by omega)
          have ei : (((bisT p h t h.length 0 h.length : Nat) : Int) + 1) = ((bisT p h t h.length 0 h.length + 1 : Nat) : Int) := by omega
          have b4 : (okAt p h t (bisT p h t h.length 0 h.length + 1) == okAt p h t 0) = false := by rw [beq_eq_false_iff_ne]; exact b3
          rw [hE, hc, hN]
          rw [if_neg (by decide), if_pos (by rfl), if_neg (by rw [decide_eq_true_eq]; omega)]
          refine ⟨trivial, ?_⟩
          rw [if_neg (by simp; omega)]
          refine ⟨trivial, trivial, trivial, ?_⟩
          rw [gb, b2, if_neg (by simp), ei, gb1]
          refine ⟨by unfold inI; omega, trivial, trivial, trivial, trivial, ?_⟩
          rw [b4, if_neg (by simp)]
          exact ⟨trivial, hl4⟩
      · rw [if_pos (by simpa using et), if_neg et]
        exact ⟨rfl, trivial⟩
    · intro i hi ih
      have hi8 : i < 8 := by omega
      have w1 : within (i : Int) 0 (h.length : Int) = true := within_iff.2 ⟨by omega, by omega⟩
      have w2 : within ((i : Int) + 1) 0 (h.length : Int) = true := within_iff.2 ⟨by omega, by omega⟩
      have w3 : within (i : Int) 0 ((h.length : Int) - 1) = true := within_iff.2 ⟨by omega, by omega⟩
      have hm : h.getD i [] ∈ h := mem_getD hi
      have hvx := errH_valid (n := p.length) (h := h) (by have := e; unfold err7 at this; rw [if_pos e1, if_neg (by omega)] at this; exact this) _ hm
      have hX : errX (playH p (h.take i)) (h.getD i []) = 0 := errX_mk (playH_valid e i) hvx (fun q hq => by rw [playH_len]; exact e3 _ hm q hq)
      have hP := playH_take p h hi
      have hN : nE p h (i : Int) = 0 := nE_iff.2 ⟨e, w3⟩
      have hS : isSetB [(i : Int)] h.length = true := by
        unfold isSetB
        simp [okSet]
        omega
      have hS7 : okS7 p h [(i : Int)] := ⟨e, hS⟩
      have hR : revE p h [(i : Int)] = 0 := revE_iff.2 hS7
      have hL : revL p h [(i : Int)] = leftN h [(i : Int)] h.length := by unfold revL; rw [if_pos hS7]
      have hRP : revP p h [(i : Int)] = playH p (leftH h [(i : Int)] h.length) := by unfold revP; rw [if_pos hS7]
      have hND : neededV p h (i : Int) = neededL h i := by unfold neededV; rw [if_pos ⟨e, w3⟩, Int.toNat_natCast]
      have hcnt := part_count h i h.length
      rw [if_pos hi] at hcnt
      have hcnt : (leftN h [(i : Int)] h.length).length + (neededL h i).length + 1 = h.length := hcnt
      have hin : ¬ (i : Int) ∈ leftN h [(i : Int)] h.length := by
        unfold leftN
        rw [selTo_has]
        rintro ⟨_, q⟩
        simp [goneB] at q
      have hmem : ∀ x ∈ leftN h [(i : Int)] h.length, 0 ≤ x ∧ x < (h.length : Int) ∧ ¬ x ∈ neededL h i := by
        intro x hx
        unfold leftN at hx
        obtain ⟨k, k1, rfl, k2⟩ := selTo_mem.1 hx
        refine ⟨by omega, by omega, ?_⟩
        unfold neededL
        rw [selTo_has]
        rintro ⟨_, q⟩
        simp [goneB, q] at k2
      have hl3 : Λ3 (i : Int) 0 [] := by
        have key : ∀ m, m ≤ (leftN h [(i : Int)] h.length).length → Λ3 (i : Int) (m : Int) (((leftN h [(i : Int)] h.length).take m).map fun k => h.getD k.toNat []) := by
          refine upto ?_ ?_
          · apply h3; unfold cTopStories_3
            rw [hL, if_neg (by simp), List.take_length, ← leftH_map, hRP]
            have hf : err7 p (leftH h [(i : Int)] h.length) = 0 := err7_sub e (leftH_mem (Nat.le_refl _)) (by have := leftH_len h [(i : Int)] h.length; omega)
            refine ⟨trivial, ?_⟩
            rw [if_neg (by simp [hf]), if_pos hf]
            refine ⟨by rw [playH_len]; omega, trivial, ?_⟩
            rw [if_neg (by simp)]
            exact ⟨hll i (by omega), ih⟩
          · intro m hm2 ihm
            have hx := hmem _ (mem_getD (d := 0) hm2)
            rw [take_snoc 0 hm2, List.map_append] at ihm
            apply h3; unfold cTopStories_3
            rw [hL, hND, if_pos (by simpa using hm2), Int.toNat_natCast]
            refine ⟨idx_nat hm2, ?_⟩
            rw [if_neg (by rw [decide_eq_true_eq]; omega)]
            refine ⟨idx_nat hm2, trivial, ?_⟩
            rw [if_neg (by show ¬ decide _ = true; rw [decide_eq_true_eq]; omega)]
            refine ⟨idx_nat hm2, trivial, trivial, ?_⟩
            rw [if_neg (by rw [decide_eq_false hx.2.2]; simp)]
            exact ⟨idx_nat hm2, by unfold idx; omega, by simp; omega, hll m (by omega), ihm⟩
        exact key 0 (Nat.zero_le _)
      apply h2; unfold cTopStories_2
      have ei : ((i : Int) + 1).toNat = i + 1 := by omega
      rw [if_pos (by simpa using hi), Int.toNat_natCast, ei, if_pos e, if_pos e, w1, w2, if_pos (show err7 p h = 0 ∧ true = true from ⟨e, rfl⟩), if_pos (show err7 p h = 0 ∧ true = true from ⟨e, rfl⟩), if_pos hX, hX, hP]
      refine ⟨trivial, hll i (by omega), trivial, idx_nat hi, trivial, ?_⟩
      rw [if_neg (by simp [argErr])]
      refine ⟨trivial, ?_⟩
      rw [if_neg (by simp [argErr])]
      refine ⟨trivial, ?_⟩
      rw [if_neg (by simp)]
      refine ⟨by rw [playX_len, playH_len]; omega, trivial, ?_⟩
      rw [if_neg (by simp)]
      refine ⟨trivial, trivial, ?_⟩
      rw [if_neg (by simp [hN])]
      refine ⟨trivial, ?_⟩
      rw [if_neg (by simp [hR]), hL, hND]
      refine ⟨by unfold inI; omega, by unfold inI; omega, trivial, ?_⟩
      rw [if_neg (by simp; omega)]
      refine ⟨trivial, trivial, ?_⟩
      rw [if_neg (by rw [decide_eq_false hin]; simp)]
      exact hl3
  have l1 : err7 p h = 0 → Λ1 0 := by
    intro e
    obtain ⟨e1, e2, e3, e4⟩ := err7_ok e
    have p8 := (validP_ok e1).1
    refine upto (n := p.length) (Q := fun i => Λ1 (i : Int)) ?_ ?_ 0 (Nat.zero_le _)
    · apply h1; unfold cTopStories_1
      rw [if_neg (by simp)]
      exact l2 e
    · intro i hi ih
      have w1 : within (i : Int) 0 ((p.length : Int) - 1) = true := within_iff.2 ⟨by omega, by omega⟩
      have hE : whoE p h (i : Int) = 0 := whoE_iff.2 ⟨e, w1⟩
      have hB : whoB p h (i : Int) = (lastT h (i : Int) h.length).isSome := by unfold whoB; rw [if_pos ⟨e, w1⟩]
      have hN : whoN p h (i : Int) = natO (lastT h (i : Int) h.length) := by unfold whoN; rw [if_pos ⟨e, w1⟩]
      have hg := playH_get e3 hi h.length (Nat.le_refl _)
      rw [List.take_length] at hg
      apply h1; unfold cTopStories_1
      rw [if_pos (by simpa using hi), hE, hB, hN, if_pos e, Int.toNat_natCast, eqL]
      refine ⟨trivial, ?_⟩
      rw [if_neg (by simp)]
      have nI := hll i (by omega)
      cases c : lastT h (i : Int) h.length with
      | some m =>
        have hm := (lastT_lt c).1
        have hz : ¬ ((m : Int) < 0) := by omega
        have hz2 : ¬ ((m : Int) ≥ (h.length : Int)) := by omega
        simp only [natO, Option.isSome_some, decide_eq_false hz, decide_eq_false hz2]
        simp [nI]
        exact ⟨decide_eq_false hz, hm, ih⟩
      | none =>
        rw [c] at hg
        have hg : List.getD (playH p h) i tL.dflt = List.getD p i tL.dflt := hg
        have hil : idx (i : Int) ((playH p h).length : Int) := by rw [playH_len]; exact idx_nat hi
        simp only [natO, Option.isSome_none, hg]
        simp [nI, hil, idx_nat hi]
        exact ih
  refine ⟨trivial, ?_⟩
  rw [if_neg (by decide +kernel)]
  refine ⟨trivial, ?_⟩
  rw [if_neg (by decide +kernel)]
  refine ⟨trivial, ?_⟩
  cases c : (decide (∃ x' ∈ h, 50 < x'.length) || decide (100 < p.length) || decide (50 < h.length))
  · rw [if_neg (by simp)]
    refine ⟨trivial, ?_⟩
    cases d : (decide ((t.1.length : Int) > 50))
    · rw [if_neg (by simp)]
      refine ⟨trivial, ?_⟩
      by_cases e : err7 p h = 0
      · obtain ⟨e1, e2, e3, e4⟩ := err7_ok e
        have p8 := (validP_ok e1).1
        have hl1 := l1 e
        have hO : lastO p h = lastL h := by unfold lastO; rw [if_pos e]
        have hE := lastL_ok (p := p) e
        obtain ⟨_, k1, k2⟩ := ordE_iff.1 hE
        have hV : ordV p h (lastL h) = playH p h := by unfold ordV; rw [if_pos hE]; exact play_order e3 k1 k2
        have hl : (playH p h).length ≤ 1000000 := by rw [playH_len]; omega
        simp [e, hO, hE, hV, hl, hl1]
      · simp [e]
    · simp
  · simp
end Go.Tk
