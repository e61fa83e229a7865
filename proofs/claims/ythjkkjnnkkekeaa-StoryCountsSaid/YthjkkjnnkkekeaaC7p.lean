import Derived.Test.YthjkkjnnkkekeaaP7o
set_option linter.unusedSimpArgs false
set_option linter.unusedVariables false
set_option linter.unnecessarySimpa false
namespace Go.Tk
open Go Go.RowKit

theorem drop_getD {α : Type} (l : List α) (a j : Nat) (d : α) : (l.drop a).getD j d = l.getD (a + j) d := by
  simp [List.getD_eq_getElem?_getD, List.getElem?_drop]
theorem drop_cons {α : Type} {l : List α} {i : Nat} (d : α) (h : i < l.length) : l.drop i = l.getD i d :: l.drop (i + 1) := by
  rw [List.drop_eq_getElem_cons h]; simp [List.getD_eq_getElem?_getD, h]
theorem keepsB_cons (h : List (List Edt)) (n : Int) (l : List Int) : keepsB h (n :: l) = (!(l.any fun k => decide (k < n) && touchB h k n) && keepsB h l) := rfl
theorem keepsR_cons (h : List (List Edt)) (n : Int) (l : List Int) : keepsR h (n :: l) = (!(l.any fun k => need h n.toNat k.toNat) && keepsR h l) := rfl
theorem ordE_bad {p : List Lin} {h : List (List Edt)} {o : List Int} (e : err7 p h = 0) (c : ¬ (o.length = h.length ∧ permB o h.length = true)) : (1 : Int) = ordE p h o := by
  unfold ordE
  rw [if_pos e, if_neg c]
theorem ordE_good {p : List Lin} {h : List (List Edt)} {o : List Int} (e : err7 p h = 0) (c : Perm7 o h.length) : ordE p h o = if keepsB h o = true then 0 else 7 := by
  unfold ordE
  rw [if_pos e, if_pos ⟨c.len, permB_of fun k hk => (c.mem k).2 ⟨by omega, by omega⟩⟩]

abbrev cKeeps7 : Con := { A := (.cons (.sl (.sl tEd)) (.cons (.sl .int) .nil)), R := (.cons .bool .nil), pre := fun x => ∀ n' ∈ x.2.1, 0 ≤ n' ∧ n' < (x.1.length : Int), F := fun x => (keepsB x.1 x.2.1, ()) }
def cKeeps7_0 (Λ1 : Int → Prop) (Λ2 : Int → Int → Prop) (h : (List (List Edt))) (order : (List Int)) (y0 : Bool) : Prop :=
  Λ1 (0 : Int)
def cKeeps7_1 (Λ1 : Int → Prop) (Λ2 : Int → Int → Prop) (h : (List (List Edt))) (order : (List Int)) (y0 : Bool)  (t11_1 : Int) : Prop :=
  if (decide (t11_1 < (List.length order : Int))) = true then (idx t11_1 (List.length order : Int) ∧ (inI (t11_1 + (1 : Int)) ∧ ((0 ≤ (t11_1 + (1 : Int)) ∧ (t11_1 + (1 : Int)) ≤ (List.length order : Int) ∧ (List.length order : Int) ≤ (List.length order : Int) ∧ (List.length order : Int) ≤ (List.length order : Int)) ∧ Λ2 t11_1 (0 : Int)))) else (true = y0 ∧ True)
def cKeeps7_2 (Λ1 : Int → Prop) (Λ2 : Int → Int → Prop) (h : (List (List Edt))) (order : (List Int)) (y0 : Bool) (t11_1 : Int) (t21_2 : Int) : Prop :=
  if (decide (t21_2 < (List.length (List.drop (Int.toNat (t11_1 + (1 : Int))) (List.take (Int.toNat (List.length order : Int)) order)) : Int))) = true then (idx t21_2 (List.length (List.drop (Int.toNat (t11_1 + (1 : Int))) (List.take (Int.toNat (List.length order : Int)) order)) : Int) ∧ (if (decide ((List.getD (List.drop (Int.toNat (t11_1 + (1 : Int))) (List.take (Int.toNat (List.length order : Int)) order)) (Int.toNat t21_2) 0) < (List.getD order (Int.toNat t11_1) 0))) = true then ((0 ≤ (List.getD (List.drop (Int.toNat (t11_1 + (1 : Int))) (List.take (Int.toNat (List.length order : Int)) order)) (Int.toNat t21_2) 0) ∧ (List.getD (List.drop (Int.toNat (t11_1 + (1 : Int))) (List.take (Int.toNat (List.length order : Int)) order)) (Int.toNat t21_2) 0) < (h.length : Int) ∧ 0 ≤ (List.getD order (Int.toNat t11_1) 0) ∧ (List.getD order (Int.toNat t11_1) 0) < (h.length : Int)) ∧ (True ∧ (if (bif true then (touchB h (List.getD (List.drop (Int.toNat (t11_1 + (1 : Int))) (List.take (Int.toNat (List.length order : Int)) order)) (Int.toNat t21_2) 0) (List.getD order (Int.toNat t11_1) 0)) else false) = true then (false = y0 ∧ True) else (inI (t21_2 + (1 : Int)) ∧ Λ2 t11_1 (t21_2 + (1 : Int)))))) else (false = false ∧ (inI (t21_2 + (1 : Int)) ∧ Λ2 t11_1 (t21_2 + (1 : Int)))))) else (inI (t11_1 + (1 : Int)) ∧ Λ1 (t11_1 + (1 : Int)))
theorem cKeeps7_law (h : ∀ (h : (List (List Edt))) (order : (List Int)), cKeeps7.A.wf (h, order, ()) → (∀ n' ∈ order, 0 ≤ n' ∧ n' < (h.length : Int)) → ∀ (Λ1 : Int → Prop) (Λ2 : Int → Int → Prop), (∀ (t11_1 : Int), cKeeps7_1 Λ1 Λ2 h order (keepsB h order) t11_1 → Λ1 t11_1) → (∀ (t11_1 : Int) (t21_2 : Int), cKeeps7_2 Λ1 Λ2 h order (keepsB h order) t11_1 t21_2 → Λ2 t11_1 t21_2) → cKeeps7_0 Λ1 Λ2 h order (keepsB h order)) : ConOK Go.Proofs.Try.prog 102 cKeeps7 := by
  refine lawL (Γ := [(96, cTouch)]) (Θ := Th) (n := 36) [([1, 0, 1, 0], ⟨[(0, false), (1, false), (9, false), (10, true), (11, true)], []⟩), ([1, 0, 1, 0, 0, 1, 1, 0, 0, 1, 1, 0], ⟨[(0, false), (1, false), (6, false), (9, false), (10, true), (11, true), (19, false), (20, true), (21, true)], []⟩)] ⟨cTouch_ok, trivial⟩ (by kernel_rfl) th_ok mix_ok Go.Proofs.Try.func102 (by kernel_rfl) ?_
  intro x hw hp Λ hC
  have h0 := h x.1 x.2.1 hw hp (fun t11_1 => Λ [1, 0, 1, 0] ([(0, .d false (.sl (.sl tEd)) x.1), (1, .d false (.sl .int) x.2.1), (9, .d false (.sl .int) x.2.1), (10, .d true .int (List.length x.2.1 : Int)), (11, .d true .int t11_1)], [])) (fun t11_1 t21_2 => Λ [1, 0, 1, 0, 0, 1, 1, 0, 0, 1, 1, 0] ([(0, .d false (.sl (.sl tEd)) x.1), (1, .d false (.sl .int) x.2.1), (6, .d false .int (List.getD x.2.1 (Int.toNat t11_1) 0)), (9, .d false (.sl .int) x.2.1), (10, .d true .int (List.length x.2.1 : Int)), (11, .d true .int t11_1), (19, .d false (.sl .int) (List.drop (Int.toNat (t11_1 + (1 : Int))) (List.take (Int.toNat (List.length x.2.1 : Int)) x.2.1))), (20, .d true .int (List.length (List.drop (Int.toNat (t11_1 + (1 : Int))) (List.take (Int.toNat (List.length x.2.1 : Int)) x.2.1)) : Int)), (21, .d true .int t21_2)], [])) (fun t11_1 hb => hC [1, 0, 1, 0] ([(0, .d false (.sl (.sl tEd)) x.1), (1, .d false (.sl .int) x.2.1), (9, .d false (.sl .int) x.2.1), (10, .d true .int (List.length x.2.1 : Int)), (11, .d true .int t11_1)], []) (Eq.mpr (by kernel_rfl) hb)) (fun t11_1 t21_2 hb => hC [1, 0, 1, 0, 0, 1, 1, 0, 0, 1, 1, 0] ([(0, .d false (.sl (.sl tEd)) x.1), (1, .d false (.sl .int) x.2.1), (6, .d false .int (List.getD x.2.1 (Int.toNat t11_1) 0)), (9, .d false (.sl .int) x.2.1), (10, .d true .int (List.length x.2.1 : Int)), (11, .d true .int t11_1), (19, .d false (.sl .int) (List.drop (Int.toNat (t11_1 + (1 : Int))) (List.take (Int.toNat (List.length x.2.1 : Int)) x.2.1))), (20, .d true .int (List.length (List.drop (Int.toNat (t11_1 + (1 : Int))) (List.take (Int.toNat (List.length x.2.1 : Int)) x.2.1)) : Int)), (21, .d true .int t21_2)], []) (Eq.mpr (by kernel_rfl) hb))
  exact Eq.mpr (by kernel_rfl) h0
theorem cKeeps7_ok : ConOK Go.Proofs.Try.prog 102 cKeeps7 := by
  refine cKeeps7_law ?_
  intro h order hw hp Λ1 Λ2 h1 h2
  unfold cKeeps7_0
  have hol : order.length ≤ 140737488355328 := hw.2.1.1
  refine upto (n := order.length) (Q := fun i => keepsB h order = keepsB h (order.drop i) → Λ1 (i : Int)) ?_ ?_ 0 (Nat.zero_le _) rfl
  · intro ha
    rw [List.drop_length] at ha
    apply h1; unfold cKeeps7_1; rw [if_neg (by simp)]
    exact ⟨by rw [ha]; rfl, trivial⟩
  · intro i hi ih ha
    rw [drop_cons 0 hi, keepsB_cons] at ha
    have hn := hp _ (mem_getD (d := 0) hi)
    have e1 : ((i : Int) + 1).toNat = i + 1 := by omega
    apply h1; unfold cKeeps7_1; rw [if_pos (by simpa using hi)]
    refine ⟨idx_nat hi, inI_succ hi hol, ⟨by omega, by omega, by omega, by omega⟩, ?_⟩
    refine upto (n := (order.drop (i + 1)).length) (Q := fun k => (((order.drop (i + 1)).take k).any fun k => decide (k < order.getD i 0) && touchB h k (order.getD i 0)) = false → Λ2 (i : Int) (k : Int)) ?_ ?_ 0 (Nat.zero_le _) rfl
    · intro hb
      rw [List.take_length] at hb
      apply h2; unfold cKeeps7_2
      rw [Int.toNat_natCast, List.take_length, e1, if_neg (by simp)]
      refine ⟨inI_succ hi hol, ih ?_⟩
      rw [ha, hb]; rfl
    · intro k hk ihk hb
      have hk2 := hp _ (List.mem_of_mem_drop (mem_getD (d := 0) hk))
      have hdl : (order.drop (i + 1)).length ≤ 140737488355328 := by rw [List.length_drop]; omega
      have nx := any_take_next (p := fun k => decide (k < order.getD i 0) && touchB h k (order.getD i 0)) 0 hk hb
      apply h2; unfold cKeeps7_2
      rw [Int.toNat_natCast, List.take_length, e1, Int.toNat_natCast, Int.toNat_natCast, if_pos (by rw [decide_eq_true_eq]; omega)]
      refine ⟨idx_nat hk, ?_⟩
      by_cases c : (order.drop (i + 1)).getD k 0 < order.getD i 0
      · rw [if_pos (decide_eq_true c)]
        refine ⟨⟨hk2.1, hk2.2, hn.1, hn.2⟩, trivial, ?_⟩
        cases t : touchB h ((order.drop (i + 1)).getD k 0) (order.getD i 0)
        · rw [if_neg (by simp)]
          exact ⟨inI_succ hk hdl, ihk (nx (by rw [t, Bool.and_false]))⟩
        · rw [if_pos (by rfl)]
          refine ⟨?_, trivial⟩
          rw [ha, List.any_eq_true.2 ⟨_, mem_getD (d := 0) hk, by rw [decide_eq_true c, t]; rfl⟩]; rfl
      · rw [if_neg (by rw [decide_eq_true_eq]; exact c)]
        exact ⟨rfl, inI_succ hk hdl, ihk (nx (by rw [decide_eq_false c, Bool.false_and]))⟩
abbrev cOrdered7 : Con := { A := (.cons (.sl tL) (.cons (.sl (.sl tEd)) (.cons (.sl .int) .nil))), R := (.cons .int .nil), pre := fun x => True, F := fun x => (ordE x.1 x.2.1 x.2.2.1, ()) }
def cOrdered7_0 (Λ1 : Int → Prop) (p : (List Lin)) (h : (List (List Edt))) (order : (List Int)) (y0 : Int) : Prop :=
  True ∧ (if ((err7 p h) != (0 : Int)) = true then ((err7 p h) = y0 ∧ True) else (if ((List.length order : Int) != (List.length h : Int)) = true then ((1 : Int) = y0 ∧ True) else Λ1 (0 : Int)))
def cOrdered7_1 (Λ1 : Int → Prop) (p : (List Lin)) (h : (List (List Edt))) (order : (List Int)) (y0 : Int)  (t22_1 : Int) : Prop :=
  if (decide (t22_1 < (List.length h : Int))) = true then (True ∧ (if (!(decide (t22_1 ∈ order))) = true then ((1 : Int) = y0 ∧ True) else (inI (t22_1 + (1 : Int)) ∧ Λ1 (t22_1 + (1 : Int))))) else ((∀ n' ∈ order, 0 ≤ n' ∧ n' < (h.length : Int)) ∧ (if (!(keepsB h order)) = true then ((7 : Int) = y0 ∧ True) else ((0 : Int) = y0 ∧ True)))
theorem cOrdered7_law (h : ∀ (p : (List Lin)) (h : (List (List Edt))) (order : (List Int)), cOrdered7.A.wf (p, h, order, ()) → ∀ (Λ1 : Int → Prop), (∀ (t22_1 : Int), cOrdered7_1 Λ1 p h order (ordE p h order) t22_1 → Λ1 t22_1) → cOrdered7_0 Λ1 p h order (ordE p h order)) : ConOK Go.Proofs.Try.prog 81 cOrdered7 := by
  refine lawL (Γ := [(63, cContN), (102, cKeeps7), (32, cVal7)]) (Θ := Th) (n := 34) [([1, 1, 1, 0, 1, 0], ⟨[(1, false), (2, false), (21, true), (22, true)], []⟩)] ⟨cContN_ok, cKeeps7_ok, cVal7_ok, trivial⟩ (by kernel_rfl) th_ok mix_ok Go.Proofs.Try.func81 (by kernel_rfl) ?_
  intro x hw hp Λ hC
  have h0 := h x.1 x.2.1 x.2.2.1 hw (fun t22_1 => Λ [1, 1, 1, 0, 1, 0] ([(1, .d false (.sl (.sl tEd)) x.2.1), (2, .d false (.sl .int) x.2.2.1), (21, .d true .int (List.length x.2.1 : Int)), (22, .d true .int t22_1)], [])) (fun t22_1 hb => hC [1, 1, 1, 0, 1, 0] ([(1, .d false (.sl (.sl tEd)) x.2.1), (2, .d false (.sl .int) x.2.2.1), (21, .d true .int (List.length x.2.1 : Int)), (22, .d true .int t22_1)], []) (Eq.mpr (by kernel_rfl) hb))
  exact Eq.mpr (by kernel_rfl) h0
theorem cOrdered7_ok : ConOK Go.Proofs.Try.prog 81 cOrdered7 := by
  refine cOrdered7_law ?_
  intro p h order hw Λ1 h1
  unfold cOrdered7_0
  refine ⟨trivial, ?_⟩
  by_cases e : err7 p h = 0
  · rw [if_neg (by simp [e])]
    have h8 := (err7_ok e).2.1
    by_cases l : order.length = h.length
    · rw [if_neg (by simp [l])]
      refine upto (n := h.length) (Q := fun i => (∀ k : Nat, k < i → (k : Int) ∈ order) → Λ1 (i : Int)) ?_ ?_ 0 (Nat.zero_le _) (fun k hk => by omega)
      · intro ha
        have pm : Perm7 order h.length := perm7 l (permB_of ha)
        apply h1; unfold cOrdered7_1; rw [if_neg (by simp)]
        refine ⟨fun n hn => (pm.mem n).1 hn, ?_⟩
        rw [ordE_good e pm]
        cases k : keepsB h order
        · rw [if_pos (by rfl), if_neg (by simp)]; exact ⟨rfl, trivial⟩
        · rw [if_neg (by simp), if_pos rfl]; exact ⟨rfl, trivial⟩
      · intro i hi ih ha
        apply h1; unfold cOrdered7_1; rw [if_pos (by simpa using hi)]
        refine ⟨trivial, ?_⟩
        by_cases c : (i : Int) ∈ order
        · rw [if_neg (by simp [c])]
          refine ⟨inI_succ hi (by omega), ih fun k hk => ?_⟩
          by_cases q : k = i
          · subst q; exact c
          · exact ha k (by omega)
        · rw [if_pos (by simp [c])]
          refine ⟨ordE_bad e fun q => c ?_, trivial⟩
          exact ((perm7 q.1 q.2).mem i).2 ⟨by omega, by omega⟩
    · rw [if_pos (by simpa using fun q => l (by omega))]
      exact ⟨ordE_bad e fun q => l q.1, trivial⟩
  · rw [if_pos (by simpa using e)]
    refine ⟨?_, trivial⟩
    unfold ordE; rw [if_neg e]
abbrev cCheckOrd : Con := { A := (.cons (.sl tL) (.cons (.sl (.sl tEd)) (.cons (.sl .int) .nil))), R := (.cons .int .nil), pre := fun x => True, F := fun x => (ordE x.1 x.2.1 x.2.2.1, ()) }
def cCheckOrd_0  (p : (List Lin)) (h : (List (List Edt))) (order : (List Int)) (y0 : Int) : Prop :=
  True ∧ ((ordE p h order) = y0 ∧ True)
theorem cCheckOrd_law (h : ∀ (p : (List Lin)) (h : (List (List Edt))) (order : (List Int)), cCheckOrd.A.wf (p, h, order, ()) → cCheckOrd_0  p h order (ordE p h order)) : ConOK Go.Proofs.Try.prog 38 cCheckOrd := by
  refine lawL (Γ := [(81, cOrdered7)]) (Θ := Th) (n := 11) [] ⟨cOrdered7_ok, trivial⟩ (by kernel_rfl) th_ok mix_ok Go.Proofs.Try.func38 (by kernel_rfl) ?_
  intro x hw hp Λ hC
  have h0 := h x.1 x.2.1 x.2.2.1 hw  
  exact Eq.mpr (by kernel_rfl) h0
theorem cCheckOrd_ok : ConOK Go.Proofs.Try.prog 38 cCheckOrd := by
  refine cCheckOrd_law ?_
  intro p h order hw
  unfold cCheckOrd_0
  exact ⟨trivial, rfl, trivial⟩
abbrev cPlayOrd : Con := { A := (.cons (.sl tL) (.cons (.sl (.sl tEd)) (.cons (.sl .int) .nil))), R := (.cons (.sl tL) (.cons .int .nil)), pre := fun x => True, F := fun x => (ordV x.1 x.2.1 x.2.2.1, ordE x.1 x.2.1 x.2.2.1, ()) }
def cPlayOrd_0 (Λ1 : Int → (List (List Edt)) → Prop) (p : (List Lin)) (h : (List (List Edt))) (order : (List Int)) (y0 : (List Lin)) (y1 : Int) : Prop :=
  True ∧ (if ((ordE p h order) != (0 : Int)) = true then (([] : List Lin) = y0 ∧ (ordE p h order) = y1 ∧ True) else Λ1 (0 : Int) ([] : List (List Edt)))
def cPlayOrd_1 (Λ1 : Int → (List (List Edt)) → Prop) (p : (List Lin)) (h : (List (List Edt))) (order : (List Int)) (y0 : (List Lin)) (y1 : Int)  (t21_1 : Int) (l_1 : (List (List Edt))) : Prop :=
  if (decide (t21_1 < (List.length order : Int))) = true then (idx t21_1 (List.length order : Int) ∧ (idx (List.getD order (Int.toNat t21_1) 0) (List.length h : Int) ∧ (List.length l_1 + List.length ([(List.getD h (Int.toNat (List.getD order (Int.toNat t21_1) 0)) ([] : List Edt))]) ≤ 4294967296 ∧ (inI (t21_1 + (1 : Int)) ∧ Λ1 (t21_1 + (1 : Int)) (l_1 ++ [(List.getD h (Int.toNat (List.getD order (Int.toNat t21_1) 0)) ([] : List Edt))]))))) else ((okH p.length l_1 ∧ p.length ≤ 8) ∧ ((playH p l_1) = y0 ∧ (0 : Int) = y1 ∧ True))
theorem cPlayOrd_law (h : ∀ (p : (List Lin)) (h : (List (List Edt))) (order : (List Int)), cPlayOrd.A.wf (p, h, order, ()) → ∀ (Λ1 : Int → (List (List Edt)) → Prop), (∀ (t21_1 : Int) (l_1 : (List (List Edt))), cPlayOrd_1 Λ1 p h order (ordV p h order) (ordE p h order) t21_1 l_1 → Λ1 t21_1 l_1) → cPlayOrd_0 Λ1 p h order (ordV p h order) (ordE p h order)) : ConOK Go.Proofs.Try.prog 36 cPlayOrd := by
  refine lawL (Γ := [(81, cOrdered7), (64, cPlay0)]) (Θ := Th) (n := 36) [([1, 1, 1, 0, 1, 0], ⟨[(0, false), (1, false), (9, true), (19, false), (20, true), (21, true)], [(9, false)]⟩)] ⟨cOrdered7_ok, cPlay0_ok, trivial⟩ (by kernel_rfl) th_ok mix_ok Go.Proofs.Try.func36 (by kernel_rfl) ?_
  intro x hw hp Λ hC
  have h0 := h x.1 x.2.1 x.2.2.1 hw (fun t21_1 l_1 => Λ [1, 1, 1, 0, 1, 0] ([(0, .d false (.sl tL) x.1), (1, .d false (.sl (.sl tEd)) x.2.1), (9, .own 9 0), (19, .d false (.sl .int) x.2.2.1), (20, .d true .int (List.length x.2.2.1 : Int)), (21, .d true .int t21_1)], [(9, .sl false (.sl tEd) l_1)])) (fun t21_1 l_1 hb => hC [1, 1, 1, 0, 1, 0] ([(0, .d false (.sl tL) x.1), (1, .d false (.sl (.sl tEd)) x.2.1), (9, .own 9 0), (19, .d false (.sl .int) x.2.2.1), (20, .d true .int (List.length x.2.2.1 : Int)), (21, .d true .int t21_1)], [(9, .sl false (.sl tEd) l_1)]) (Eq.mpr (by kernel_rfl) hb))
  exact Eq.mpr (by kernel_rfl) h0
theorem cPlayOrd_ok : ConOK Go.Proofs.Try.prog 36 cPlayOrd := by
  refine cPlayOrd_law ?_
  intro p h order hw Λ1 h1
  unfold cPlayOrd_0
  refine ⟨trivial, ?_⟩
  by_cases e : ordE p h order = 0
  · rw [if_neg (by simp [e])]
    obtain ⟨e7, pm, kp⟩ := ordE_iff.1 e
    obtain ⟨e1, e2, e3, e4⟩ := err7_ok e7
    refine upto (n := order.length) (Q := fun i => Λ1 (i : Int) (ordH h (order.take i))) ?_ ?_ 0 (Nat.zero_le _)
    · apply h1; unfold cPlayOrd_1; rw [if_neg (by simp), List.take_length]
      refine ⟨⟨fun x hx => ?_, (validP_ok e1).1⟩, ?_, e.symm, trivial⟩
      · unfold ordH at hx
        rw [List.mem_map] at hx
        obtain ⟨n, hn, rfl⟩ := hx
        have := (pm.mem n).1 hn
        exact e3 _ (mem_getD (by omega))
      · unfold ordV; rw [if_pos e]
    · intro i hi ih
      have hx := (pm.mem _).1 (mem_getD (d := 0) hi)
      have hl : (ordH h (order.take i)).length ≤ 8 := by unfold ordH; rw [List.length_map, List.length_take]; have := pm.len; omega
      rw [show ordH h (order.take (i + 1)) = ordH h (order.take i) ++ [h.getD (order.getD i 0).toNat []] by unfold ordH; rw [take_snoc 0 hi, List.map_append]; rfl] at ih
      apply h1; unfold cPlayOrd_1; rw [if_pos (by simpa using hi), Int.toNat_natCast]
      exact ⟨idx_nat hi, ⟨hx.1, hx.2⟩, by simp only [List.length_cons, List.length_nil]; omega, inI_succ hi (by have := pm.len; omega), ih⟩
  · rw [if_pos (by simpa using e)]
    unfold ordV; rw [if_neg e]
    exact ⟨rfl, rfl, trivial⟩
abbrev cOrdered7R : Con := { A := (.cons (.sl tL) (.cons (.sl (.sl tEd)) (.cons (.sl .int) .nil))), R := (.cons .int .nil), pre := fun x => True, F := fun x => (ordE x.1 x.2.1 x.2.2.1, ()) }
def cOrdered7R_0 (Λ1 : Int → Prop) (Λ2 : Int → Prop) (Λ3 : Int → Int → Prop) (p : (List Lin)) (h : (List (List Edt))) (order : (List Int)) (y0 : Int) : Prop :=
  True ∧ (if ((err7 p h) != (0 : Int)) = true then ((err7 p h) = y0 ∧ True) else (if ((List.length order : Int) != (List.length h : Int)) = true then ((1 : Int) = y0 ∧ True) else Λ1 (0 : Int)))
def cOrdered7R_1 (Λ1 : Int → Prop) (Λ2 : Int → Prop) (Λ3 : Int → Int → Prop) (p : (List Lin)) (h : (List (List Edt))) (order : (List Int)) (y0 : Int)  (n_1 : Int) : Prop :=
  if (decide (n_1 < (List.length h : Int))) = true then (True ∧ (if (!(decide (n_1 ∈ order))) = true then ((1 : Int) = y0 ∧ True) else (inI (n_1 + (1 : Int)) ∧ Λ1 (n_1 + (1 : Int))))) else (h.length ≤ 8 ∧ Λ2 (0 : Int))
def cOrdered7R_2 (Λ1 : Int → Prop) (Λ2 : Int → Prop) (Λ3 : Int → Int → Prop) (p : (List Lin)) (h : (List (List Edt))) (order : (List Int)) (y0 : Int)  (i_2 : Int) : Prop :=
  if (decide (i_2 < (List.length order : Int))) = true then (inI (i_2 + (1 : Int)) ∧ Λ3 i_2 (i_2 + (1 : Int))) else ((0 : Int) = y0 ∧ True)
def cOrdered7R_3 (Λ1 : Int → Prop) (Λ2 : Int → Prop) (Λ3 : Int → Int → Prop) (p : (List Lin)) (h : (List (List Edt))) (order : (List Int)) (y0 : Int) (i_2 : Int) (k_3 : Int) : Prop :=
  if (decide (k_3 < (List.length order : Int))) = true then (idx i_2 (List.length order : Int) ∧ (idx (List.getD order (Int.toNat i_2) 0) (List.length (matN h) : Int) ∧ (idx k_3 (List.length order : Int) ∧ (idx (List.getD order (Int.toNat k_3) 0) (List.length (List.getD (matN h) (Int.toNat (List.getD order (Int.toNat i_2) 0)) ([] : List Bool)) : Int) ∧ (if (List.getD (List.getD (matN h) (Int.toNat (List.getD order (Int.toNat i_2) 0)) ([] : List Bool)) (Int.toNat (List.getD order (Int.toNat k_3) 0)) false) = true then ((7 : Int) = y0 ∧ True) else (inI (k_3 + (1 : Int)) ∧ Λ3 i_2 (k_3 + (1 : Int)))))))) else (inI (i_2 + (1 : Int)) ∧ Λ2 (i_2 + (1 : Int)))
theorem cOrdered7R_law (h : ∀ (p : (List Lin)) (h : (List (List Edt))) (order : (List Int)), cOrdered7R.A.wf (p, h, order, ()) → ∀ (Λ1 : Int → Prop) (Λ2 : Int → Prop) (Λ3 : Int → Int → Prop), (∀ (n_1 : Int), cOrdered7R_1 Λ1 Λ2 Λ3 p h order (ordE p h order) n_1 → Λ1 n_1) → (∀ (i_2 : Int), cOrdered7R_2 Λ1 Λ2 Λ3 p h order (ordE p h order) i_2 → Λ2 i_2) → (∀ (i_2 : Int) (k_3 : Int), cOrdered7R_3 Λ1 Λ2 Λ3 p h order (ordE p h order) i_2 k_3 → Λ3 i_2 k_3) → cOrdered7R_0 Λ1 Λ2 Λ3 p h order (ordE p h order)) : ConOK Go.Proofs.Try.prog 82 cOrdered7R := by
  refine lawL (Γ := [(19, cHas4), (65, cNeedsMR), (33, cVal7R)]) (Θ := Th) (n := 62) [([1, 1, 1, 1, 0, 1, 0], ⟨[(1, false), (2, false), (8, true)], []⟩), ([1, 1, 1, 1, 1, 1, 0, 1, 0], ⟨[(2, false), (9, false), (10, true)], []⟩), ([1, 1, 1, 1, 1, 1, 0, 1, 0, 0, 1, 0, 0, 1, 0], ⟨[(2, false), (9, false), (10, true), (11, true)], []⟩)] ⟨cHas4_ok, cNeedsMR_ok, cVal7R_ok, trivial⟩ (by kernel_rfl) th_ok mix_ok Go.Proofs.Try.func82 (by kernel_rfl) ?_
  intro x hw hp Λ hC
  have h0 := h x.1 x.2.1 x.2.2.1 hw (fun n_1 => Λ [1, 1, 1, 1, 0, 1, 0] ([(1, .d false (.sl (.sl tEd)) x.2.1), (2, .d false (.sl .int) x.2.2.1), (8, .d true .int n_1)], [])) (fun i_2 => Λ [1, 1, 1, 1, 1, 1, 0, 1, 0] ([(2, .d false (.sl .int) x.2.2.1), (9, .d false (.sl (.sl .bool)) (matN x.2.1)), (10, .d true .int i_2)], [])) (fun i_2 k_3 => Λ [1, 1, 1, 1, 1, 1, 0, 1, 0, 0, 1, 0, 0, 1, 0] ([(2, .d false (.sl .int) x.2.2.1), (9, .d false (.sl (.sl .bool)) (matN x.2.1)), (10, .d true .int i_2), (11, .d true .int k_3)], [])) (fun n_1 hb => hC [1, 1, 1, 1, 0, 1, 0] ([(1, .d false (.sl (.sl tEd)) x.2.1), (2, .d false (.sl .int) x.2.2.1), (8, .d true .int n_1)], []) (Eq.mpr (by kernel_rfl) hb)) (fun i_2 hb => hC [1, 1, 1, 1, 1, 1, 0, 1, 0] ([(2, .d false (.sl .int) x.2.2.1), (9, .d false (.sl (.sl .bool)) (matN x.2.1)), (10, .d true .int i_2)], []) (Eq.mpr (by kernel_rfl) hb)) (fun i_2 k_3 hb => hC [1, 1, 1, 1, 1, 1, 0, 1, 0, 0, 1, 0, 0, 1, 0] ([(2, .d false (.sl .int) x.2.2.1), (9, .d false (.sl (.sl .bool)) (matN x.2.1)), (10, .d true .int i_2), (11, .d true .int k_3)], []) (Eq.mpr (by kernel_rfl) hb))
  exact Eq.mpr (by kernel_rfl) h0
theorem cOrdered7R_ok : ConOK Go.Proofs.Try.prog 82 cOrdered7R := by
  refine cOrdered7R_law ?_
  intro p h order hw Λ1 Λ2 Λ3 h1 h2 h3
  unfold cOrdered7R_0
  refine ⟨trivial, ?_⟩
  by_cases e : err7 p h = 0
  · rw [if_neg (by simp [e])]
    have h8 := (err7_ok e).2.1
    by_cases l : order.length = h.length
    · rw [if_neg (by simp [l])]
      refine upto (n := h.length) (Q := fun i => (∀ k : Nat, k < i → (k : Int) ∈ order) → Λ1 (i : Int)) ?_ ?_ 0 (Nat.zero_le _) (fun k hk => by omega)
      · intro ha
        have pm : Perm7 order h.length := perm7 l (permB_of ha)
        have eg := ordE_good e pm
        rw [keeps_same pm] at eg
        have ol : order.length ≤ 8 := by omega
        apply h1; unfold cOrdered7R_1; rw [if_neg (by simp)]
        refine ⟨h8, ?_⟩
        refine upto (n := order.length) (Q := fun i => keepsR h order = keepsR h (order.drop i) → Λ2 (i : Int)) ?_ ?_ 0 (Nat.zero_le _) rfl
        · intro hb
          rw [List.drop_length] at hb
          have hb : keepsR h order = true := hb
          apply h2; unfold cOrdered7R_2; rw [if_neg (by simp), eg, if_pos hb]
          exact ⟨rfl, trivial⟩
        · intro i hi ih hb
          rw [drop_cons 0 hi, keepsR_cons] at hb
          have hn := (pm.mem _).1 (mem_getD (d := 0) hi)
          apply h2; unfold cOrdered7R_2; rw [if_pos (by simpa using hi)]
          refine ⟨inI_succ hi (by omega), ?_⟩
          have dl : (order.drop (i + 1)).length = order.length - (i + 1) := List.length_drop ..
          have key := upto (n := (order.drop (i + 1)).length) (Q := fun k => (((order.drop (i + 1)).take k).any fun k => need h (order.getD i 0).toNat k.toNat) = false → Λ3 (i : Int) ((i + 1 + k : Nat) : Int)) ?_ ?_ 0 (Nat.zero_le _) rfl
          · simpa using key
          · intro hc
            rw [List.take_length] at hc
            rw [hc] at hb
            apply h3; unfold cOrdered7R_3
            rw [if_neg (by rw [decide_eq_true_eq]; omega)]
            exact ⟨inI_succ hi (by omega), ih hb⟩
          · intro k hk ihk hc
            have hk2 := (pm.mem _).1 (List.mem_of_mem_drop (mem_getD (d := 0) hk))
            have hv := drop_getD order (i + 1) k 0
            apply h3; unfold cOrdered7R_3
            rw [if_pos (by rw [decide_eq_true_eq]; omega), Int.toNat_natCast, Int.toNat_natCast, ← hv, matN_get h (by omega), matN_row h (by omega), matN_len, rowN_len]
            refine ⟨idx_nat hi, ⟨hn.1, by omega⟩, ⟨by omega, by omega⟩, ⟨hk2.1, by omega⟩, ?_⟩
            cases t : need h (order.getD i 0).toNat ((order.drop (i + 1)).getD k 0).toNat
            · rw [if_neg (by simp)]
              refine ⟨by unfold inI; omega, ?_⟩
              have := ihk (any_take_next (p := fun k : Int => need h (order.getD i 0).toNat k.toNat) 0 hk hc t)
              rwa [show ((i + 1 + (k + 1) : Nat) : Int) = ((i + 1 + k : Nat) : Int) + 1 by omega] at this
            · rw [if_pos rfl]
              refine ⟨?_, trivial⟩
              rw [eg, hb, List.any_eq_true.2 ⟨_, mem_getD (d := 0) hk, t⟩]; rfl
      · intro i hi ih ha
        apply h1; unfold cOrdered7R_1; rw [if_pos (by simpa using hi)]
        refine ⟨trivial, ?_⟩
        by_cases c : (i : Int) ∈ order
        · rw [if_neg (by simp [c])]
          refine ⟨inI_succ hi (by omega), ih fun k hk => ?_⟩
          by_cases q : k = i
          · subst q; exact c
          · exact ha k (by omega)
        · rw [if_pos (by simp [c])]
          refine ⟨ordE_bad e fun q => c ?_, trivial⟩
          exact ((perm7 q.1 q.2).mem i).2 ⟨by omega, by omega⟩
    · rw [if_pos (by simpa using fun q => l (by omega))]
      exact ⟨ordE_bad e fun q => l q.1, trivial⟩
  · rw [if_pos (by simpa using e)]
    refine ⟨?_, trivial⟩
    unfold ordE; rw [if_neg e]
abbrev cCheckOrdR : Con := { A := (.cons (.sl tL) (.cons (.sl (.sl tEd)) (.cons (.sl .int) .nil))), R := (.cons .int .nil), pre := fun x => True, F := fun x => (ordE x.1 x.2.1 x.2.2.1, ()) }
def cCheckOrdR_0  (p : (List Lin)) (h : (List (List Edt))) (order : (List Int)) (y0 : Int) : Prop :=
  True ∧ ((ordE p h order) = y0 ∧ True)
theorem cCheckOrdR_law (h : ∀ (p : (List Lin)) (h : (List (List Edt))) (order : (List Int)), cCheckOrdR.A.wf (p, h, order, ()) → cCheckOrdR_0  p h order (ordE p h order)) : ConOK Go.Proofs.Try.prog 39 cCheckOrdR := by
  refine lawL (Γ := [(82, cOrdered7R)]) (Θ := Th) (n := 11) [] ⟨cOrdered7R_ok, trivial⟩ (by kernel_rfl) th_ok mix_ok Go.Proofs.Try.func39 (by kernel_rfl) ?_
  intro x hw hp Λ hC
  have h0 := h x.1 x.2.1 x.2.2.1 hw  
  exact Eq.mpr (by kernel_rfl) h0
theorem cCheckOrdR_ok : ConOK Go.Proofs.Try.prog 39 cCheckOrdR := by
  refine cCheckOrdR_law ?_
  intro p h order hw
  unfold cCheckOrdR_0
  exact ⟨trivial, rfl, trivial⟩
abbrev cPlayOrdR : Con := { A := (.cons (.sl tL) (.cons (.sl (.sl tEd)) (.cons (.sl .int) .nil))), R := (.cons (.sl tL) (.cons .int .nil)), pre := fun x => True, F := fun x => (ordV x.1 x.2.1 x.2.2.1, ordE x.1 x.2.1 x.2.2.1, ()) }
def cPlayOrdR_0  (p : (List Lin)) (h : (List (List Edt))) (order : (List Int)) (y0 : (List Lin)) (y1 : Int) : Prop :=
  True ∧ (if ((ordE p h order) != (0 : Int)) = true then (([] : List Lin) = y0 ∧ (ordE p h order) = y1 ∧ True) else ((okH p.length h ∧ p.length ≤ 8 ∧ ∀ n' ∈ order, 0 ≤ n' ∧ n' < (h.length : Int)) ∧ ((playH p (order.map fun k' => List.getD h (Int.toNat k') [])) = y0 ∧ (0 : Int) = y1 ∧ True)))
theorem cPlayOrdR_law (h : ∀ (p : (List Lin)) (h : (List (List Edt))) (order : (List Int)), cPlayOrdR.A.wf (p, h, order, ()) → cPlayOrdR_0  p h order (ordV p h order) (ordE p h order)) : ConOK Go.Proofs.Try.prog 37 cPlayOrdR := by
  refine lawL (Γ := [(82, cOrdered7R), (66, cPlayG)]) (Θ := Th) (n := 20) [] ⟨cOrdered7R_ok, cPlayG_ok, trivial⟩ (by kernel_rfl) th_ok mix_ok Go.Proofs.Try.func37 (by kernel_rfl) ?_
  intro x hw hp Λ hC
  have h0 := h x.1 x.2.1 x.2.2.1 hw  
  exact Eq.mpr (by kernel_rfl) h0
theorem cPlayOrdR_ok : ConOK Go.Proofs.Try.prog 37 cPlayOrdR := by
  refine cPlayOrdR_law ?_
  intro p h order hw
  unfold cPlayOrdR_0
  refine ⟨trivial, ?_⟩
  by_cases e : ordE p h order = 0
  · rw [if_neg (by simp [e])]
    obtain ⟨e7, pm, kp⟩ := ordE_iff.1 e
    obtain ⟨e1, e2, e3, e4⟩ := err7_ok e7
    refine ⟨⟨e3, (validP_ok e1).1, fun n hn => (pm.mem n).1 hn⟩, ?_, e.symm, trivial⟩
    unfold ordV; rw [if_pos e]; rfl
  · rw [if_pos (by simpa using e)]
    unfold ordV; rw [if_neg e]
    exact ⟨rfl, rfl, trivial⟩
abbrev cStoryOrders : Con := { A := (.cons (.sl tL) (.cons (.sl (.sl tEd)) (.cons (.sl .int) .nil))), R := (.cons .bool .nil), pre := fun x => True, F := fun x => (true, ()) }
def cStoryOrders_0  (p : (List Lin)) (h : (List (List Edt))) (order : (List Int)) (y0 : Bool) : Prop :=
  True ∧ (if (decide (∃ x' ∈ h, 50 < x'.length) || decide (100 < p.length) || decide (50 < h.length)) = true then (true = true ∧ (True ∧ (true = y0 ∧ True))) else (True ∧ (if (bif false then true else (decide ((List.length order : Int) > (50 : Int)))) = true then (True ∧ (true = y0 ∧ True)) else (True ∧ (True ∧ (True ∧ (True ∧ (if ((ordE p h order) != (ordE p h order)) = true then (true = true ∧ (true = true ∧ (false = y0 ∧ True))) else ((ordV p h order).length ≤ 1000000 ∧ (True ∧ (if (bif false then true else (!(decide ((ordV p h order) = (ordV p h order))))) = true then (true = true ∧ (false = y0 ∧ True)) else (True ∧ (if (bif false then true else ((ordE p h order) != (ordE p h order))) = true then (false = y0 ∧ True) else (if ((ordE p h order) != (0 : Int)) = true then (True ∧ (true = y0 ∧ True)) else (True ∧ (if ((err7 p h) == (0 : Int)) = true then ((ordV p h order).length ≤ 1000000 ∧ (True ∧ (if (bif true then (decide ((ordV p h order) = ((if err7 p h = 0 then playH p h else [])))) else false) = true then (True ∧ (True ∧ ((bif true then true else false) = y0 ∧ True))) else (false = false ∧ (false = y0 ∧ True))))) else (false = false ∧ (false = false ∧ (false = y0 ∧ True)))))))))))))))))))
theorem cStoryOrders_law (h : ∀ (p : (List Lin)) (h : (List (List Edt))) (order : (List Int)), cStoryOrders.A.wf (p, h, order, ()) → cStoryOrders_0  p h order true) : ConOK Go.Proofs.Try.prog 9 cStoryOrders := by
  refine lawL (Γ := [(38, cCheckOrd), (39, cCheckOrdR), (15, cLong7), (24, cPlay), (36, cPlayOrd), (37, cPlayOrdR), (22, cSameL4), (16, cSane7)]) (Θ := Th) (n := 75) [] ⟨cCheckOrd_ok, cCheckOrdR_ok, cLong7_ok, cPlay_ok, cPlayOrd_ok, cPlayOrdR_ok, cSameL4_ok, cSane7_ok, trivial⟩ (by kernel_rfl) th_ok mix_ok Go.Proofs.Try.func9 (by kernel_rfl) ?_
  intro x hw hp Λ hC
  have h0 := h x.1 x.2.1 x.2.2.1 hw  
  exact Eq.mpr (by kernel_rfl) h0
theorem cStoryOrders_ok : ConOK Go.Proofs.Try.prog 9 cStoryOrders := by
  refine cStoryOrders_law ?_
  intro p h order hw
  unfold cStoryOrders_0
  have lv : (ordV p h order).length ≤ 1000000 := by
    unfold ordV
    split
    · rename_i e
      rw [playH_len]
      have := (validP_ok (err7_ok (ordE_iff.1 e).1).1).1
      omega
    · simp
  refine ⟨trivial, ?_⟩
  split
  · exact ⟨rfl, trivial, rfl, trivial⟩
  refine ⟨trivial, ?_⟩
  split
  · exact ⟨trivial, rfl, trivial⟩
  refine ⟨trivial, trivial, trivial, trivial, ?_⟩
  rw [if_neg (by simp)]
  refine ⟨lv, trivial, ?_⟩
  rw [if_neg (by simp)]
  refine ⟨trivial, ?_⟩
  rw [if_neg (by simp)]
  by_cases e : ordE p h order = 0
  · rw [if_neg (by simp [e])]
    obtain ⟨e7, pm, kp⟩ := ordE_iff.1 e
    have ev : ordV p h order = playH p h := by
      unfold ordV; rw [if_pos e]; exact play_order (err7_ok e7).2.2.1 pm kp
    rw [ev] at lv
    rw [if_pos (by simp [e7]), ev, if_pos e7]
    simp [e7, lv]
  · rw [if_pos (by simpa using e)]
    exact ⟨trivial, rfl, trivial⟩
end Go.Tk
