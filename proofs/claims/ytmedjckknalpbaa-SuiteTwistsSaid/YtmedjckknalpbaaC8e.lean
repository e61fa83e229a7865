import Derived.Test.YtmedjckknalpbaaC8d
import Derived.Test.YtmedjckknalpbaaP8e
set_option linter.unusedSimpArgs false
set_option linter.unusedVariables false
set_option linter.unnecessarySimpa false
namespace Go.Tk
open Go Go.RowKit
abbrev cExcl1 : Con := { A := (.cons (.sl .int) (.cons (.ref (.sl .int)) .nil)), R := (.cons .bool .nil), pre := fun x => ∀ g', g' ∈ x.2.1 → 0 ≤ g' ∧ g' < x.1.length ∧ 0 ≤ x.1.getD g'.toNat 0 ∧ x.1.getD g'.toNat 0 ≤ 1, F := fun x => (decide (sumG x.1 x.2.1 > 1), ()) }
def cExcl1_0 (Λ1 : Int → Int → Prop) (row : (List Int)) (c0 : (List Int)) (y0 : Bool) : Prop :=
  Λ1 (0 : Int) (0 : Int)
def cExcl1_1 (Λ1 : Int → Int → Prop) (row : (List Int)) (c0 : (List Int)) (y0 : Bool)  (n_1 : Int) (t9_1 : Int) : Prop :=
  if (decide (t9_1 < (List.length c0 : Int))) = true then (idx t9_1 (List.length c0 : Int) ∧ (idx (List.getD c0 (Int.toNat t9_1) 0) (List.length row : Int) ∧ (inI (n_1 + (List.getD row (Int.toNat (List.getD c0 (Int.toNat t9_1) 0)) 0)) ∧ (inI (t9_1 + (1 : Int)) ∧ Λ1 (n_1 + (List.getD row (Int.toNat (List.getD c0 (Int.toNat t9_1) 0)) 0)) (t9_1 + (1 : Int)))))) else ((decide (n_1 > (1 : Int))) = y0 ∧ True)
theorem cExcl1_law (h : ∀ (row : (List Int)) (c0 : (List Int)), cExcl1.A.wf (row, c0, ()) → (∀ g', g' ∈ c0 → 0 ≤ g' ∧ g' < row.length ∧ 0 ≤ row.getD g'.toNat 0 ∧ row.getD g'.toNat 0 ≤ 1) → ∀ (Λ1 : Int → Int → Prop), (∀ (n_1 : Int) (t9_1 : Int), cExcl1_1 Λ1 row c0 (decide (sumG row c0 > 1)) n_1 t9_1 → Λ1 n_1 t9_1) → cExcl1_0 Λ1 row c0 (decide (sumG row c0 > 1))) : ConOK Go.Proofs.Try.prog 104 cExcl1 := by
  refine lawL (Γ := []) (Θ := Th) (n := 22) [([1, 1, 0, 1, 0], ⟨[(0, false), (4, true), (7, false), (8, true), (9, true)], []⟩)] trivial (by kernel_rfl) th_ok mix_ok Go.Proofs.Try.func104 (by kernel_rfl) ?_
  intro x hw hp Λ hC
  have h0 := h x.1 x.2.1 hw hp (fun n_1 t9_1 => Λ [1, 1, 0, 1, 0] ([(0, .d false (.sl .int) x.1), (4, .d true .int n_1), (7, .d false (.sl .int) x.2.1), (8, .d true .int (List.length x.2.1 : Int)), (9, .d true .int t9_1)], [])) (fun n_1 t9_1 hb => hC [1, 1, 0, 1, 0] ([(0, .d false (.sl .int) x.1), (4, .d true .int n_1), (7, .d false (.sl .int) x.2.1), (8, .d true .int (List.length x.2.1 : Int)), (9, .d true .int t9_1)], []) (Eq.mpr (by kernel_rfl) hb))
  exact Eq.mpr (by kernel_rfl) h0
theorem cExcl1_ok : ConOK Go.Proofs.Try.prog 104 cExcl1 := by
  refine cExcl1_law ?_
  intro row c0 hw hp Λ1 h1
  unfold cExcl1_0
  have hl : c0.length ≤ 140737488355328 := hw.2.1.1
  have hs : ∀ i, 0 ≤ ((c0.take i).map fun g => row.getD g.toNat 0).sum ∧ ((c0.take i).map fun g => row.getD g.toNat 0).sum ≤ c0.length := sum01 fun g hg => (hp g hg).2.2
  refine upto (n := c0.length) (Q := fun i => Λ1 (((c0.take i).map fun g => row.getD g.toNat 0).sum) i) ?_ ?_ 0 (Nat.zero_le _)
  · rw [List.take_length]
    apply h1; unfold cExcl1_1
    rw [if_neg (by simp)]
    exact ⟨rfl, trivial⟩
  · intro i hi ih
    apply h1; unfold cExcl1_1
    have h2 := hp _ (mem_getD (d := 0) hi)
    have h3 := hs i
    rw [sum_take (f := fun g => row.getD g.toNat 0) hi] at ih
    simp only [Int.toNat_natCast]
    rw [if_pos (by simpa using hi)]
    generalize c0.getD i 0 = g at h2 ih ⊢
    exact ⟨idx_nat hi, ⟨h2.1, h2.2.1⟩, by unfold inI; omega, inI_succ hi hl, ih⟩
abbrev cIndexLL : Con := { A := (.cons (.sl (.sl .int)) (.cons (.fn (.cons (.sl .int) .nil) (.cons .bool .nil)) .nil)), R := (.cons .int .nil), pre := fun x => ∀ r', r' ∈ x.1 → x.2.1.1 (r', ()), F := fun x => (idxF (fun r' => (x.2.1.2 (r', ())).1) x.1, ()) }
def cIndexLL_0 (Λ1 : Int → Prop) (s : (List (List Int))) (f : (T.fn (.cons (.sl .int) .nil) (.cons .bool .nil)).den) (y0 : Int) : Prop :=
  Λ1 (0 : Int)
def cIndexLL_1 (Λ1 : Int → Prop) (s : (List (List Int))) (f : (T.fn (.cons (.sl .int) .nil) (.cons .bool .nil)).den) (y0 : Int)  (t8_1 : Int) : Prop :=
  if (decide (t8_1 < (List.length s : Int))) = true then (idx t8_1 (List.length s : Int) ∧ (f.1 ((List.getD s (Int.toNat t8_1) ([] : List Int)), ()) ∧ (if ((f.2 ((List.getD s (Int.toNat t8_1) ([] : List Int)), ())).1) = true then (t8_1 = y0 ∧ True) else (inI (t8_1 + (1 : Int)) ∧ Λ1 (t8_1 + (1 : Int)))))) else ((-1 : Int) = y0 ∧ True)
theorem cIndexLL_law (h : ∀ (s : (List (List Int))) (f : (T.fn (.cons (.sl .int) .nil) (.cons .bool .nil)).den), cIndexLL.A.wf (s, f, ()) → (∀ r', r' ∈ s → f.1 (r', ())) → ∀ (Λ1 : Int → Prop), (∀ (t8_1 : Int), cIndexLL_1 Λ1 s f (idxF (fun r' => (f.2 (r', ())).1) s) t8_1 → Λ1 t8_1) → cIndexLL_0 Λ1 s f (idxF (fun r' => (f.2 (r', ())).1) s)) : ConOK Go.Proofs.Try.prog 116 cIndexLL := by
  refine lawL (Γ := []) (Θ := Th) (n := 19) [([1, 0, 1, 0], ⟨[(0, false), (1, false), (7, true), (8, true)], []⟩)] trivial (by kernel_rfl) th_ok mix_ok Go.Proofs.Try.func116 (by kernel_rfl) ?_
  intro x hw hp Λ hC
  have h0 := h x.1 x.2.1 hw hp (fun t8_1 => Λ [1, 0, 1, 0] ([(0, .d false (.sl (.sl .int)) x.1), (1, .d false (.fn (.cons (.sl .int) .nil) (.cons .bool .nil)) x.2.1), (7, .d true .int (List.length x.1 : Int)), (8, .d true .int t8_1)], [])) (fun t8_1 hb => hC [1, 0, 1, 0] ([(0, .d false (.sl (.sl .int)) x.1), (1, .d false (.fn (.cons (.sl .int) .nil) (.cons .bool .nil)) x.2.1), (7, .d true .int (List.length x.1 : Int)), (8, .d true .int t8_1)], []) (Eq.mpr (by kernel_rfl) hb))
  exact Eq.mpr (by kernel_rfl) h0
theorem cIndexLL_ok : ConOK Go.Proofs.Try.prog 116 cIndexLL := by
  refine cIndexLL_law ?_
  intro s f hw hp Λ1 h1
  unfold cIndexLL_0
  refine upto (n := s.length) (Q := fun i => (s.take i).any (fun r => (f.2 (r, ())).1) = false → Λ1 i) ?_ ?_ 0 (Nat.zero_le _) rfl
  · intro ha
    rw [List.take_length] at ha
    apply h1; unfold cIndexLL_1; rw [if_neg (by simp), idxF_none ha]
    exact ⟨rfl, trivial⟩
  · intro i hi ih ha
    apply h1; unfold cIndexLL_1; rw [if_pos (by simpa using hi), Int.toNat_natCast]
    refine ⟨idx_nat hi, hp _ (mem_getD hi), ?_⟩
    cases hv : (f.2 (List.getD s i [], ())).1
    · rw [if_neg (by simp)]
      exact ⟨inI_succ hi hw.1.1, ih (any_take_next (p := fun r => (f.2 (r, ())).1) [] hi ha hv)⟩
    · rw [if_pos (by rfl), idxF_at (p := fun r => (f.2 (r, ())).1) [] hi ha hv]
      exact ⟨rfl, trivial⟩
abbrev cContLL : Con := { A := (.cons (.sl (.sl .int)) (.cons (.fn (.cons (.sl .int) .nil) (.cons .bool .nil)) .nil)), R := (.cons .bool .nil), pre := fun x => ∀ r', r' ∈ x.1 → x.2.1.1 (r', ()), F := fun x => (x.1.any (fun r' => (x.2.1.2 (r', ())).1), ()) }
def cContLL_0  (s : (List (List Int))) (f : (T.fn (.cons (.sl .int) .nil) (.cons .bool .nil)).den) (y0 : Bool) : Prop :=
  (∀ r', r' ∈ s → f.1 (r', ())) ∧ ((decide ((idxF (fun r' => (f.2 (r', ())).1) s) ≥ (0 : Int))) = y0 ∧ True)
theorem cContLL_law (h : ∀ (s : (List (List Int))) (f : (T.fn (.cons (.sl .int) .nil) (.cons .bool .nil)).den), cContLL.A.wf (s, f, ()) → (∀ r', r' ∈ s → f.1 (r', ())) → cContLL_0  s f (s.any (fun r' => (f.2 (r', ())).1))) : ConOK Go.Proofs.Try.prog 103 cContLL := by
  refine lawL (Γ := [(116, cIndexLL)]) (Θ := Th) (n := 9) [] ⟨cIndexLL_ok, trivial⟩ (by kernel_rfl) th_ok mix_ok Go.Proofs.Try.func103 (by kernel_rfl) ?_
  intro x hw hp Λ hC
  have h0 := h x.1 x.2.1 hw hp  
  exact Eq.mpr (by kernel_rfl) h0
theorem cContLL_ok : ConOK Go.Proofs.Try.prog 103 cContLL := by
  refine cContLL_law ?_
  intro s f hw hp
  unfold cContLL_0
  exact ⟨hp, idxF_any _ _, trivial⟩
abbrev cExcl : Con := { A := (.cons (.sl (.sl .int)) (.cons (.sl .int) .nil)), R := (.cons .bool .nil), pre := fun x => okT x.1 ∧ inG x.1 x.2.1, F := fun x => (exclB x.1 x.2.1, ()) }
def cExcl_0  (t : (List (List Int))) (set_ : (List Int)) (y0 : Bool) : Prop :=
  (∀ r', r' ∈ t → (fun (xx : ((List Int) × Unit)) => ∀ g', g' ∈ set_ → 0 ≤ g' ∧ g' < xx.1.length ∧ 0 ≤ xx.1.getD g'.toNat 0 ∧ xx.1.getD g'.toNat 0 ≤ 1, fun (xx : ((List Int) × Unit)) => (decide (sumG xx.1 set_ > 1), ())).1 (r', ())) ∧ ((!(t.any (fun r' => ((fun (xx : ((List Int) × Unit)) => ∀ g', g' ∈ set_ → 0 ≤ g' ∧ g' < xx.1.length ∧ 0 ≤ xx.1.getD g'.toNat 0 ∧ xx.1.getD g'.toNat 0 ≤ 1, fun (xx : ((List Int) × Unit)) => (decide (sumG xx.1 set_ > 1), ())).2 (r', ())).1))) = y0 ∧ True)
theorem cExcl_law (h : ∀ (t : (List (List Int))) (set_ : (List Int)), cExcl.A.wf (t, set_, ()) → (okT t ∧ inG t set_) → cExcl_0  t set_ (exclB t set_)) : ConOK Go.Proofs.Try.prog 60 cExcl := by
  refine lawX (X := { subs := [], frz := [3], U := [], mul := [], nst := [], nls := [], itf := none, inp := [], arrs := [] }) (hX := xok0 _ trivial) (Γ := [(103, cContLL), (104, cExcl1)]) (Θ := Th) (n := 9) [] ⟨cContLL_ok, cExcl1_ok, trivial⟩ (by kernel_rfl) th_ok mix_ok Go.Proofs.Try.func60 (by kernel_rfl) ?_
  intro x hw hp Λ hC
  have h0 := h x.1 x.2.1 hw hp  
  exact Eq.mpr (by kernel_rfl) h0
theorem cExcl_ok : ConOK Go.Proofs.Try.prog 60 cExcl := by
  refine cExcl_law ?_
  intro t set_ hw hp
  unfold cExcl_0
  obtain ⟨p1, p2⟩ := hp
  refine ⟨fun r hr g hg => ?_, rfl, trivial⟩
  obtain ⟨q1, q2⟩ := p1.2.2 r hr
  obtain ⟨q3, q4⟩ := p2 g hg
  have hlt : g.toNat < r.length := by omega
  refine ⟨q3, by show g < (r.length : Int); omega, ?_⟩
  rcases q2 _ (mem_getD (d := 0) hlt) with e | e
  · show 0 ≤ r.getD g.toNat 0 ∧ r.getD g.toNat 0 ≤ 1
    omega
  · show 0 ≤ r.getD g.toNat 0 ∧ r.getD g.toNat 0 ≤ 1
    omega
abbrev cExcluding : Con := { A := (.cons (.sl (.sl .int)) .nil), R := (.cons (.sl .int) (.cons .int .nil)), pre := fun x => True, F := fun x => ((if validT x.1 = 0 then exclT x.1 else []), validT x.1, ()) }
def cExcluding_0 (Λ1 : (List Int) → Int → Prop) (Λ2 : Int → (List Int) → Int → (List Int) → Prop) (t : (List (List Int))) (y0 : (List Int)) (y1 : Int) : Prop :=
  True ∧ (if ((validT t) != (0 : Int)) = true then (([] : List Int) = y0 ∧ (validT t) = y1 ∧ True) else (okT t ∧ ((0 ≤ (List.length (openL t) : Int) ∧ (List.length (openL t) : Int) ≤ 10) ∧ Λ1 ([] : List Int) (0 : Int))))
def cExcluding_1 (Λ1 : (List Int) → Int → Prop) (Λ2 : Int → (List Int) → Int → (List Int) → Prop) (t : (List (List Int))) (y0 : (List Int)) (y1 : Int)  (best_1 : (List Int)) (t23_1 : Int) : Prop :=
  if (decide (t23_1 < (List.length (setsL (List.length (openL t) : Int).toNat) : Int))) = true then (idx t23_1 (List.length (setsL (List.length (openL t) : Int).toNat) : Int) ∧ Λ2 t23_1 best_1 (0 : Int) ([] : List Int)) else (best_1 = y0 ∧ (0 : Int) = y1 ∧ True)
def cExcluding_2 (Λ1 : (List Int) → Int → Prop) (Λ2 : Int → (List Int) → Int → (List Int) → Prop) (t : (List (List Int))) (y0 : (List Int)) (y1 : Int) (t23_1 : Int) (best_2 : (List Int)) (t29_2 : Int) (set_2 : (List Int)) : Prop :=
  if (decide (t29_2 < (List.length (List.getD (setsL (List.length (openL t) : Int).toNat) (Int.toNat t23_1) ([] : List Int)) : Int))) = true then (idx t29_2 (List.length (List.getD (setsL (List.length (openL t) : Int).toNat) (Int.toNat t23_1) ([] : List Int)) : Int) ∧ (idx (List.getD (List.getD (setsL (List.length (openL t) : Int).toNat) (Int.toNat t23_1) ([] : List Int)) (Int.toNat t29_2) 0) (List.length (openL t) : Int) ∧ (List.length set_2 + List.length ([(List.getD (openL t) (Int.toNat (List.getD (List.getD (setsL (List.length (openL t) : Int).toNat) (Int.toNat t23_1) ([] : List Int)) (Int.toNat t29_2) 0)) 0)]) ≤ 4294967296 ∧ (inI (t29_2 + (1 : Int)) ∧ Λ2 t23_1 best_2 (t29_2 + (1 : Int)) (set_2 ++ [(List.getD (openL t) (Int.toNat (List.getD (List.getD (setsL (List.length (openL t) : Int).toNat) (Int.toNat t23_1) ([] : List Int)) (Int.toNat t29_2) 0)) 0)]))))) else (if (decide ((List.length set_2 : Int) > (List.length best_2 : Int))) = true then (true = true ∧ ((okT t ∧ inG t set_2) ∧ (True ∧ (if (bif true then (exclB t set_2) else false) = true then (inI (t23_1 + (1 : Int)) ∧ Λ1 set_2 (t23_1 + (1 : Int))) else (inI (t23_1 + (1 : Int)) ∧ Λ1 best_2 (t23_1 + (1 : Int))))))) else (if ((List.length set_2 : Int) == (List.length best_2 : Int)) = true then (True ∧ (True ∧ (True ∧ (if (bif false then true else (bif true then (decide ((cmpL set_2 best_2) < (0 : Int))) else false)) = true then ((okT t ∧ inG t set_2) ∧ (True ∧ (if (bif true then (exclB t set_2) else false) = true then (inI (t23_1 + (1 : Int)) ∧ Λ1 set_2 (t23_1 + (1 : Int))) else (inI (t23_1 + (1 : Int)) ∧ Λ1 best_2 (t23_1 + (1 : Int)))))) else (false = false ∧ (inI (t23_1 + (1 : Int)) ∧ Λ1 best_2 (t23_1 + (1 : Int)))))))) else (false = false ∧ (True ∧ (if (bif false then true else false) = true then ((okT t ∧ inG t set_2) ∧ (True ∧ (if (bif true then (exclB t set_2) else false) = true then (inI (t23_1 + (1 : Int)) ∧ Λ1 set_2 (t23_1 + (1 : Int))) else (inI (t23_1 + (1 : Int)) ∧ Λ1 best_2 (t23_1 + (1 : Int)))))) else (false = false ∧ (inI (t23_1 + (1 : Int)) ∧ Λ1 best_2 (t23_1 + (1 : Int)))))))))
theorem cExcluding_law (h : ∀ (t : (List (List Int))), cExcluding.A.wf (t, ()) → ∀ (Λ1 : (List Int) → Int → Prop) (Λ2 : Int → (List Int) → Int → (List Int) → Prop), (∀ (best_1 : (List Int)) (t23_1 : Int), cExcluding_1 Λ1 Λ2 t (if validT t = 0 then exclT t else []) (validT t) best_1 t23_1 → Λ1 best_1 t23_1) → (∀ (t23_1 : Int) (best_2 : (List Int)) (t29_2 : Int) (set_2 : (List Int)), cExcluding_2 Λ1 Λ2 t (if validT t = 0 then exclT t else []) (validT t) t23_1 best_2 t29_2 set_2 → Λ2 t23_1 best_2 t29_2 set_2) → cExcluding_0 Λ1 Λ2 t (if validT t = 0 then exclT t else []) (validT t)) : ConOK Go.Proofs.Try.prog 19 cExcluding := by
  refine lawL (Γ := [(59, cCmpL), (60, cExcl), (57, cOpen8), (58, cSets), (35, cVal8)]) (Θ := Th) (n := 67) [([1, 1, 1, 1, 0, 1, 0], ⟨[(0, false), (5, true), (6, true), (21, true), (22, true), (23, true)], [(18, true)]⟩), ([1, 1, 1, 1, 0, 1, 0, 0, 1, 1, 0, 0, 1, 1, 0, 1, 0], ⟨[(0, false), (5, true), (6, true), (9, true), (21, true), (22, true), (23, true), (27, true), (28, true), (29, true)], [(9, true), (18, true)]⟩)] ⟨cCmpL_ok, cExcl_ok, cOpen8_ok, cSets_ok, cVal8_ok, trivial⟩ (by kernel_rfl) th_ok mix_ok Go.Proofs.Try.func19 (by kernel_rfl) ?_
  intro x hw hp Λ hC
  have h0 := h x.1 hw (fun best_1 t23_1 => Λ [1, 1, 1, 1, 0, 1, 0] ([(0, .d false (.sl (.sl .int)) x.1), (5, .own 18 0), (6, .d true (.sl .int) best_1), (21, .d true (.sl (.sl .int)) (setsL (List.length (openL x.1) : Int).toNat)), (22, .d true .int (List.length (setsL (List.length (openL x.1) : Int).toNat) : Int)), (23, .d true .int t23_1)], [(18, .sl true .int (openL x.1))])) (fun t23_1 best_2 t29_2 set_2 => Λ [1, 1, 1, 1, 0, 1, 0, 0, 1, 1, 0, 0, 1, 1, 0, 1, 0] ([(0, .d false (.sl (.sl .int)) x.1), (5, .own 18 0), (6, .d true (.sl .int) best_2), (9, .own 9 0), (21, .d true (.sl (.sl .int)) (setsL (List.length (openL x.1) : Int).toNat)), (22, .d true .int (List.length (setsL (List.length (openL x.1) : Int).toNat) : Int)), (23, .d true .int t23_1), (27, .d true (.sl .int) (List.getD (setsL (List.length (openL x.1) : Int).toNat) (Int.toNat t23_1) ([] : List Int))), (28, .d true .int (List.length (List.getD (setsL (List.length (openL x.1) : Int).toNat) (Int.toNat t23_1) ([] : List Int)) : Int)), (29, .d true .int t29_2)], [(9, .sl true .int set_2), (18, .sl true .int (openL x.1))])) (fun best_1 t23_1 hb => hC [1, 1, 1, 1, 0, 1, 0] ([(0, .d false (.sl (.sl .int)) x.1), (5, .own 18 0), (6, .d true (.sl .int) best_1), (21, .d true (.sl (.sl .int)) (setsL (List.length (openL x.1) : Int).toNat)), (22, .d true .int (List.length (setsL (List.length (openL x.1) : Int).toNat) : Int)), (23, .d true .int t23_1)], [(18, .sl true .int (openL x.1))]) (Eq.mpr (by kernel_rfl) hb)) (fun t23_1 best_2 t29_2 set_2 hb => hC [1, 1, 1, 1, 0, 1, 0, 0, 1, 1, 0, 0, 1, 1, 0, 1, 0] ([(0, .d false (.sl (.sl .int)) x.1), (5, .own 18 0), (6, .d true (.sl .int) best_2), (9, .own 9 0), (21, .d true (.sl (.sl .int)) (setsL (List.length (openL x.1) : Int).toNat)), (22, .d true .int (List.length (setsL (List.length (openL x.1) : Int).toNat) : Int)), (23, .d true .int t23_1), (27, .d true (.sl .int) (List.getD (setsL (List.length (openL x.1) : Int).toNat) (Int.toNat t23_1) ([] : List Int))), (28, .d true .int (List.length (List.getD (setsL (List.length (openL x.1) : Int).toNat) (Int.toNat t23_1) ([] : List Int)) : Int)), (29, .d true .int t29_2)], [(9, .sl true .int set_2), (18, .sl true .int (openL x.1))]) (Eq.mpr (by kernel_rfl) hb))
  exact Eq.mpr (by kernel_rfl) h0
theorem cExcluding_ok : ConOK Go.Proofs.Try.prog 19 cExcluding := by
  refine cExcluding_law ?_
  intro t hw Λ1 Λ2 h1 h2
  unfold cExcluding_0
  refine ⟨trivial, ?_⟩
  by_cases h0 : validT t = 0
  · rw [if_neg (by simp [h0])]
    have ht := validT_ok.1 h0
    have ho := openL_len t
    have hg := ht.2.1
    refine ⟨ht, ⟨by omega, by omega⟩, ?_⟩
    obtain ⟨n, hn⟩ : ∃ n, n = (openL t).length := ⟨_, rfl⟩
    have hn10 : n ≤ 10 := by omega
    have h2n : 2 ^ n ≤ 1024 := Nat.le_trans (Nat.pow_le_pow_right (by omega) hn10) (by decide)
    have hsl := setsL_len n
    rw [if_pos h0, h0] at h1 h2
    refine upto (n := (setsL n).length) (Q := fun i => Λ1 (exclK t i) i) ?_ ?_ 0 (Nat.zero_le _)
    · apply h1; unfold cExcluding_1
      rw [Int.toNat_natCast, ← hn, if_neg (by simp)]
      refine ⟨?_, rfl, trivial⟩
      unfold exclK exclT
      rw [← hn, List.take_length]
    · intro i hi ih
      apply h1; unfold cExcluding_1
      rw [Int.toNat_natCast, ← hn, if_pos (by simpa using hi)]
      refine ⟨idx_nat hi, ?_⟩
      have hci : (setsL n).getD i [] = setOf n i := setsL_get (by omega)
      have hex : exclK t (i + 1) = stepX t (exclK t i) (setOf n i) := by
        unfold exclK
        rw [← hn, foldl_take [] (stepX t) [] hi, hci]
      rw [hex] at ih
      generalize exclK t i = best at ih ⊢
      have hcl := setOf_len n i
      have hcm : ∀ k ∈ setOf n i, 0 ≤ k ∧ k < (openL t).length := fun k hk => by rw [← hn]; exact setOf_mem hk
      obtain ⟨c, hc⟩ : ∃ c, c = setOf n i := ⟨_, rfl⟩
      rw [← hc] at ih hcl hcm
      refine upto (n := c.length) (Q := fun j => Λ2 (i : Int) best (j : Int) (pickO t (c.take j))) ?_ ?_ 0 (Nat.zero_le _)
      · rw [List.take_length]
        apply h2; unfold cExcluding_2
        rw [Int.toNat_natCast, Int.toNat_natCast, ← hn, hci, ← hc, if_neg (by simp)]
        have hin := pickO_in hcm
        have hinI : inI ((i : Int) + 1) := by unfold inI; omega
        have ih' : Λ1 (stepX t best c) ((i : Int) + 1) := ih
        unfold stepX better at ih'
        generalize pickO t c = set at ih' hin ⊢
        by_cases g1 : set.length > best.length
        · rw [if_pos (by simpa using g1)]
          refine ⟨rfl, ⟨ht, hin⟩, trivial, ?_⟩
          cases hx : exclB t set
          · rw [if_neg (by simp)]; rw [if_neg (by simp [hx])] at ih'; exact ⟨hinI, ih'⟩
          · rw [if_pos (by rfl)]; rw [if_pos (by simp [hx, g1])] at ih'; exact ⟨hinI, ih'⟩
        · rw [if_neg (by simpa using g1)]
          by_cases g2 : set.length = best.length
          · rw [if_pos (by simp [g2])]
            refine ⟨trivial, trivial, trivial, ?_⟩
            by_cases g3 : cmpL set best < 0
            · rw [if_pos (by simpa using g3)]
              refine ⟨⟨ht, hin⟩, trivial, ?_⟩
              cases hx : exclB t set
              · rw [if_neg (by simp)]; rw [if_neg (by simp [hx])] at ih'; exact ⟨hinI, ih'⟩
              · rw [if_pos (by rfl)]; rw [if_pos (by simp [hx, g2, g3])] at ih'; exact ⟨hinI, ih'⟩
            · rw [if_neg (by simpa using g3)]
              rw [if_neg (by simp [g2, g3])] at ih'
              exact ⟨rfl, hinI, ih'⟩
          · rw [if_neg (by simp; omega)]
            rw [if_neg (by simp [g1, g2])] at ih'
            refine ⟨rfl, trivial, ?_⟩
            rw [if_neg (by simp)]
            exact ⟨rfl, hinI, ih'⟩
      · intro j hj ihj
        apply h2; unfold cExcluding_2
        rw [Int.toNat_natCast, Int.toNat_natCast, Int.toNat_natCast, ← hn, hci, ← hc, if_pos (by simpa using hj)]
        have hk := hcm _ (mem_getD (d := 0) hj)
        rw [pickO_take t hj] at ihj
        refine ⟨idx_nat hj, ⟨hk.1, by omega⟩, ?_, by unfold inI; omega, ihj⟩
        rw [pickO_len, List.length_take]
        simp; omega
  · rw [if_pos (by simp [h0]), if_neg h0]
    exact ⟨rfl, rfl, trivial⟩
abbrev cEss2 : Con := { A := (.cons .int (.cons (.ref .int) .nil)), R := (.cons .bool .nil), pre := fun x => True, F := fun x => ((x.1 == x.2.1), ()) }
def cEss2_0  (k : Int) (c0 : Int) (y0 : Bool) : Prop :=
  (k == c0) = y0 ∧ True
theorem cEss2_law (h : ∀ (k : Int) (c0 : Int), cEss2.A.wf (k, c0, ()) → cEss2_0  k c0 (k == c0)) : ConOK Go.Proofs.Try.prog 70 cEss2 := by
  refine lawL (Γ := []) (Θ := Th) (n := 7) [] trivial (by kernel_rfl) th_ok mix_ok Go.Proofs.Try.func70 (by kernel_rfl) ?_
  intro x hw hp Λ hC
  have h0 := h x.1 x.2.1 hw  
  exact Eq.mpr (by kernel_rfl) h0
theorem cEss2_ok : ConOK Go.Proofs.Try.prog 70 cEss2 := by
  refine cEss2_law ?_
  intro k c0 hw
  unfold cEss2_0
  exact ⟨rfl, trivial⟩
abbrev cEss1 : Con := { A := (.cons .int (.cons (.ref (.sl (.sl .int))) .nil)), R := (.cons .bool .nil), pre := fun x => okT x.2.1, F := fun x => (coverB x.2.1 (others x.2.1 x.1), ()) }
def cEss1_0  (r : Int) (c0 : (List (List Int))) (y0 : Bool) : Prop :=
  (0 ≤ (List.length c0 : Int) ∧ (List.length c0 : Int) ≤ 4294967296) ∧ ((∀ r', r' ∈ (nums (List.length c0 : Int).toNat) → (fun (xx : (Int × Unit)) => True, fun (xx : (Int × Unit)) => ((xx.1 == r), ())).1 (r', ())) ∧ ((okT c0 ∧ inT c0 ((nums (List.length c0 : Int).toNat).filter (fun r' => !((fun (xx : (Int × Unit)) => True, fun (xx : (Int × Unit)) => ((xx.1 == r), ())).2 (r', ())).1))) ∧ ((coverB c0 ((nums (List.length c0 : Int).toNat).filter (fun r' => !((fun (xx : (Int × Unit)) => True, fun (xx : (Int × Unit)) => ((xx.1 == r), ())).2 (r', ())).1))) = y0 ∧ True)))
theorem cEss1_law (h : ∀ (r : Int) (c0 : (List (List Int))), cEss1.A.wf (r, c0, ()) → (okT c0) → cEss1_0  r c0 (coverB c0 (others c0 r))) : ConOK Go.Proofs.Try.prog 68 cEss1 := by
  refine lawX (X := { subs := [], frz := [2], U := [], mul := [], nst := [], nls := [], itf := none, inp := [(66, cDelF)], arrs := [] }) (hX := xok0 _ ⟨cDelF_ok, trivial⟩) (Γ := [(67, cAll8), (70, cEss2), (69, cIsCov)]) (Θ := Th) (n := 11) [] ⟨cAll8_ok, cEss2_ok, cIsCov_ok, trivial⟩ (by kernel_rfl) th_ok mix_ok Go.Proofs.Try.func68 (by kernel_rfl) ?_
  intro x hw hp Λ hC
  have h0 := h x.1 x.2.1 hw hp  
  exact Eq.mpr (by kernel_rfl) h0
theorem cEss1_ok : ConOK Go.Proofs.Try.prog 68 cEss1 := by
  refine cEss1_law ?_
  intro r c0 hw hp
  unfold cEss1_0
  have := hp.1
  refine ⟨⟨by omega, by omega⟩, fun _ _ => trivial, ⟨hp, ?_⟩, rfl, trivial⟩
  exact nums_filter_in c0 _
abbrev cEssential : Con := { A := (.cons (.sl (.sl .int)) .nil), R := (.cons (.osl .int) (.cons .int .nil)), pre := fun x => True, F := fun x => ((if validT x.1 = 0 then essT x.1 else []), validT x.1, ()) }
def cEssential_0  (t : (List (List Int))) (y0 : (List Int)) (y1 : Int) : Prop :=
  True ∧ (if ((validT t) != (0 : Int)) = true then ((validT t) = y1 ∧ ([] : List Int) = y0) else ((0 ≤ (List.length t : Int) ∧ (List.length t : Int) ≤ 4294967296) ∧ ((∀ r', r' ∈ (nums (List.length t : Int).toNat) → (fun (xx : (Int × Unit)) => okT t, fun (xx : (Int × Unit)) => (coverB t (others t xx.1), ())).1 (r', ())) ∧ ((0 : Int) = y1 ∧ ((nums (List.length t : Int).toNat).filter (fun r' => !((fun (xx : (Int × Unit)) => okT t, fun (xx : (Int × Unit)) => (coverB t (others t xx.1), ())).2 (r', ())).1)) = y0))))
theorem cEssential_law (h : ∀ (t : (List (List Int))), cEssential.A.wf (t, ()) → cEssential_0  t (if validT t = 0 then essT t else []) (validT t)) : ConOK Go.Proofs.Try.prog 22 cEssential := by
  refine lawX (X := { subs := [], frz := [1], U := [], mul := [], nst := [], nls := [], itf := none, inp := [(66, cDelF)], arrs := [] }) (hX := xok0 _ ⟨cDelF_ok, trivial⟩) (Γ := [(67, cAll8), (68, cEss1), (35, cVal8)]) (Θ := Th) (n := 15) [] ⟨cAll8_ok, cEss1_ok, cVal8_ok, trivial⟩ (by kernel_rfl) th_ok mix_ok Go.Proofs.Try.func22 (by kernel_rfl) ?_
  intro x hw hp Λ hC
  have h0 := h x.1 hw  
  exact Eq.mpr (by kernel_rfl) h0
theorem cEssential_ok : ConOK Go.Proofs.Try.prog 22 cEssential := by
  refine cEssential_law ?_
  intro t hw
  unfold cEssential_0
  refine ⟨trivial, ?_⟩
  by_cases h0 : validT t = 0
  · rw [if_neg (by simp [h0]), if_pos h0, h0]
    have ht := validT_ok.1 h0
    have := ht.1
    exact ⟨⟨by omega, by omega⟩, fun _ _ => ht, rfl, rfl⟩
  · rw [if_pos (by simp [h0]), if_neg h0]
    exact ⟨rfl, rfl⟩
theorem inT1 {t : Ste} {a : Int} (h : 0 ≤ a ∧ a < t.length) : inT t [a] := fun r hr => by rw [List.mem_singleton] at hr; subst hr; exact h
theorem inT2 {t : Ste} {a b : Int} (h : 0 ≤ a ∧ a < t.length) (h' : 0 ≤ b ∧ b < t.length) : inT t [a, b] := fun r hr => by
  rcases List.mem_cons.1 hr with rfl | hr
  · exact h
  · exact inT1 h' r hr
abbrev cBeats : Con := { A := (.cons (.sl (.sl .int)) (.cons .int (.cons .int .nil))), R := (.cons .bool .nil), pre := fun x => okT x.1 ∧ 0 ≤ x.2.1 ∧ x.2.1 < x.1.length ∧ 0 ≤ x.2.2.1 ∧ x.2.2.1 < x.1.length, F := fun x => (beatsB x.1 x.2.1 x.2.2.1, ()) }
def cBeats_0  (t : (List (List Int))) (a : Int) (b : Int) (y0 : Bool) : Prop :=
  (okT t ∧ inT t [a]) ∧ ((okT t ∧ inT t [a, b]) ∧ (if (a != b) = true then (True ∧ (if (bif true then ((List.length (metL t [a]) : Int) == (List.length (metL t [a, b]) : Int)) else false) = true then ((okT t ∧ inT t [b]) ∧ (if (decide ((List.length (metL t [a]) : Int) > (List.length (metL t [b]) : Int))) = true then (true = true ∧ (True ∧ ((bif true then true else false) = y0 ∧ True))) else (True ∧ (True ∧ ((bif true then (bif false then true else (decide (a < b))) else false) = y0 ∧ True))))) else (false = false ∧ (false = y0 ∧ True)))) else (false = false ∧ (false = false ∧ (false = y0 ∧ True)))))
theorem cBeats_law (h : ∀ (t : (List (List Int))) (a : Int) (b : Int), cBeats.A.wf (t, a, b, ()) → (okT t ∧ 0 ≤ a ∧ a < t.length ∧ 0 ≤ b ∧ b < t.length) → cBeats_0  t a b (beatsB t a b)) : ConOK Go.Proofs.Try.prog 75 cBeats := by
  refine lawL (Γ := [(81, cMet8)]) (Θ := Th) (n := 42) [] ⟨cMet8_ok, trivial⟩ (by kernel_rfl) th_ok mix_ok Go.Proofs.Try.func75 (by kernel_rfl) ?_
  intro x hw hp Λ hC
  have h0 := h x.1 x.2.1 x.2.2.1 hw hp  
  exact Eq.mpr (by kernel_rfl) h0
theorem cBeats_ok : ConOK Go.Proofs.Try.prog 75 cBeats := by
  refine cBeats_law ?_
  intro t a b hw hp
  unfold cBeats_0
  obtain ⟨p1, p2, p3, p4, p5⟩ := hp
  refine ⟨⟨p1, inT1 ⟨p2, p3⟩⟩, ⟨p1, inT2 ⟨p2, p3⟩ ⟨p4, p5⟩⟩, ?_⟩
  have hB : inT t [b] := inT1 ⟨p4, p5⟩
  unfold beatsB
  generalize metL t [a] = x
  generalize metL t [a, b] = y
  generalize metL t [b] = z
  by_cases e : a = b
  · rw [if_neg (by simp [e])]
    exact ⟨rfl, rfl, by simp [e], trivial⟩
  · rw [if_pos (by simp [e])]
    refine ⟨trivial, ?_⟩
    by_cases e2 : x.length = y.length
    · rw [if_pos (by simp [e2])]
      refine ⟨⟨p1, hB⟩, ?_⟩
      by_cases e3 : x.length > z.length
      · rw [if_pos (by simpa using e3)]
        refine ⟨rfl, trivial, ?_, trivial⟩
        rw [show decide (x.length > z.length) = true by simpa using e3, show decide (x.length = y.length) = true by simpa using e2]
        simp [e]
      · rw [if_neg (by simpa using e3)]
        refine ⟨trivial, trivial, ?_, trivial⟩
        rw [show decide (x.length > z.length) = false by simpa using e3, show decide (x.length = y.length) = true by simpa using e2]
        simp [e]
    · rw [if_neg (by simp; omega)]
      exact ⟨rfl, by simp [e2], trivial⟩
abbrev cNeed2 : Con := { A := (.cons .int (.cons (.ref (.sl (.sl .int))) (.cons (.ref .int) .nil))), R := (.cons .bool .nil), pre := fun x => okT x.2.1 ∧ 0 ≤ x.1 ∧ x.1 < x.2.1.length ∧ 0 ≤ x.2.2.1 ∧ x.2.2.1 < x.2.1.length, F := fun x => (beatsB x.2.1 x.1 x.2.2.1, ()) }
def cNeed2_0  (k : Int) (c0 : (List (List Int))) (c1 : Int) (y0 : Bool) : Prop :=
  (okT c0 ∧ 0 ≤ k ∧ k < c0.length ∧ 0 ≤ c1 ∧ c1 < c0.length) ∧ ((beatsB c0 k c1) = y0 ∧ True)
theorem cNeed2_law (h : ∀ (k : Int) (c0 : (List (List Int))) (c1 : Int), cNeed2.A.wf (k, c0, c1, ()) → (okT c0 ∧ 0 ≤ k ∧ k < c0.length ∧ 0 ≤ c1 ∧ c1 < c0.length) → cNeed2_0  k c0 c1 (beatsB c0 k c1)) : ConOK Go.Proofs.Try.prog 74 cNeed2 := by
  refine lawL (Γ := [(75, cBeats)]) (Θ := Th) (n := 9) [] ⟨cBeats_ok, trivial⟩ (by kernel_rfl) th_ok mix_ok Go.Proofs.Try.func74 (by kernel_rfl) ?_
  intro x hw hp Λ hC
  have h0 := h x.1 x.2.1 x.2.2.1 hw hp  
  exact Eq.mpr (by kernel_rfl) h0
theorem cNeed2_ok : ConOK Go.Proofs.Try.prog 74 cNeed2 := by
  refine cNeed2_law ?_
  intro k c0 c1 hw hp
  unfold cNeed2_0
  exact ⟨hp, rfl, trivial⟩
abbrev cNeed1 : Con := { A := (.cons .int (.cons (.ref (.sl (.sl .int))) .nil)), R := (.cons .bool .nil), pre := fun x => okT x.2.1 ∧ 0 ≤ x.1 ∧ x.1 < x.2.1.length, F := fun x => (!((nums x.2.1.length).any fun k' => beatsB x.2.1 k' x.1), ()) }
def cNeed1_0  (r : Int) (c0 : (List (List Int))) (y0 : Bool) : Prop :=
  (0 ≤ (List.length c0 : Int) ∧ (List.length c0 : Int) ≤ 4294967296) ∧ ((∀ r', r' ∈ (nums (List.length c0 : Int).toNat) → (fun (xx : (Int × Unit)) => okT c0 ∧ 0 ≤ xx.1 ∧ xx.1 < c0.length ∧ 0 ≤ r ∧ r < c0.length, fun (xx : (Int × Unit)) => (beatsB c0 xx.1 r, ())).1 (r', ())) ∧ ((!((nums (List.length c0 : Int).toNat).any (fun r' => ((fun (xx : (Int × Unit)) => okT c0 ∧ 0 ≤ xx.1 ∧ xx.1 < c0.length ∧ 0 ≤ r ∧ r < c0.length, fun (xx : (Int × Unit)) => (beatsB c0 xx.1 r, ())).2 (r', ())).1))) = y0 ∧ True))
theorem cNeed1_law (h : ∀ (r : Int) (c0 : (List (List Int))), cNeed1.A.wf (r, c0, ()) → (okT c0 ∧ 0 ≤ r ∧ r < c0.length) → cNeed1_0  r c0 (!((nums c0.length).any fun k' => beatsB c0 k' r))) : ConOK Go.Proofs.Try.prog 72 cNeed1 := by
  refine lawX (X := { subs := [], frz := [2], U := [], mul := [], nst := [], nls := [], itf := none, inp := [], arrs := [] }) (hX := xok0 _ trivial) (Γ := [(67, cAll8), (73, cContI8), (74, cNeed2)]) (Θ := Th) (n := 10) [] ⟨cAll8_ok, cContI8_ok, cNeed2_ok, trivial⟩ (by kernel_rfl) th_ok mix_ok Go.Proofs.Try.func72 (by kernel_rfl) ?_
  intro x hw hp Λ hC
  have h0 := h x.1 x.2.1 hw hp  
  exact Eq.mpr (by kernel_rfl) h0
theorem cNeed1_ok : ConOK Go.Proofs.Try.prog 72 cNeed1 := by
  refine cNeed1_law ?_
  intro r c0 hw hp
  unfold cNeed1_0
  obtain ⟨p1, p2, p3⟩ := hp
  have := p1.1
  refine ⟨⟨by omega, by omega⟩, fun k hk => ?_, rfl, trivial⟩
  rw [Int.toNat_natCast] at hk
  have := nums_mem.1 hk
  exact ⟨p1, this.1, this.2, p2, p3⟩
abbrev cNeedless : Con := { A := (.cons (.sl (.sl .int)) .nil), R := (.cons (.osl .int) (.cons .int .nil)), pre := fun x => True, F := fun x => ((if validT x.1 = 0 then needT x.1 else []), validT x.1, ()) }
def cNeedless_0  (t : (List (List Int))) (y0 : (List Int)) (y1 : Int) : Prop :=
  True ∧ (if ((validT t) != (0 : Int)) = true then ((validT t) = y1 ∧ ([] : List Int) = y0) else ((0 ≤ (List.length t : Int) ∧ (List.length t : Int) ≤ 4294967296) ∧ ((∀ r', r' ∈ (nums (List.length t : Int).toNat) → (fun (xx : (Int × Unit)) => okT t ∧ 0 ≤ xx.1 ∧ xx.1 < t.length, fun (xx : (Int × Unit)) => (!((nums t.length).any fun k' => beatsB t k' xx.1), ())).1 (r', ())) ∧ ((0 : Int) = y1 ∧ ((nums (List.length t : Int).toNat).filter (fun r' => !((fun (xx : (Int × Unit)) => okT t ∧ 0 ≤ xx.1 ∧ xx.1 < t.length, fun (xx : (Int × Unit)) => (!((nums t.length).any fun k' => beatsB t k' xx.1), ())).2 (r', ())).1)) = y0))))
theorem cNeedless_law (h : ∀ (t : (List (List Int))), cNeedless.A.wf (t, ()) → cNeedless_0  t (if validT t = 0 then needT t else []) (validT t)) : ConOK Go.Proofs.Try.prog 24 cNeedless := by
  refine lawX (X := { subs := [], frz := [1], U := [], mul := [], nst := [], nls := [], itf := none, inp := [(66, cDelF)], arrs := [] }) (hX := xok0 _ ⟨cDelF_ok, trivial⟩) (Γ := [(67, cAll8), (72, cNeed1), (35, cVal8)]) (Θ := Th) (n := 15) [] ⟨cAll8_ok, cNeed1_ok, cVal8_ok, trivial⟩ (by kernel_rfl) th_ok mix_ok Go.Proofs.Try.func24 (by kernel_rfl) ?_
  intro x hw hp Λ hC
  have h0 := h x.1 hw  
  exact Eq.mpr (by kernel_rfl) h0
theorem cNeedless_ok : ConOK Go.Proofs.Try.prog 24 cNeedless := by
  refine cNeedless_law ?_
  intro t hw
  unfold cNeedless_0
  refine ⟨trivial, ?_⟩
  by_cases h0 : validT t = 0
  · rw [if_neg (by simp [h0]), if_pos h0, h0]
    have ht := validT_ok.1 h0
    have := ht.1
    refine ⟨⟨by omega, by omega⟩, fun r hr => ?_, rfl, ?_⟩
    · rw [Int.toNat_natCast] at hr
      exact ⟨ht, (nums_mem.1 hr).1, (nums_mem.1 hr).2⟩
    · unfold needT
      simp only [Bool.not_not, Int.toNat_natCast]
  · rw [if_pos (by simp [h0]), if_neg h0]
    exact ⟨rfl, rfl⟩
abbrev cWait1 : Con := { A := (.cons .int (.cons (.ref (.sl (.sl .int))) (.cons (.ref .int) .nil))), R := (.cons .bool .nil), pre := fun x => okT x.2.1 ∧ 0 ≤ x.1 ∧ x.1 < x.2.1.length ∧ 0 ≤ x.2.2.1 ∧ x.2.2.1 < goals8 x.2.1, F := fun x => (hits x.2.1 x.1 x.2.2.1.toNat, ()) }
def cWait1_0  (r : Int) (c0 : (List (List Int))) (c1 : Int) (y0 : Bool) : Prop :=
  idx r (List.length c0 : Int) ∧ (idx c1 (List.length (List.getD c0 (Int.toNat r) ([] : List Int)) : Int) ∧ (((List.getD (List.getD c0 (Int.toNat r) ([] : List Int)) (Int.toNat c1) 0) == (1 : Int)) = y0 ∧ True))
theorem cWait1_law (h : ∀ (r : Int) (c0 : (List (List Int))) (c1 : Int), cWait1.A.wf (r, c0, c1, ()) → (okT c0 ∧ 0 ≤ r ∧ r < c0.length ∧ 0 ≤ c1 ∧ c1 < goals8 c0) → cWait1_0  r c0 c1 (hits c0 r c1.toNat)) : ConOK Go.Proofs.Try.prog 109 cWait1 := by
  refine lawL (Γ := []) (Θ := Th) (n := 13) [] trivial (by kernel_rfl) th_ok mix_ok Go.Proofs.Try.func109 (by kernel_rfl) ?_
  intro x hw hp Λ hC
  have h0 := h x.1 x.2.1 x.2.2.1 hw hp  
  exact Eq.mpr (by kernel_rfl) h0
theorem cWait1_ok : ConOK Go.Proofs.Try.prog 109 cWait1 := by
  refine cWait1_law ?_
  intro r c0 c1 hw hp
  unfold cWait1_0
  obtain ⟨p1, p2, p3, p4, p5⟩ := hp
  refine ⟨⟨p2, p3⟩, ⟨p4, ?_⟩, rfl, trivial⟩
  rw [okT_row p1 (by omega)]
  exact p5
abbrev cWait : Con := { A := (.cons (.sl (.sl .int)) (.cons (.sl .int) .nil)), R := (.cons .int .nil), pre := fun x => okT x.1 ∧ inT x.1 x.2.1 ∧ x.2.1.length ≤ 100, F := fun x => (waitL x.1 x.2.1, ()) }
def cWait_0 (Λ1 : Int → Int → Prop) (t : (List (List Int))) (order : (List Int)) (y0 : Int) : Prop :=
  okT t ∧ Λ1 (0 : Int) (0 : Int)
def cWait_1 (Λ1 : Int → Int → Prop) (t : (List (List Int))) (order : (List Int)) (y0 : Int)  (sum_1 : Int) (t11_1 : Int) : Prop :=
  if (decide (t11_1 < (List.length (openL t) : Int))) = true then (idx t11_1 (List.length (openL t) : Int) ∧ ((∀ r', r' ∈ order → (fun (xx : (Int × Unit)) => okT t ∧ 0 ≤ xx.1 ∧ xx.1 < t.length ∧ 0 ≤ (List.getD (openL t) (Int.toNat t11_1) 0) ∧ (List.getD (openL t) (Int.toNat t11_1) 0) < goals8 t, fun (xx : (Int × Unit)) => (hits t xx.1 (List.getD (openL t) (Int.toNat t11_1) 0).toNat, ())).1 (r', ())) ∧ (inI ((idxF (fun r' => ((fun (xx : (Int × Unit)) => okT t ∧ 0 ≤ xx.1 ∧ xx.1 < t.length ∧ 0 ≤ (List.getD (openL t) (Int.toNat t11_1) 0) ∧ (List.getD (openL t) (Int.toNat t11_1) 0) < goals8 t, fun (xx : (Int × Unit)) => (hits t xx.1 (List.getD (openL t) (Int.toNat t11_1) 0).toNat, ())).2 (r', ())).1) order) + (1 : Int)) ∧ (inI (sum_1 + ((idxF (fun r' => ((fun (xx : (Int × Unit)) => okT t ∧ 0 ≤ xx.1 ∧ xx.1 < t.length ∧ 0 ≤ (List.getD (openL t) (Int.toNat t11_1) 0) ∧ (List.getD (openL t) (Int.toNat t11_1) 0) < goals8 t, fun (xx : (Int × Unit)) => (hits t xx.1 (List.getD (openL t) (Int.toNat t11_1) 0).toNat, ())).2 (r', ())).1) order) + (1 : Int))) ∧ (inI (t11_1 + (1 : Int)) ∧ Λ1 (sum_1 + ((idxF (fun r' => ((fun (xx : (Int × Unit)) => okT t ∧ 0 ≤ xx.1 ∧ xx.1 < t.length ∧ 0 ≤ (List.getD (openL t) (Int.toNat t11_1) 0) ∧ (List.getD (openL t) (Int.toNat t11_1) 0) < goals8 t, fun (xx : (Int × Unit)) => (hits t xx.1 (List.getD (openL t) (Int.toNat t11_1) 0).toNat, ())).2 (r', ())).1) order) + (1 : Int))) (t11_1 + (1 : Int))))))) else (sum_1 = y0 ∧ True)
theorem cWait_law (h : ∀ (t : (List (List Int))) (order : (List Int)), cWait.A.wf (t, order, ()) → (okT t ∧ inT t order ∧ order.length ≤ 100) → ∀ (Λ1 : Int → Int → Prop), (∀ (sum_1 : Int) (t11_1 : Int), cWait_1 Λ1 t order (waitL t order) sum_1 t11_1 → Λ1 sum_1 t11_1) → cWait_0 Λ1 t order (waitL t order)) : ConOK Go.Proofs.Try.prog 88 cWait := by
  refine lawX (X := { subs := [], frz := [2], U := [], mul := [], nst := [], nls := [], itf := none, inp := [], arrs := [] }) (hX := xok0 _ trivial) (Γ := [(106, cIndexI8), (57, cOpen8), (109, cWait1)]) (Θ := Th) (n := 23) [([1, 1, 0, 1, 0], ⟨[(1, false), (2, false), (5, true), (9, true), (10, true), (11, true)], [(9, true)]⟩)] ⟨cIndexI8_ok, cOpen8_ok, cWait1_ok, trivial⟩ (by kernel_rfl) th_ok mix_ok Go.Proofs.Try.func88 (by kernel_rfl) ?_
  intro x hw hp Λ hC
  have h0 := h x.1 x.2.1 hw hp (fun sum_1 t11_1 => Λ [1, 1, 0, 1, 0] ([(1, .d false (.sl .int) x.2.1), (2, .ept false (.sl (.sl .int)) x.1), (5, .d true .int sum_1), (9, .own 9 0), (10, .d true .int (List.length (openL x.1) : Int)), (11, .d true .int t11_1)], [(9, .sl true .int (openL x.1))])) (fun sum_1 t11_1 hb => hC [1, 1, 0, 1, 0] ([(1, .d false (.sl .int) x.2.1), (2, .ept false (.sl (.sl .int)) x.1), (5, .d true .int sum_1), (9, .own 9 0), (10, .d true .int (List.length (openL x.1) : Int)), (11, .d true .int t11_1)], [(9, .sl true .int (openL x.1))]) (Eq.mpr (by kernel_rfl) hb))
  exact Eq.mpr (by kernel_rfl) h0
theorem cWait_ok : ConOK Go.Proofs.Try.prog 88 cWait := by
  refine cWait_law ?_
  intro t order hw hp Λ1 h1
  unfold cWait_0
  obtain ⟨p1, p2, p3⟩ := hp
  have ho := openL_len t
  have hg := p1.2.1
  refine ⟨p1, ?_⟩
  have hb : ∀ g ∈ openL t, 0 ≤ waitG t order g ∧ waitG t order g ≤ 101 := fun g _ => by
    unfold waitG
    have := idxF_bound (fun r => hits t r g.toNat) order
    omega
  have hs : ∀ i, 0 ≤ (((openL t).take i).map (waitG t order)).sum ∧ (((openL t).take i).map (waitG t order)).sum ≤ 1010 := fun i => by
    have := sum_bound (l := (openL t).take i) (f := waitG t order) (a := 0) (b := 101) fun g hg => hb g (List.mem_of_mem_take hg)
    have h2 : ((openL t).take i).length ≤ 10 := by rw [List.length_take]; omega
    omega
  refine upto (n := (openL t).length) (Q := fun i => Λ1 ((((openL t).take i).map (waitG t order)).sum) i) ?_ ?_ 0 (Nat.zero_le _)
  · rw [List.take_length]
    apply h1; unfold cWait_1
    rw [if_neg (by simp)]
    exact ⟨rfl, trivial⟩
  · intro i hi ih
    apply h1; unfold cWait_1
    have h2 := openL_in t _ (mem_getD (d := 0) hi)
    have h3 := hs i
    have h4 := hb _ (mem_getD (d := 0) hi)
    rw [sum_take (f := waitG t order) hi] at ih
    simp only [Int.toNat_natCast]
    rw [if_pos (by simpa using hi)]
    generalize (openL t).getD i 0 = g at h2 h4 ih ⊢
    unfold waitG at h4
    refine ⟨idx_nat hi, fun r hr => ⟨p1, (p2 r hr).1, (p2 r hr).2, h2.1, h2.2⟩, by unfold inI; omega, by unfold inI; omega, by unfold inI; omega, ih⟩
abbrev cCheap1 : Con := { A := (.cons .int .nil), R := (.cons .bool .nil), pre := fun x => True, F := fun x => (!(within x.1 1 99), ()) }
def cCheap1_0  (n : Int) (y0 : Bool) : Prop :=
  True ∧ ((!(within n (1 : Int) (99 : Int))) = y0 ∧ True)
theorem cCheap1_law (h : ∀ (n : Int), cCheap1.A.wf (n, ()) → cCheap1_0  n (!(within n 1 99))) : ConOK Go.Proofs.Try.prog 94 cCheap1 := by
  refine lawL (Γ := [(84, cWithin8)]) (Θ := Th) (n := 6) [] ⟨cWithin8_ok, trivial⟩ (by kernel_rfl) th_ok mix_ok Go.Proofs.Try.func94 (by kernel_rfl) ?_
  intro x hw hp Λ hC
  have h0 := h x.1 hw  
  exact Eq.mpr (by kernel_rfl) h0
theorem cCheap1_ok : ConOK Go.Proofs.Try.prog 94 cCheap1 := by
  refine cCheap1_law ?_
  intro n hw
  unfold cCheap1_0
  exact ⟨trivial, rfl, trivial⟩
end Go.Tk
