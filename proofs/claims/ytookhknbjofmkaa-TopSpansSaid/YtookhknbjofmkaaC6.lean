import Derived.Test.YtookhknbjofmkaaC1
import Derived.Test.YtookhknbjofmkaaP6
set_option linter.unusedSimpArgs false
set_option linter.unusedVariables false
namespace Go.Tk
open Go Go.RowKit

abbrev cWithin6 : Con := { A := (.cons .int (.cons .int (.cons .int .nil))), R := (.cons .bool .nil), pre := fun x => True, F := fun x => (within x.1 x.2.1 x.2.2.1, ()) }
def cWithin6_0  (n : Int) (lo : Int) (hi : Int) (y0 : Bool) : Prop :=
  if (decide (lo ≤ n)) = true then (True ∧ ((bif true then (decide (n ≤ hi)) else false) = y0 ∧ True)) else (false = false ∧ (false = y0 ∧ True))
theorem cWithin6_law (h : ∀ (n : Int) (lo : Int) (hi : Int), cWithin6.A.wf (n, lo, hi, ()) → cWithin6_0  n lo hi (within n lo hi)) : ConOK Go.Proofs.Try.prog 93 cWithin6 := by
  refine lawL (Γ := []) (Θ := Th) (n := 15) [] trivial (by kernel_rfl) th_ok mix_ok Go.Proofs.Try.func93 (by kernel_rfl) ?_
  intro x hw hp Λ hC
  have h0 := h x.1 x.2.1 x.2.2.1 hw  
  exact Eq.mpr (by kernel_rfl) h0
theorem cWithin6_ok : ConOK Go.Proofs.Try.prog 93 cWithin6 := by
  refine cWithin6_law ?_
  intro n lo hi hw
  unfold cWithin6_0
  unfold within
  split <;> simp_all
  omega
abbrev cIsRange : Con := { A := (.cons tR .nil), R := (.cons .bool .nil), pre := fun x => True, F := fun x => (isRange x.1, ()) }
def cIsRange_0  (r : Rng) (y0 : Bool) : Prop :=
  True ∧ (if (within r.1 (-999 : Int) (999 : Int)) = true then (True ∧ (True ∧ ((bif true then (within r.2.1 r.1 (999 : Int)) else false) = y0 ∧ True))) else (false = false ∧ (false = y0 ∧ True)))
theorem cIsRange_law (h : ∀ (r : Rng), cIsRange.A.wf (r, ()) → cIsRange_0  r (isRange r)) : ConOK Go.Proofs.Try.prog 138 cIsRange := by
  refine lawL (Γ := [(93, cWithin6)]) (Θ := Th) (n := 13) [] ⟨cWithin6_ok, trivial⟩ (by kernel_rfl) th_ok mix_ok Go.Proofs.Try.func138 (by kernel_rfl) ?_
  intro x hw hp Λ hC
  have h0 := h x.1 hw  
  exact Eq.mpr (by kernel_rfl) h0
theorem cIsRange_ok : ConOK Go.Proofs.Try.prog 138 cIsRange := by
  refine cIsRange_law ?_
  intro r hw
  unfold cIsRange_0
  unfold isRange
  split <;> simp_all
abbrev cNotRange : Con := { A := (.cons tR .nil), R := (.cons .bool .nil), pre := fun x => True, F := fun x => (!(isRange x.1), ()) }
def cNotRange_0  (r : Rng) (y0 : Bool) : Prop :=
  True ∧ ((!(isRange r)) = y0 ∧ True)
theorem cNotRange_law (h : ∀ (r : Rng), cNotRange.A.wf (r, ()) → cNotRange_0  r (!(isRange r))) : ConOK Go.Proofs.Try.prog 137 cNotRange := by
  refine lawL (Γ := [(138, cIsRange)]) (Θ := Th) (n := 6) [] ⟨cIsRange_ok, trivial⟩ (by kernel_rfl) th_ok mix_ok Go.Proofs.Try.func137 (by kernel_rfl) ?_
  intro x hw hp Λ hC
  have h0 := h x.1 hw  
  exact Eq.mpr (by kernel_rfl) h0
theorem cNotRange_ok : ConOK Go.Proofs.Try.prog 137 cNotRange := by
  refine cNotRange_law ?_
  intro r hw
  unfold cNotRange_0
  exact ⟨trivial, rfl, trivial⟩
abbrev cIndexR : Con := { A := (.cons (.sl tR) (.cons (.fn (.cons tR .nil) (.cons .bool .nil)) .nil)), R := (.cons .int .nil), pre := fun x => ∀ r, tR.wf r → x.2.1.1 (r, ()), F := fun x => (idxF (fun r => (x.2.1.2 (r, ())).1) x.1, ()) }
def cIndexR_0 (Λ1 : Int → Prop) (s : (List Rng)) (f : (T.fn (.cons tR .nil) (.cons .bool .nil)).den) (y0 : Int) : Prop :=
  Λ1 (0 : Int)
def cIndexR_1 (Λ1 : Int → Prop) (s : (List Rng)) (f : (T.fn (.cons tR .nil) (.cons .bool .nil)).den) (y0 : Int)  (t8_1 : Int) : Prop :=
  if (decide (t8_1 < (List.length s : Int))) = true then (idx t8_1 (List.length s : Int) ∧ (f.1 ((List.getD s (Int.toNat t8_1) tR.dflt), ()) ∧ (if ((f.2 ((List.getD s (Int.toNat t8_1) tR.dflt), ())).1) = true then (t8_1 = y0 ∧ True) else (inI (t8_1 + (1 : Int)) ∧ Λ1 (t8_1 + (1 : Int)))))) else ((-1 : Int) = y0 ∧ True)
theorem cIndexR_law (h : ∀ (s : (List Rng)) (f : (T.fn (.cons tR .nil) (.cons .bool .nil)).den), cIndexR.A.wf (s, f, ()) → (∀ r, tR.wf r → f.1 (r, ())) → ∀ (Λ1 : Int → Prop), (∀ (t8_1 : Int), cIndexR_1 Λ1 s f (idxF (fun r => (f.2 (r, ())).1) s) t8_1 → Λ1 t8_1) → cIndexR_0 Λ1 s f (idxF (fun r => (f.2 (r, ())).1) s)) : ConOK Go.Proofs.Try.prog 167 cIndexR := by
  refine lawL (Γ := []) (Θ := Th) (n := 19) [([1, 0, 1, 0], ⟨[(0, false), (1, false), (7, true), (8, true)], []⟩)] trivial (by kernel_rfl) th_ok mix_ok Go.Proofs.Try.func167 (by kernel_rfl) ?_
  intro x hw hp Λ hC
  have h0 := h x.1 x.2.1 hw hp (fun t8_1 => Λ [1, 0, 1, 0] ([(0, .d false (.sl tR) x.1), (1, .d false (.fn (.cons tR .nil) (.cons .bool .nil)) x.2.1), (7, .d true .int (List.length x.1 : Int)), (8, .d true .int t8_1)], [])) (fun t8_1 hb => hC [1, 0, 1, 0] ([(0, .d false (.sl tR) x.1), (1, .d false (.fn (.cons tR .nil) (.cons .bool .nil)) x.2.1), (7, .d true .int (List.length x.1 : Int)), (8, .d true .int t8_1)], []) (Eq.mpr (by kernel_rfl) hb))
  exact Eq.mpr (by kernel_rfl) h0
theorem cIndexR_ok : ConOK Go.Proofs.Try.prog 167 cIndexR := by
  refine cIndexR_law ?_
  intro s f hw hp Λ1 h1
  unfold cIndexR_0
  refine upto (n := s.length) (Q := fun i => (s.take i).any (fun r => (f.2 (r, ())).1) = false → Λ1 i) ?_ ?_ 0 (Nat.zero_le _) rfl
  · intro ha
    rw [List.take_length] at ha
    apply h1; unfold cIndexR_1; rw [if_neg (by simp), idxF_none ha]
    exact ⟨rfl, trivial⟩
  · intro i hi ih ha
    apply h1; unfold cIndexR_1; rw [if_pos (by simpa using hi), Int.toNat_natCast]
    refine ⟨idx_nat hi, hp _ (hw.1.2 _ (mem_getD hi)), ?_⟩
    cases hv : (f.2 (List.getD s i tR.dflt, ())).1
    · rw [if_neg (by simp)]
      exact ⟨inI_succ hi hw.1.1, ih (any_take_next (p := fun r => (f.2 (r, ())).1) tR.dflt hi ha hv)⟩
    · rw [if_pos (by rfl), idxF_at (p := fun r => (f.2 (r, ())).1) tR.dflt hi ha hv]
      exact ⟨rfl, trivial⟩
abbrev cContR : Con := { A := (.cons (.sl tR) (.cons (.fn (.cons tR .nil) (.cons .bool .nil)) .nil)), R := (.cons .bool .nil), pre := fun x => ∀ r, tR.wf r → x.2.1.1 (r, ()), F := fun x => (x.1.any (fun r => (x.2.1.2 (r, ())).1), ()) }
def cContR_0  (s : (List Rng)) (f : (T.fn (.cons tR .nil) (.cons .bool .nil)).den) (y0 : Bool) : Prop :=
  (∀ r, tR.wf r → f.1 (r, ())) ∧ ((decide ((idxF (fun r => (f.2 (r, ())).1) s) ≥ (0 : Int))) = y0 ∧ True)
theorem cContR_law (h : ∀ (s : (List Rng)) (f : (T.fn (.cons tR .nil) (.cons .bool .nil)).den), cContR.A.wf (s, f, ()) → (∀ r, tR.wf r → f.1 (r, ())) → cContR_0  s f (s.any (fun r => (f.2 (r, ())).1))) : ConOK Go.Proofs.Try.prog 136 cContR := by
  refine lawL (Γ := [(167, cIndexR)]) (Θ := Th) (n := 9) [] ⟨cIndexR_ok, trivial⟩ (by kernel_rfl) th_ok mix_ok Go.Proofs.Try.func136 (by kernel_rfl) ?_
  intro x hw hp Λ hC
  have h0 := h x.1 x.2.1 hw hp  
  exact Eq.mpr (by kernel_rfl) h0
theorem cContR_ok : ConOK Go.Proofs.Try.prog 136 cContR := by
  refine cContR_law ?_
  intro s f hw hp
  unfold cContR_0
  exact ⟨hp, idxF_any _ _, trivial⟩
abbrev cValB : Con := { A := (.cons (.sl tR) .nil), R := (.cons .int .nil), pre := fun x => True, F := fun x => (argErr (validB x.1), ()) }
def cValB_0  (b : (List Rng)) (y0 : Int) : Prop :=
  if ((List.length b : Int) != (4 : Int)) = true then (true = true ∧ ((1 : Int) = y0 ∧ True)) else ((∀ r, tR.wf r → (fun (xx : (Rng × Unit)) => True, fun (xx : (Rng × Unit)) => (!(isRange xx.1), ())).1 (r, ())) ∧ (True ∧ (if (bif false then true else (b.any (fun r => ((fun (xx : (Rng × Unit)) => True, fun (xx : (Rng × Unit)) => (!(isRange xx.1), ())).2 (r, ())).1))) = true then ((1 : Int) = y0 ∧ True) else ((0 : Int) = y0 ∧ True))))
theorem cValB_law (h : ∀ (b : (List Rng)), cValB.A.wf (b, ()) → cValB_0  b (argErr (validB b))) : ConOK Go.Proofs.Try.prog 87 cValB := by
  refine lawL (Γ := [(136, cContR), (137, cNotRange)]) (Θ := Th) (n := 10) [] ⟨cContR_ok, cNotRange_ok, trivial⟩ (by kernel_rfl) th_ok mix_ok Go.Proofs.Try.func87 (by kernel_rfl) ?_
  intro x hw hp Λ hC
  have h0 := h x.1 hw  
  exact Eq.mpr (by kernel_rfl) h0
theorem cValB_ok : ConOK Go.Proofs.Try.prog 87 cValB := by
  refine cValB_law ?_
  intro b hw
  unfold cValB_0
  unfold validB
  simp only [bne_iff_ne, ne_eq]
  split
  · rename_i h4
    rw [show decide (b.length = 4) = false by simp; omega]
    exact ⟨trivial, rfl, trivial⟩
  · rename_i h4
    rw [show decide (b.length = 4) = true by simp; omega]
    refine ⟨fun _ _ => trivial, trivial, ?_⟩
    show if (b.any fun r => !isRange r) = true then _ else _
    rw [any_not_all]
    cases b.all isRange <;> exact ⟨rfl, trivial⟩
abbrev cTwo6 : Con := { A := (.cons (.sl tR) (.cons (.sl tR) .nil)), R := (.cons .int .nil), pre := fun x => True, F := fun x => ((if validB x.1 = true then argErr (validB x.2.1) else 1), ()) }
def cTwo6_0  (a : (List Rng)) (b : (List Rng)) (y0 : Int) : Prop :=
  True ∧ (if ((argErr (validB a)) != (0 : Int)) = true then ((argErr (validB a)) = y0 ∧ True) else (True ∧ ((argErr (validB b)) = y0 ∧ True)))
theorem cTwo6_law (h : ∀ (a : (List Rng)) (b : (List Rng)), cTwo6.A.wf (a, b, ()) → cTwo6_0  a b (if validB a = true then argErr (validB b) else 1)) : ConOK Go.Proofs.Try.prog 89 cTwo6 := by
  refine lawL (Γ := [(87, cValB)]) (Θ := Th) (n := 13) [] ⟨cValB_ok, trivial⟩ (by kernel_rfl) th_ok mix_ok Go.Proofs.Try.func89 (by kernel_rfl) ?_
  intro x hw hp Λ hC
  have h0 := h x.1 x.2.1 hw  
  exact Eq.mpr (by kernel_rfl) h0
theorem cTwo6_ok : ConOK Go.Proofs.Try.prog 89 cTwo6 := by
  refine cTwo6_law ?_
  intro a b hw
  unfold cTwo6_0
  cases validB a <;> simp [argErr]
theorem zip_snoc {α : Type} (d : α) {g : α → α → α} {a b : List α} {i : Nat} (ha : i < a.length) (hb : a.length ≤ b.length) : (List.zipWith g a b).take (i + 1) = (List.zipWith g a b).take i ++ [g (a.getD i d) (b.getD i d)] := by
  have hl : i < (List.zipWith g a b).length := by simp; omega
  rw [take_snoc (g d d) hl]
  have hb' : i < b.length := by omega
  simp [List.getD_eq_getElem?_getD, List.getElem?_zipWith, ha, hb']

abbrev cJoin : Con := { A := (.cons (.sl tR) (.cons (.sl tR) (.cons (.fn (.cons tR (.cons tR .nil)) (.cons tR .nil)) .nil))), R := (.cons (.osl tR) .nil), pre := fun x => x.1.length ≤ x.2.1.length ∧ x.1.length ≤ 1000 ∧ ∀ r s, tR.wf r → tR.wf s → x.2.2.1.1 (r, s, ()), F := fun x => (join (fun r s => (x.2.2.1.2 (r, s, ())).1) x.1 x.2.1, ()) }
def cJoin_0 (Λ1 : Int → (List Rng) → Prop) (a : (List Rng)) (b : (List Rng)) (of_ : (T.fn (.cons tR (.cons tR .nil)) (.cons tR .nil)).den) (y0 : (List Rng)) : Prop :=
  Λ1 (0 : Int) ([] : List Rng)
def cJoin_1 (Λ1 : Int → (List Rng) → Prop) (a : (List Rng)) (b : (List Rng)) (of_ : (T.fn (.cons tR (.cons tR .nil)) (.cons tR .nil)).den) (y0 : (List Rng))  (t12_1 : Int) (out_1 : (List Rng)) : Prop :=
  if (decide (t12_1 < (List.length a : Int))) = true then (idx t12_1 (List.length a : Int) ∧ (idx t12_1 (List.length b : Int) ∧ (of_.1 ((List.getD a (Int.toNat t12_1) tR.dflt), (List.getD b (Int.toNat t12_1) tR.dflt), ()) ∧ (List.length out_1 + List.length [((of_.2 ((List.getD a (Int.toNat t12_1) tR.dflt), (List.getD b (Int.toNat t12_1) tR.dflt), ())).1)] ≤ 4294967296 ∧ (inI (t12_1 + (1 : Int)) ∧ Λ1 (t12_1 + (1 : Int)) (out_1 ++ [((of_.2 ((List.getD a (Int.toNat t12_1) tR.dflt), (List.getD b (Int.toNat t12_1) tR.dflt), ())).1)])))))) else out_1 = y0
theorem cJoin_law (h : ∀ (a : (List Rng)) (b : (List Rng)) (of_ : (T.fn (.cons tR (.cons tR .nil)) (.cons tR .nil)).den), cJoin.A.wf (a, b, of_, ()) → (a.length ≤ b.length ∧ a.length ≤ 1000 ∧ ∀ r s, tR.wf r → tR.wf s → of_.1 (r, s, ())) → ∀ (Λ1 : Int → (List Rng) → Prop), (∀ (t12_1 : Int) (out_1 : (List Rng)), cJoin_1 Λ1 a b of_ (join (fun r s => (of_.2 (r, s, ())).1) a b) t12_1 out_1 → Λ1 t12_1 out_1) → cJoin_0 Λ1 a b of_ (join (fun r s => (of_.2 (r, s, ())).1) a b)) : ConOK Go.Proofs.Try.prog 91 cJoin := by
  refine lawL (Γ := []) (Θ := Th) (n := 29) [([1, 1, 0, 1, 0], ⟨[(1, false), (2, false), (7, true), (10, false), (11, true), (12, true)], [(7, true)]⟩)] trivial (by kernel_rfl) th_ok mix_ok Go.Proofs.Try.func91 (by kernel_rfl) ?_
  intro x hw hp Λ hC
  have h0 := h x.1 x.2.1 x.2.2.1 hw hp (fun t12_1 out_1 => Λ [1, 1, 0, 1, 0] ([(1, .d false (.sl tR) x.2.1), (2, .d false (.fn (.cons tR (.cons tR .nil)) (.cons tR .nil)) x.2.2.1), (7, .own 7 0), (10, .d false (.sl tR) x.1), (11, .d true .int (List.length x.1 : Int)), (12, .d true .int t12_1)], [(7, .sl true tR out_1)])) (fun t12_1 out_1 hb => hC [1, 1, 0, 1, 0] ([(1, .d false (.sl tR) x.2.1), (2, .d false (.fn (.cons tR (.cons tR .nil)) (.cons tR .nil)) x.2.2.1), (7, .own 7 0), (10, .d false (.sl tR) x.1), (11, .d true .int (List.length x.1 : Int)), (12, .d true .int t12_1)], [(7, .sl true tR out_1)]) (Eq.mpr (by kernel_rfl) hb))
  exact Eq.mpr (by kernel_rfl) h0
theorem cJoin_ok : ConOK Go.Proofs.Try.prog 91 cJoin := by
  refine cJoin_law ?_
  intro a b of_ hw hp Λ1 h1
  unfold cJoin_0
  obtain ⟨hp1, hp2, hp3⟩ := hp
  refine upto (n := a.length) (Q := fun i => Λ1 i ((List.zipWith (fun r s => (of_.2 (r, s, ())).1) a b).take i)) ?_ ?_ 0 (Nat.zero_le _)
  · apply h1; unfold cJoin_1; rw [if_neg (by simp)]
    unfold join
    rw [List.take_of_length_le (by simp only [List.length_zipWith]; omega)]
  · intro i hi ih
    apply h1; unfold cJoin_1; rw [if_pos (by simpa using hi), Int.toNat_natCast]
    refine ⟨idx_nat hi, idx_nat (by omega), hp3 _ _ (hw.1.2 _ (mem_getD hi)) (hw.2.1.2 _ (mem_getD (show i < b.length by omega))), ?_, inI_succ hi (by omega), ?_⟩
    · simp only [List.length_take, List.length_zipWith, List.length_cons, List.length_nil]; omega
    · rw [zip_snoc tR.dflt hi hp1] at ih
      exact ih
abbrev cHull2 : Con := { A := (.cons tR (.cons tR .nil)), R := (.cons tR .nil), pre := fun x => True, F := fun x => (hull2 x.1 x.2.1, ()) }
def cHull2_0  (r : Rng) (s : Rng) (y0 : Rng) : Prop :=
  ((min r.1 s.1), (max r.2.1 s.2.1), ()) = y0 ∧ True
theorem cHull2_law (h : ∀ (r : Rng) (s : Rng), cHull2.A.wf (r, s, ()) → cHull2_0  r s (hull2 r s)) : ConOK Go.Proofs.Try.prog 92 cHull2 := by
  refine lawL (Γ := []) (Θ := Th) (n := 16) [] trivial (by kernel_rfl) th_ok mix_ok Go.Proofs.Try.func92 (by kernel_rfl) ?_
  intro x hw hp Λ hC
  have h0 := h x.1 x.2.1 hw  
  exact Eq.mpr (by kernel_rfl) h0
theorem cHull2_ok : ConOK Go.Proofs.Try.prog 92 cHull2 := by
  refine cHull2_law ?_
  intro r s hw
  unfold cHull2_0
  exact ⟨rfl, trivial⟩
abbrev cCloneR : Con := { A := (.cons (.sl tR) .nil), R := (.cons (.osl tR) .nil), pre := fun x => x.1.length ≤ 1000000, F := fun x => (x.1, ()) }
def cCloneR_0  (s : (List Rng)) (y0 : (List Rng)) : Prop :=
  (s = [] → ([] : List Rng) = y0) ∧ (True → (List.length ([] : List Rng) + List.length s ≤ 4294967296 ∧ (([] : List Rng) ++ s) = y0))
theorem cCloneR_law (h : ∀ (s : (List Rng)), cCloneR.A.wf (s, ()) → (s.length ≤ 1000000) → cCloneR_0  s s) : ConOK Go.Proofs.Try.prog 94 cCloneR := by
  refine lawL (Γ := []) (Θ := Th) (n := 8) [] trivial (by kernel_rfl) th_ok mix_ok Go.Proofs.Try.func94 (by kernel_rfl) ?_
  intro x hw hp Λ hC
  have h0 := h x.1 hw hp  
  exact Eq.mpr (by kernel_rfl) h0
theorem cCloneR_ok : ConOK Go.Proofs.Try.prog 94 cCloneR := by
  refine cCloneR_law ?_
  intro s hw hp
  unfold cCloneR_0
  exact ⟨fun h => h.symm, fun _ => ⟨by simp only [List.length_nil]; omega, by simp⟩⟩
abbrev cCome : Con := { A := (.cons tSpot (.cons (.sl tR) .nil)), R := (.cons tSpot .nil), pre := fun x => x.2.1.length ≤ 1000 ∧ x.1.2.1.length ≤ x.2.1.length, F := fun x => (comeS x.1 x.2.1, ()) }
def cCome_0  (s : Spot) (b : (List Rng)) (y0 : Spot) : Prop :=
  if (!s.1.1) = true then (b.length ≤ 1000000 ∧ (((true, ()), b, ()) = y0 ∧ True)) else ((s.2.1.length ≤ b.length ∧ s.2.1.length ≤ 1000 ∧ ∀ r s, tR.wf r → tR.wf s → (fun (xx : (Rng × Rng × Unit)) => True, fun (xx : (Rng × Rng × Unit)) => (hull2 xx.1 xx.2.1, ())).1 (r, s, ())) ∧ ((s.1, (join (fun r s => ((fun (xx : (Rng × Rng × Unit)) => True, fun (xx : (Rng × Rng × Unit)) => (hull2 xx.1 xx.2.1, ())).2 (r, s, ())).1) s.2.1 b), ()) = y0 ∧ True))
theorem cCome_law (h : ∀ (s : Spot) (b : (List Rng)), cCome.A.wf (s, b, ()) → (b.length ≤ 1000 ∧ s.2.1.length ≤ b.length) → cCome_0  s b (comeS s b)) : ConOK Go.Proofs.Try.prog 159 cCome := by
  refine lawL (Γ := [(94, cCloneR), (92, cHull2), (91, cJoin)]) (Θ := Th) (n := 20) [] ⟨cCloneR_ok, cHull2_ok, cJoin_ok, trivial⟩ (by kernel_rfl) th_ok mix_ok Go.Proofs.Try.func159 (by kernel_rfl) ?_
  intro x hw hp Λ hC
  have h0 := h x.1 x.2.1 hw hp  
  exact Eq.mpr (by kernel_rfl) h0
theorem cCome_ok : ConOK Go.Proofs.Try.prog 159 cCome := by
  refine cCome_law ?_
  intro s b hw hp
  unfold cCome_0
  unfold comeS
  cases h : s.1.1
  · rw [if_pos (by rfl)]
    exact ⟨by omega, rfl, trivial⟩
  · rw [if_neg (by simp)]
    exact ⟨⟨by omega, by omega, fun _ _ _ _ => trivial⟩, rfl, trivial⟩
abbrev cCut : Con := { A := (.cons .int .nil), R := (.cons .int .nil), pre := fun x => True, F := fun x => (cut x.1, ()) }
def cCut_0  (n : Int) (y0 : Int) : Prop :=
  (max (-999 : Int) (min (999 : Int) n)) = y0 ∧ True
theorem cCut_law (h : ∀ (n : Int), cCut.A.wf (n, ()) → cCut_0  n (cut n)) : ConOK Go.Proofs.Try.prog 174 cCut := by
  refine lawL (Γ := []) (Θ := Th) (n := 6) [] trivial (by kernel_rfl) th_ok mix_ok Go.Proofs.Try.func174 (by kernel_rfl) ?_
  intro x hw hp Λ hC
  have h0 := h x.1 hw  
  exact Eq.mpr (by kernel_rfl) h0
theorem cCut_ok : ConOK Go.Proofs.Try.prog 174 cCut := by
  refine cCut_law ?_
  intro n hw
  unfold cCut_0
  exact ⟨rfl, trivial⟩
abbrev cWrite : Con := { A := (.cons tL (.cons (.sl tR) .nil)), R := (.cons tR (.cons .bool .nil)), pre := fun x => validLine x.1 = true ∧ validB x.2.1 = true, F := fun x => ((if writes x.1 then cutR (wrange x.1 x.2.1) else (0, 0, ())), writes x.1, ()) }
def cWrite_0  (l : Lin) (b : (List Rng)) (y0 : Rng) (y1 : Bool) : Prop :=
  if (l.1 == (1 : Int)) = true then (True ∧ (True ∧ (((cut l.2.2.1), (cut l.2.2.1), ()) = y0 ∧ true = y1 ∧ True))) else (if (l.1 == (2 : Int)) = true then (idx l.2.2.1 (List.length b : Int) ∧ (idx l.2.2.1 (List.length b : Int) ∧ (True ∧ (True ∧ (((cut ((List.getD b (Int.toNat l.2.2.1) tR.dflt).1)), (cut ((List.getD b (Int.toNat l.2.2.1) tR.dflt).2.1)), ()) = y0 ∧ true = y1 ∧ True))))) else (if (l.1 == (3 : Int)) = true then (idx l.2.2.1 (List.length b : Int) ∧ (idx l.2.2.2.1 (List.length b : Int) ∧ (inI ((List.getD b (Int.toNat l.2.2.1) tR.dflt).1 + (List.getD b (Int.toNat l.2.2.2.1) tR.dflt).1) ∧ (idx l.2.2.1 (List.length b : Int) ∧ (idx l.2.2.2.1 (List.length b : Int) ∧ (inI ((List.getD b (Int.toNat l.2.2.1) tR.dflt).2.1 + (List.getD b (Int.toNat l.2.2.2.1) tR.dflt).2.1) ∧ (True ∧ (True ∧ (((cut ((List.getD b (Int.toNat l.2.2.1) tR.dflt).1 + (List.getD b (Int.toNat l.2.2.2.1) tR.dflt).1)), (cut ((List.getD b (Int.toNat l.2.2.1) tR.dflt).2.1 + (List.getD b (Int.toNat l.2.2.2.1) tR.dflt).2.1)), ()) = y0 ∧ true = y1 ∧ True))))))))) else (if (l.1 == (4 : Int)) = true then (idx l.2.2.1 (List.length b : Int) ∧ (idx l.2.2.2.1 (List.length b : Int) ∧ (inI ((List.getD b (Int.toNat l.2.2.1) tR.dflt).1 - (List.getD b (Int.toNat l.2.2.2.1) tR.dflt).2.1) ∧ (idx l.2.2.1 (List.length b : Int) ∧ (idx l.2.2.2.1 (List.length b : Int) ∧ (inI ((List.getD b (Int.toNat l.2.2.1) tR.dflt).2.1 - (List.getD b (Int.toNat l.2.2.2.1) tR.dflt).1) ∧ (True ∧ (True ∧ (((cut ((List.getD b (Int.toNat l.2.2.1) tR.dflt).1 - (List.getD b (Int.toNat l.2.2.2.1) tR.dflt).2.1)), (cut ((List.getD b (Int.toNat l.2.2.1) tR.dflt).2.1 - (List.getD b (Int.toNat l.2.2.2.1) tR.dflt).1)), ()) = y0 ∧ true = y1 ∧ True))))))))) else (if (l.1 == (5 : Int)) = true then (idx l.2.2.1 (List.length b : Int) ∧ (idx l.2.2.2.1 (List.length b : Int) ∧ (idx l.2.2.1 (List.length b : Int) ∧ (idx l.2.2.2.1 (List.length b : Int) ∧ (True ∧ (True ∧ (((cut (min ((List.getD b (Int.toNat l.2.2.1) tR.dflt).1) ((List.getD b (Int.toNat l.2.2.2.1) tR.dflt).1))), (cut (min ((List.getD b (Int.toNat l.2.2.1) tR.dflt).2.1) ((List.getD b (Int.toNat l.2.2.2.1) tR.dflt).2.1))), ()) = y0 ∧ true = y1 ∧ True))))))) else (if (l.1 == (6 : Int)) = true then (idx l.2.2.1 (List.length b : Int) ∧ (idx l.2.2.2.1 (List.length b : Int) ∧ (idx l.2.2.1 (List.length b : Int) ∧ (idx l.2.2.2.1 (List.length b : Int) ∧ (True ∧ (True ∧ (((cut (max ((List.getD b (Int.toNat l.2.2.1) tR.dflt).1) ((List.getD b (Int.toNat l.2.2.2.1) tR.dflt).1))), (cut (max ((List.getD b (Int.toNat l.2.2.1) tR.dflt).2.1) ((List.getD b (Int.toNat l.2.2.2.1) tR.dflt).2.1))), ()) = y0 ∧ true = y1 ∧ True))))))) else ((0, 0, ()) = y0 ∧ false = y1 ∧ True))))))
theorem cWrite_law (h : ∀ (l : Lin) (b : (List Rng)), cWrite.A.wf (l, b, ()) → (validLine l = true ∧ validB b = true) → cWrite_0  l b (if writes l then cutR (wrange l b) else (0, 0, ())) (writes l)) : ConOK Go.Proofs.Try.prog 160 cWrite := by
  refine lawL (Γ := [(174, cCut)]) (Θ := Th) (n := 148) [] ⟨cCut_ok, trivial⟩ (by kernel_rfl) th_ok mix_ok Go.Proofs.Try.func160 (by kernel_rfl) ?_
  intro x hw hp Λ hC
  have h0 := h x.1 x.2.1 hw hp  
  exact Eq.mpr (by kernel_rfl) h0
theorem cWrite_ok : ConOK Go.Proofs.Try.prog 160 cWrite := by
  refine cWrite_law ?_
  intro l b hw hp
  unfold cWrite_0
  obtain ⟨op, t, x, y, ⟨⟩⟩ := l
  obtain ⟨hp1, hp2⟩ := hp
  have hb : b.length = 4 := validB_len hp2
  obtain ⟨g1, g2, g3, g4, g5, g6, g7⟩ := validLine_regs hp1
  dsimp only
  have X : ∀ {i : Int}, 0 ≤ i → i ≤ 3 → idx i (b.length : Int) := fun h0 h1 => ⟨h0, by omega⟩
  have Y : ∀ {i : Int}, 0 ≤ i → i ≤ 3 → -999 ≤ (List.getD b i.toNat tR.dflt).1 ∧ (List.getD b i.toNat tR.dflt).1 ≤ (List.getD b i.toNat tR.dflt).2.1 ∧ (List.getD b i.toNat tR.dflt).2.1 ≤ 999 := fun h0 h1 => validB_get hp2 h0 h1
  have I : ∀ {i : Int}, -9999 ≤ i → i ≤ 9999 → inI i := fun h0 h1 => by unfold inI; omega
  by_cases e1 : op = 1
  · subst e1; exact ⟨trivial, trivial, rfl, rfl, trivial⟩
  rw [if_neg (by simpa using e1)]
  by_cases e2 : op = 2
  · subst e2
    have x1 := g1 (by omega)
    exact ⟨X x1.1 x1.2, X x1.1 x1.2, trivial, trivial, rfl, rfl, trivial⟩
  rw [if_neg (by simpa using e2)]
  by_cases e7 : op = 0 ∨ op = 7
  · rw [if_neg (by simp; omega), if_neg (by simp; omega), if_neg (by simp; omega), if_neg (by simp; omega)]
    have : writes (op, t, x, y, ()) = false := by
      unfold writes; simp only [decide_eq_false_iff_not]; omega
    rw [this]
    exact ⟨rfl, rfl, trivial⟩
  have x1 := g1 (by omega)
  have y1 := g2 (by omega)
  have x2 := X x1.1 x1.2
  have y2 := X y1.1 y1.2
  have x3 := Y x1.1 x1.2
  have y3 := Y y1.1 y1.2
  by_cases e3 : op = 3
  · subst e3
    exact ⟨x2, y2, I (by omega) (by omega), x2, y2, I (by omega) (by omega), trivial, trivial, rfl, rfl, trivial⟩
  rw [if_neg (by simpa using e3)]
  by_cases e4 : op = 4
  · subst e4
    exact ⟨x2, y2, I (by omega) (by omega), x2, y2, I (by omega) (by omega), trivial, trivial, rfl, rfl, trivial⟩
  rw [if_neg (by simpa using e4)]
  by_cases e5 : op = 5
  · subst e5
    exact ⟨x2, y2, x2, y2, trivial, trivial, rfl, rfl, trivial⟩
  rw [if_neg (by simpa using e5)]
  obtain rfl : op = 6 := by omega
  exact ⟨x2, y2, x2, y2, trivial, trivial, rfl, rfl, trivial⟩
abbrev cSpans : Con := { A := (.cons (.sl tL) (.cons (.sl tR) .nil)), R := (.cons (.osl tSpot) .nil), pre := fun x => validP x.1 = 0 ∧ validB x.2.1 = true, F := fun x => (spans x.1 x.2.1, ()) }
def cSpans_0 (Λ1 : Int → (List Spot) → Prop) (Λ2 : (List Spot) → Int → (List Spot) → Prop) (p : (List Lin)) (b : (List Rng)) (y0 : (List Spot)) : Prop :=
  inI ((List.length p : Int) + (1 : Int)) ∧ (mkLen ((List.length p : Int) + (1 : Int)) ((List.length p : Int) + (1 : Int)) ∧ (idx (0 : Int) (List.length (List.replicate (Int.toNat ((List.length p : Int) + (1 : Int))) tSpot.dflt) : Int) ∧ ((b.length ≤ 1000 ∧ (List.getD (List.replicate (Int.toNat ((List.length p : Int) + (1 : Int))) tSpot.dflt) (Int.toNat (0 : Int)) tSpot.dflt).2.1.length ≤ b.length) ∧ (idx (0 : Int) (List.length (List.replicate (Int.toNat ((List.length p : Int) + (1 : Int))) tSpot.dflt) : Int) ∧ Λ1 (0 : Int) (List.set (List.replicate (Int.toNat ((List.length p : Int) + (1 : Int))) tSpot.dflt) (Int.toNat (0 : Int)) (comeS (List.getD (List.replicate (Int.toNat ((List.length p : Int) + (1 : Int))) tSpot.dflt) (Int.toNat (0 : Int)) tSpot.dflt) b))))))
def cSpans_1 (Λ1 : Int → (List Spot) → Prop) (Λ2 : (List Spot) → Int → (List Spot) → Prop) (p : (List Lin)) (b : (List Rng)) (y0 : (List Spot))  (t30_1 : Int) (out_1 : (List Spot)) : Prop :=
  if (decide (t30_1 < (List.length p : Int))) = true then (idx t30_1 (List.length p : Int) ∧ (idx t30_1 (List.length out_1 : Int) ∧ (if (!((List.getD out_1 (Int.toNat t30_1) tSpot.dflt).1).1) = true then (inI (t30_1 + (1 : Int)) ∧ Λ1 (t30_1 + (1 : Int)) out_1) else (if ((List.getD p (Int.toNat t30_1) tL.dflt).1 != (7 : Int)) = true then (((List.getD out_1 (Int.toNat t30_1) tSpot.dflt).2.1).length ≤ 1000000 ∧ ((validLine (List.getD p (Int.toNat t30_1) tL.dflt) = true ∧ validB ((List.getD out_1 (Int.toNat t30_1) tSpot.dflt).2.1) = true) ∧ (if (writes (List.getD p (Int.toNat t30_1) tL.dflt)) = true then (idx ((List.getD p (Int.toNat t30_1) tL.dflt).2.1) (List.length (((List.getD out_1 (Int.toNat t30_1) tSpot.dflt).2.1)) : Int) ∧ (inI (t30_1 + (1 : Int)) ∧ (inI (t30_1 + (1 : Int)) ∧ (idx (t30_1 + (1 : Int)) (List.length out_1 : Int) ∧ (((List.set (((List.getD out_1 (Int.toNat t30_1) tSpot.dflt).2.1)) (Int.toNat ((List.getD p (Int.toNat t30_1) tL.dflt).2.1)) ((if writes (List.getD p (Int.toNat t30_1) tL.dflt) then cutR (wrange (List.getD p (Int.toNat t30_1) tL.dflt) ((List.getD out_1 (Int.toNat t30_1) tSpot.dflt).2.1)) else (0, 0, ())))).length ≤ 1000 ∧ (List.getD out_1 (Int.toNat (t30_1 + (1 : Int))) tSpot.dflt).2.1.length ≤ (List.set (((List.getD out_1 (Int.toNat t30_1) tSpot.dflt).2.1)) (Int.toNat ((List.getD p (Int.toNat t30_1) tL.dflt).2.1)) ((if writes (List.getD p (Int.toNat t30_1) tL.dflt) then cutR (wrange (List.getD p (Int.toNat t30_1) tL.dflt) ((List.getD out_1 (Int.toNat t30_1) tSpot.dflt).2.1)) else (0, 0, ())))).length) ∧ (idx (t30_1 + (1 : Int)) (List.length out_1 : Int) ∧ (inI (t30_1 + (1 : Int)) ∧ Λ1 (t30_1 + (1 : Int)) (List.set out_1 (Int.toNat (t30_1 + (1 : Int))) (comeS (List.getD out_1 (Int.toNat (t30_1 + (1 : Int))) tSpot.dflt) (List.set (((List.getD out_1 (Int.toNat t30_1) tSpot.dflt).2.1)) (Int.toNat ((List.getD p (Int.toNat t30_1) tL.dflt).2.1)) ((if writes (List.getD p (Int.toNat t30_1) tL.dflt) then cutR (wrange (List.getD p (Int.toNat t30_1) tL.dflt) ((List.getD out_1 (Int.toNat t30_1) tSpot.dflt).2.1)) else (0, 0, ()))))))))))))) else (inI (t30_1 + (1 : Int)) ∧ (inI (t30_1 + (1 : Int)) ∧ (idx (t30_1 + (1 : Int)) (List.length out_1 : Int) ∧ (((((List.getD out_1 (Int.toNat t30_1) tSpot.dflt).2.1)).length ≤ 1000 ∧ (List.getD out_1 (Int.toNat (t30_1 + (1 : Int))) tSpot.dflt).2.1.length ≤ (((List.getD out_1 (Int.toNat t30_1) tSpot.dflt).2.1)).length) ∧ (idx (t30_1 + (1 : Int)) (List.length out_1 : Int) ∧ (inI (t30_1 + (1 : Int)) ∧ Λ1 (t30_1 + (1 : Int)) (List.set out_1 (Int.toNat (t30_1 + (1 : Int))) (comeS (List.getD out_1 (Int.toNat (t30_1 + (1 : Int))) tSpot.dflt) (((List.getD out_1 (Int.toNat t30_1) tSpot.dflt).2.1))))))))))))) else (idx ((List.getD p (Int.toNat t30_1) tL.dflt).2.2.1) (List.length ((List.getD out_1 (Int.toNat t30_1) tSpot.dflt).2.1) : Int) ∧ (idx ((List.getD p (Int.toNat t30_1) tL.dflt).2.2.2.1) (List.length ((List.getD out_1 (Int.toNat t30_1) tSpot.dflt).2.1) : Int) ∧ (if ((List.getD p (Int.toNat t30_1) tL.dflt).2.2.1 == (List.getD p (Int.toNat t30_1) tL.dflt).2.2.2.1) = true then (true = true ∧ (inI (t30_1 + (1 : Int)) ∧ (inI (t30_1 + (1 : Int)) ∧ (idx (t30_1 + (1 : Int)) (List.length out_1 : Int) ∧ ((((List.getD out_1 (Int.toNat t30_1) tSpot.dflt).2.1).length ≤ 1000 ∧ (List.getD out_1 (Int.toNat (t30_1 + (1 : Int))) tSpot.dflt).2.1.length ≤ ((List.getD out_1 (Int.toNat t30_1) tSpot.dflt).2.1).length) ∧ (idx (t30_1 + (1 : Int)) (List.length out_1 : Int) ∧ Λ2 out_1 t30_1 (List.set out_1 (Int.toNat (t30_1 + (1 : Int))) (comeS (List.getD out_1 (Int.toNat (t30_1 + (1 : Int))) tSpot.dflt) ((List.getD out_1 (Int.toNat t30_1) tSpot.dflt).2.1))))))))) else (True ∧ (if (bif false then true else (decide ((List.getD ((List.getD out_1 (Int.toNat t30_1) tSpot.dflt).2.1) (Int.toNat ((List.getD p (Int.toNat t30_1) tL.dflt).2.2.1)) tR.dflt).2.1 ≥ (List.getD ((List.getD out_1 (Int.toNat t30_1) tSpot.dflt).2.1) (Int.toNat ((List.getD p (Int.toNat t30_1) tL.dflt).2.2.2.1)) tR.dflt).1))) = true then (inI (t30_1 + (1 : Int)) ∧ (inI (t30_1 + (1 : Int)) ∧ (idx (t30_1 + (1 : Int)) (List.length out_1 : Int) ∧ ((((List.getD out_1 (Int.toNat t30_1) tSpot.dflt).2.1).length ≤ 1000 ∧ (List.getD out_1 (Int.toNat (t30_1 + (1 : Int))) tSpot.dflt).2.1.length ≤ ((List.getD out_1 (Int.toNat t30_1) tSpot.dflt).2.1).length) ∧ (idx (t30_1 + (1 : Int)) (List.length out_1 : Int) ∧ Λ2 out_1 t30_1 (List.set out_1 (Int.toNat (t30_1 + (1 : Int))) (comeS (List.getD out_1 (Int.toNat (t30_1 + (1 : Int))) tSpot.dflt) ((List.getD out_1 (Int.toNat t30_1) tSpot.dflt).2.1)))))))) else Λ2 out_1 t30_1 out_1))))))))) else out_1 = y0
def cSpans_2 (Λ1 : Int → (List Spot) → Prop) (Λ2 : (List Spot) → Int → (List Spot) → Prop) (p : (List Lin)) (b : (List Rng)) (y0 : (List Spot)) (out_1 : (List Spot)) (t30_1 : Int) (out_2 : (List Spot)) : Prop :=
  if ((List.getD p (Int.toNat t30_1) tL.dflt).2.2.1 != (List.getD p (Int.toNat t30_1) tL.dflt).2.2.2.1) = true then (True ∧ (if (bif true then (decide ((List.getD ((List.getD out_1 (Int.toNat t30_1) tSpot.dflt).2.1) (Int.toNat ((List.getD p (Int.toNat t30_1) tL.dflt).2.2.1)) tR.dflt).1 < (List.getD ((List.getD out_1 (Int.toNat t30_1) tSpot.dflt).2.1) (Int.toNat ((List.getD p (Int.toNat t30_1) tL.dflt).2.2.2.1)) tR.dflt).2.1)) else false) = true then (inI (t30_1 + (1 : Int)) ∧ (inI ((t30_1 + (1 : Int)) + (List.getD p (Int.toNat t30_1) tL.dflt).2.1) ∧ (idx (min ((t30_1 + (1 : Int)) + (List.getD p (Int.toNat t30_1) tL.dflt).2.1) (List.length p : Int)) (List.length out_2 : Int) ∧ ((((List.getD out_1 (Int.toNat t30_1) tSpot.dflt).2.1).length ≤ 1000 ∧ (List.getD out_2 (Int.toNat (min ((t30_1 + (1 : Int)) + (List.getD p (Int.toNat t30_1) tL.dflt).2.1) (List.length p : Int))) tSpot.dflt).2.1.length ≤ ((List.getD out_1 (Int.toNat t30_1) tSpot.dflt).2.1).length) ∧ (idx (min ((t30_1 + (1 : Int)) + (List.getD p (Int.toNat t30_1) tL.dflt).2.1) (List.length p : Int)) (List.length out_2 : Int) ∧ (inI (t30_1 + (1 : Int)) ∧ Λ1 (t30_1 + (1 : Int)) (List.set out_2 (Int.toNat (min ((t30_1 + (1 : Int)) + (List.getD p (Int.toNat t30_1) tL.dflt).2.1) (List.length p : Int))) (comeS (List.getD out_2 (Int.toNat (min ((t30_1 + (1 : Int)) + (List.getD p (Int.toNat t30_1) tL.dflt).2.1) (List.length p : Int))) tSpot.dflt) ((List.getD out_1 (Int.toNat t30_1) tSpot.dflt).2.1))))))))) else (inI (t30_1 + (1 : Int)) ∧ Λ1 (t30_1 + (1 : Int)) out_2))) else (false = false ∧ (inI (t30_1 + (1 : Int)) ∧ Λ1 (t30_1 + (1 : Int)) out_2))
theorem cSpans_law (h : ∀ (p : (List Lin)) (b : (List Rng)), cSpans.A.wf (p, b, ()) → (validP p = 0 ∧ validB b = true) → ∀ (Λ1 : Int → (List Spot) → Prop) (Λ2 : (List Spot) → Int → (List Spot) → Prop), (∀ (t30_1 : Int) (out_1 : (List Spot)), cSpans_1 Λ1 Λ2 p b (spans p b) t30_1 out_1 → Λ1 t30_1 out_1) → (∀ (out_1 : (List Spot)) (t30_1 : Int) (out_2 : (List Spot)), cSpans_2 Λ1 Λ2 p b (spans p b) out_1 t30_1 out_2 → Λ2 out_1 t30_1 out_2) → cSpans_0 Λ1 Λ2 p b (spans p b)) : ConOK Go.Proofs.Try.prog 133 cSpans := by
  refine lawL (Γ := [(94, cCloneR), (159, cCome), (160, cWrite)]) (Θ := Th) (n := 144) [([1, 1, 1, 1, 0, 1, 0], ⟨[(0, false), (5, true), (6, true), (28, false), (29, true), (30, true)], [(19, true)]⟩), ([1, 1, 1, 1, 0, 1, 0, 0, 1, 1, 0, 0, 1, 1, 1, 1, 1, 2], ⟨[(0, false), (5, true), (6, true), (7, true), (8, true), (9, true), (13, true), (14, true), (28, false), (29, true), (30, true)], [(8, true), (9, true), (13, true), (14, true), (19, true)]⟩)] ⟨cCloneR_ok, cCome_ok, cWrite_ok, trivial⟩ (by kernel_rfl) th_ok mix_ok Go.Proofs.Try.func133 (by kernel_rfl) ?_
  intro x hw hp Λ hC
  have h0 := h x.1 x.2.1 hw hp (fun t30_1 out_1 => Λ [1, 1, 1, 1, 0, 1, 0] ([(0, .d false (.sl tL) x.1), (5, .fnc 159 .nil (())), (6, .own 19 0), (28, .d false (.sl tL) x.1), (29, .d true .int (List.length x.1 : Int)), (30, .d true .int t30_1)], [(19, .sl true tSpot out_1)])) (fun out_1 t30_1 out_2 => Λ [1, 1, 1, 1, 0, 1, 0, 0, 1, 1, 0, 0, 1, 1, 1, 1, 1, 2] ([(0, .d false (.sl tL) x.1), (5, .fnc 159 .nil (())), (6, .own 19 0), (7, .d true .int t30_1), (8, .ptr 8 0 []), (9, .ptr 9 0 []), (13, .ptr 13 0 []), (14, .ptr 14 0 []), (28, .d false (.sl tL) x.1), (29, .d true .int (List.length x.1 : Int)), (30, .d true .int t30_1)], [(8, .box true tL (List.getD x.1 (Int.toNat t30_1) tL.dflt)), (9, .box true tSpot (List.getD out_1 (Int.toNat t30_1) tSpot.dflt)), (13, .box true tR (List.getD ((List.getD out_1 (Int.toNat t30_1) tSpot.dflt).2.1) (Int.toNat ((List.getD x.1 (Int.toNat t30_1) tL.dflt).2.2.1)) tR.dflt)), (14, .box true tR (List.getD ((List.getD out_1 (Int.toNat t30_1) tSpot.dflt).2.1) (Int.toNat ((List.getD x.1 (Int.toNat t30_1) tL.dflt).2.2.2.1)) tR.dflt)), (19, .sl true tSpot out_2)])) (fun t30_1 out_1 hb => hC [1, 1, 1, 1, 0, 1, 0] ([(0, .d false (.sl tL) x.1), (5, .fnc 159 .nil (())), (6, .own 19 0), (28, .d false (.sl tL) x.1), (29, .d true .int (List.length x.1 : Int)), (30, .d true .int t30_1)], [(19, .sl true tSpot out_1)]) (Eq.mpr (by kernel_rfl) hb)) (fun out_1 t30_1 out_2 hb => hC [1, 1, 1, 1, 0, 1, 0, 0, 1, 1, 0, 0, 1, 1, 1, 1, 1, 2] ([(0, .d false (.sl tL) x.1), (5, .fnc 159 .nil (())), (6, .own 19 0), (7, .d true .int t30_1), (8, .ptr 8 0 []), (9, .ptr 9 0 []), (13, .ptr 13 0 []), (14, .ptr 14 0 []), (28, .d false (.sl tL) x.1), (29, .d true .int (List.length x.1 : Int)), (30, .d true .int t30_1)], [(8, .box true tL (List.getD x.1 (Int.toNat t30_1) tL.dflt)), (9, .box true tSpot (List.getD out_1 (Int.toNat t30_1) tSpot.dflt)), (13, .box true tR (List.getD ((List.getD out_1 (Int.toNat t30_1) tSpot.dflt).2.1) (Int.toNat ((List.getD x.1 (Int.toNat t30_1) tL.dflt).2.2.1)) tR.dflt)), (14, .box true tR (List.getD ((List.getD out_1 (Int.toNat t30_1) tSpot.dflt).2.1) (Int.toNat ((List.getD x.1 (Int.toNat t30_1) tL.dflt).2.2.2.1)) tR.dflt)), (19, .sl true tSpot out_2)]) (Eq.mpr (by kernel_rfl) hb))
  exact Eq.mpr (by kernel_rfl) h0
theorem cSpans_ok : ConOK Go.Proofs.Try.prog 133 cSpans := by
  refine cSpans_law ?_
  intro p b hw hp Λ1 Λ2 h1 h2
  unfold cSpans_0
  obtain ⟨hp1, hp2⟩ := hp
  obtain ⟨h8, hall⟩ := validP_ok hp1
  have hb4 := validB_len hp2
  have e0 : Int.toNat ((p.length : Int) + 1) = p.length + 1 := by omega
  rw [e0]
  have z0 : ((List.replicate (p.length + 1) tSpot.dflt).getD 0 tSpot.dflt).2.1 = [] := by simp [List.getD_eq_getElem?_getD, List.getElem?_replicate, T.dflt]
  refine ⟨by unfold inI; omega, ⟨by omega, by omega, rfl⟩, ⟨by omega, by simp only [List.length_replicate]; omega⟩, ⟨by omega, ?_⟩, ⟨by omega, by simp only [List.length_replicate]; omega⟩, ?_⟩
  · rw [show Int.toNat 0 = 0 from rfl, z0]; simp
  refine upto (n := p.length) (Q := fun i => Λ1 i (spansTo p b i)) ?_ ?_ 0 (Nat.zero_le _)
  · apply h1; unfold cSpans_1; rw [if_neg (by simp)]; rfl
  · intro i hi ih
    rw [spansTo_succ] at ih
    have hok := spansTo_ok hall hp2 i (by omega)
    have e1 : Int.toNat ((i : Int) + 1) = i + 1 := by omega
    have hs := outOK_get hok (i := i) (by omega)
    have hl := validLine_getD hall hi
    have hn1 : inI ((i : Int) + 1) := inI_succ hi (by omega)
    have J : ∀ out2, outOK p.length out2 → validB ((spansTo p b i).getD i tSpot.dflt).2.1 = true → (p.getD i tL.dflt).1 = 7 →
        Λ1 ((i + 1 : Nat) : Int) (if (p.getD i tL.dflt).2.2.1 ≠ (p.getD i tL.dflt).2.2.2.1 ∧ (Rd ((spansTo p b i).getD i tSpot.dflt).2.1 (p.getD i tL.dflt).2.2.1).1 < (Rd ((spansTo p b i).getD i tSpot.dflt).2.1 (p.getD i tL.dflt).2.2.2.1).2.1 then comeAt out2 (min ((i : Int) + 1 + (p.getD i tL.dflt).2.1) (p.length : Int)).toNat ((spansTo p b i).getD i tSpot.dflt).2.1 else out2) →
        Λ2 (spansTo p b i) i out2 := by
      intro out2 ho2 hb h7 ih
      apply h2; unfold cSpans_2; rw [Int.toNat_natCast]
      have ht := skip_to hall hi h7
      unfold dLin at ht
      generalize (spansTo p b i).getD i tSpot.dflt = s at *
      generalize p.getD i tL.dflt = l at *
      generalize hto : min ((i : Int) + 1 + l.2.1) (p.length : Int) = to at *
      have hto0 : 0 ≤ to ∧ to ≤ p.length := by omega
      have hlen : out2.length = p.length + 1 := ho2.1
      have hle : (out2.getD to.toNat tSpot.dflt).2.1.length ≤ 4 := by
        rcases outOK_get ho2 (i := to.toNat) (by omega) with h | h
        · have := validB_len h.2; unfold dSpot at this; omega
        · have := h.2; unfold dSpot at this; rw [this]; simp
      have hbl := validB_len hb
      by_cases hx : l.2.2.1 = l.2.2.2.1
      · rw [if_neg (by simpa using hx)]
        rw [if_neg (by simp [hx])] at ih
        exact ⟨rfl, hn1, ih⟩
      · rw [if_pos (by simpa using hx)]
        refine ⟨trivial, ?_⟩
        by_cases hy : (Rd s.2.1 l.2.2.1).1 < (Rd s.2.1 l.2.2.2.1).2.1
        · rw [if_pos ⟨hx, hy⟩] at ih
          rw [if_pos (by show decide _ = true; exact decide_eq_true hy)]
          exact ⟨hn1, by unfold inI; omega, ⟨by omega, by omega⟩, ⟨by omega, by omega⟩, ⟨by omega, by omega⟩, hn1, ih⟩
        · rw [if_neg (by rintro ⟨_, h⟩; exact hy h)] at ih
          rw [if_neg (by show ¬ decide _ = true; rw [decide_eq_true_eq]; exact hy)]
          exact ⟨hn1, ih⟩
    apply h1; unfold cSpans_1; rw [if_pos (by simpa using hi), Int.toNat_natCast, e1]
    have hs1 := outOK_get hok (i := i + 1) (by omega)
    have hlen : (spansTo p b i).length = p.length + 1 := hok.1
    unfold stepSpan at ih
    unfold dSpot dLin at *
    refine ⟨idx_nat hi, ⟨by omega, by omega⟩, ?_⟩
    cases hr : ((spansTo p b i).getD i tSpot.dflt).1.1
    · rw [if_pos (by rfl)]
      dsimp only at ih
      rw [if_pos hr] at ih
      exact ⟨hn1, ih⟩
    rw [if_neg (by simp)]
    dsimp only at ih
    rw [if_neg (by rw [hr]; simp)] at ih
    have hb : validB ((spansTo p b i).getD i tSpot.dflt).2.1 = true := by
      rcases hs with h | h
      · exact h.2
      · rw [hr] at h; simp at h
    have hbl := validB_len hb
    have hle1 : ((spansTo p b i).getD (i + 1) tSpot.dflt).2.1.length ≤ 4 := by
      rcases hs1 with h | h
      · rw [validB_len h.2]; exact Nat.le_refl _
      · rw [h.2]; simp
    by_cases h7 : (p.getD i tL.dflt).1 = 7
    · rw [if_neg (by simpa using h7)]
      rw [if_neg (by simpa using h7)] at ih
      have hreg : (0 ≤ (p.getD i tL.dflt).2.2.1 ∧ (p.getD i tL.dflt).2.2.1 ≤ 3) ∧ (0 ≤ (p.getD i tL.dflt).2.2.2.1 ∧ (p.getD i tL.dflt).2.2.2.1 ≤ 3) := by
        generalize p.getD i tL.dflt = l at *
        obtain ⟨op, t, x, y, ⟨⟩⟩ := l
        dsimp only at h7
        have g := validLine_regs hl
        exact ⟨g.1 (by omega), g.2.1 (by omega)⟩
      refine ⟨⟨by omega, by omega⟩, ⟨by omega, by omega⟩, ?_⟩
      have hco : outOK p.length (comeAt (spansTo p b i) (i + 1) ((spansTo p b i).getD i tSpot.dflt).2.1) := comeAt_ok hok (by omega) hb
      by_cases hx : (p.getD i tL.dflt).2.2.1 = (p.getD i tL.dflt).2.2.2.1
      · rw [if_pos (by simpa using hx)]
        rw [show (if (p.getD i tL.dflt).2.2.1 = (p.getD i tL.dflt).2.2.2.1 ∨ (Rd ((spansTo p b i).getD i tSpot.dflt).2.1 (p.getD i tL.dflt).2.2.2.1).1 ≤ (Rd ((spansTo p b i).getD i tSpot.dflt).2.1 (p.getD i tL.dflt).2.2.1).2.1 then _ else _) = _ from if_pos (.inl hx)] at ih
        exact ⟨rfl, hn1, hn1, ⟨by omega, by omega⟩, ⟨by omega, by omega⟩, ⟨by omega, by omega⟩, J _ hco hb h7 ih⟩
      · rw [if_neg (by simpa using hx)]
        refine ⟨trivial, ?_⟩
        by_cases hy : (Rd ((spansTo p b i).getD i tSpot.dflt).2.1 (p.getD i tL.dflt).2.2.2.1).1 ≤ (Rd ((spansTo p b i).getD i tSpot.dflt).2.1 (p.getD i tL.dflt).2.2.1).2.1
        · rw [show (if (p.getD i tL.dflt).2.2.1 = (p.getD i tL.dflt).2.2.2.1 ∨ (Rd ((spansTo p b i).getD i tSpot.dflt).2.1 (p.getD i tL.dflt).2.2.2.1).1 ≤ (Rd ((spansTo p b i).getD i tSpot.dflt).2.1 (p.getD i tL.dflt).2.2.1).2.1 then _ else _) = _ from if_pos (.inr hy)] at ih
          rw [if_pos (by show decide _ = true; exact decide_eq_true hy)]
          exact ⟨hn1, hn1, ⟨by omega, by omega⟩, ⟨by omega, by omega⟩, ⟨by omega, by omega⟩, J _ hco hb h7 ih⟩
        · rw [show (if (p.getD i tL.dflt).2.2.1 = (p.getD i tL.dflt).2.2.2.1 ∨ (Rd ((spansTo p b i).getD i tSpot.dflt).2.1 (p.getD i tL.dflt).2.2.2.1).1 ≤ (Rd ((spansTo p b i).getD i tSpot.dflt).2.1 (p.getD i tL.dflt).2.2.1).2.1 then _ else _) = _ from if_neg (by rintro (h | h); exact hx h; exact hy h)] at ih
          rw [if_neg (by show ¬ decide _ = true; rw [decide_eq_true_eq]; exact hy)]
          exact J _ hok hb h7 ih
    · rw [if_pos (by simpa using h7)]
      rw [if_pos h7] at ih
      refine ⟨by omega, ⟨hl, hb⟩, ?_⟩
      cases hwr : writes (p.getD i tL.dflt)
      · rw [if_neg (by simp)]
        unfold afterBox at ih
        rw [if_neg (by rw [hwr]; simp)] at ih
        exact ⟨hn1, hn1, ⟨by omega, by omega⟩, ⟨by omega, by omega⟩, ⟨by omega, by omega⟩, hn1, ih⟩
      · rw [if_pos (by rfl)]
        unfold afterBox at ih
        rw [if_pos hwr] at ih
        simp only [eq_self, if_true]
        have hreg : 0 ≤ (p.getD i tL.dflt).2.1 ∧ (p.getD i tL.dflt).2.1 ≤ 3 := by
          generalize p.getD i tL.dflt = l at *
          obtain ⟨op, t, x, y, ⟨⟩⟩ := l
          have g := validLine_regs hl
          unfold writes at hwr
          simp only [decide_eq_true_eq] at hwr
          exact g.2.2.1 hwr
        exact ⟨⟨by omega, by omega⟩, hn1, hn1, ⟨by omega, by omega⟩, ⟨by rw [List.length_set]; omega, by rw [List.length_set]; omega⟩, ⟨by omega, by omega⟩, hn1, ih⟩
abbrev cChecked : Con := { A := (.cons (.sl tL) (.cons (.sl tR) .nil)), R := (.cons .int .nil), pre := fun x => True, F := fun x => ((if validP x.1 = 0 then argErr (validB x.2.1) else validP x.1), ()) }
def cChecked_0  (p : (List Lin)) (b : (List Rng)) (y0 : Int) : Prop :=
  True ∧ (if ((validP p) != (0 : Int)) = true then ((validP p) = y0 ∧ True) else (True ∧ ((argErr (validB b)) = y0 ∧ True)))
theorem cChecked_law (h : ∀ (p : (List Lin)) (b : (List Rng)), cChecked.A.wf (p, b, ()) → cChecked_0  p b (if validP p = 0 then argErr (validB b) else validP p)) : ConOK Go.Proofs.Try.prog 77 cChecked := by
  refine lawL (Γ := [(87, cValB), (68, cValP)]) (Θ := Th) (n := 13) [] ⟨cValB_ok, cValP_ok, trivial⟩ (by kernel_rfl) th_ok mix_ok Go.Proofs.Try.func77 (by kernel_rfl) ?_
  intro x hw hp Λ hC
  have h0 := h x.1 x.2.1 hw  
  exact Eq.mpr (by kernel_rfl) h0
theorem cChecked_ok : ConOK Go.Proofs.Try.prog 77 cChecked := by
  refine cChecked_law ?_
  intro p b hw
  unfold cChecked_0
  split <;> simp_all
abbrev cAfter0 : Con := { A := (.cons (.sl tL) (.cons (.sl tR) .nil)), R := (.cons (.sl tR) .nil), pre := fun x => validP x.1 = 0 ∧ validB x.2.1 = true, F := fun x => ((List.getD (spans x.1 x.2.1) x.1.length tSpot.dflt).2.1, ()) }
def cAfter0_0  (p : (List Lin)) (b : (List Rng)) (y0 : (List Rng)) : Prop :=
  (validP p = 0 ∧ validB b = true) ∧ (idx (List.length p : Int) (List.length (spans p b) : Int) ∧ ((List.getD (spans p b) (Int.toNat (List.length p : Int)) tSpot.dflt).2.1 = y0 ∧ True))
theorem cAfter0_law (h : ∀ (p : (List Lin)) (b : (List Rng)), cAfter0.A.wf (p, b, ()) → (validP p = 0 ∧ validB b = true) → cAfter0_0  p b ((List.getD (spans p b) p.length tSpot.dflt).2.1)) : ConOK Go.Proofs.Try.prog 82 cAfter0 := by
  refine lawL (Γ := [(133, cSpans)]) (Θ := Th) (n := 13) [] ⟨cSpans_ok, trivial⟩ (by kernel_rfl) th_ok mix_ok Go.Proofs.Try.func82 (by kernel_rfl) ?_
  intro x hw hp Λ hC
  have h0 := h x.1 x.2.1 hw hp  
  exact Eq.mpr (by kernel_rfl) h0
theorem cAfter0_ok : ConOK Go.Proofs.Try.prog 82 cAfter0 := by
  refine cAfter0_law ?_
  intro p b hw hp
  unfold cAfter0_0
  have := (spansTo_ok (validP_ok hp.1).2 hp.2 p.length (Nat.le_refl _)).1
  exact ⟨hp, ⟨by omega, by unfold spans; omega⟩, rfl, trivial⟩
end Go.Tk
