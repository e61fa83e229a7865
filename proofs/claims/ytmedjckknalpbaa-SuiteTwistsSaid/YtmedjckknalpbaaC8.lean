import Derived.Test.YtmedjckknalpbaaC1
import Derived.Test.YtmedjckknalpbaaP8
import Derived.Test.YtmedjckknalpbaaEngW
set_option linter.unusedSimpArgs false
set_option linter.unusedVariables false
set_option linter.unnecessarySimpa false
namespace Go.Tk
open Go Go.RowKit

abbrev cWithin8 : Con := { A := (.cons .int (.cons .int (.cons .int .nil))), R := (.cons .bool .nil), pre := fun x => True, F := fun x => (within x.1 x.2.1 x.2.2.1, ()) }
def cWithin8_0  (n : Int) (lo : Int) (hi : Int) (y0 : Bool) : Prop :=
  if (decide (lo ≤ n)) = true then (True ∧ ((bif true then (decide (n ≤ hi)) else false) = y0 ∧ True)) else (false = false ∧ (false = y0 ∧ True))
theorem cWithin8_law (h : ∀ (n : Int) (lo : Int) (hi : Int), cWithin8.A.wf (n, lo, hi, ()) → cWithin8_0  n lo hi (within n lo hi)) : ConOK Go.Proofs.Try.prog 84 cWithin8 := by
  refine lawL (Γ := []) (Θ := Th) (n := 15) [] trivial (by kernel_rfl) th_ok mix_ok Go.Proofs.Try.func84 (by kernel_rfl) ?_
  intro x hw hp Λ hC
  have h0 := h x.1 x.2.1 x.2.2.1 hw  
  exact Eq.mpr (by kernel_rfl) h0
theorem cWithin8_ok : ConOK Go.Proofs.Try.prog 84 cWithin8 := by
  refine cWithin8_law ?_
  intro n lo hi hw
  unfold cWithin8_0
  unfold within
  split <;> simp_all
  omega
abbrev cIndexI8 : Con := { A := (.cons (.sl .int) (.cons (.fn (.cons .int .nil) (.cons .bool .nil)) .nil)), R := (.cons .int .nil), pre := fun x => ∀ r', r' ∈ x.1 → x.2.1.1 (r', ()), F := fun x => (idxF (fun r' => (x.2.1.2 (r', ())).1) x.1, ()) }
def cIndexI8_0 (Λ1 : Int → Prop) (s : (List Int)) (f : (T.fn (.cons .int .nil) (.cons .bool .nil)).den) (y0 : Int) : Prop :=
  Λ1 (0 : Int)
def cIndexI8_1 (Λ1 : Int → Prop) (s : (List Int)) (f : (T.fn (.cons .int .nil) (.cons .bool .nil)).den) (y0 : Int)  (t8_1 : Int) : Prop :=
  if (decide (t8_1 < (List.length s : Int))) = true then (idx t8_1 (List.length s : Int) ∧ (f.1 ((List.getD s (Int.toNat t8_1) 0), ()) ∧ (if ((f.2 ((List.getD s (Int.toNat t8_1) 0), ())).1) = true then (t8_1 = y0 ∧ True) else (inI (t8_1 + (1 : Int)) ∧ Λ1 (t8_1 + (1 : Int)))))) else ((-1 : Int) = y0 ∧ True)
theorem cIndexI8_law (h : ∀ (s : (List Int)) (f : (T.fn (.cons .int .nil) (.cons .bool .nil)).den), cIndexI8.A.wf (s, f, ()) → (∀ r', r' ∈ s → f.1 (r', ())) → ∀ (Λ1 : Int → Prop), (∀ (t8_1 : Int), cIndexI8_1 Λ1 s f (idxF (fun r' => (f.2 (r', ())).1) s) t8_1 → Λ1 t8_1) → cIndexI8_0 Λ1 s f (idxF (fun r' => (f.2 (r', ())).1) s)) : ConOK Go.Proofs.Try.prog 106 cIndexI8 := by
  refine lawL (Γ := []) (Θ := Th) (n := 19) [([1, 0, 1, 0], ⟨[(0, false), (1, false), (7, true), (8, true)], []⟩)] trivial (by kernel_rfl) th_ok mix_ok Go.Proofs.Try.func106 (by kernel_rfl) ?_
  intro x hw hp Λ hC
  have h0 := h x.1 x.2.1 hw hp (fun t8_1 => Λ [1, 0, 1, 0] ([(0, .d false (.sl .int) x.1), (1, .d false (.fn (.cons .int .nil) (.cons .bool .nil)) x.2.1), (7, .d true .int (List.length x.1 : Int)), (8, .d true .int t8_1)], [])) (fun t8_1 hb => hC [1, 0, 1, 0] ([(0, .d false (.sl .int) x.1), (1, .d false (.fn (.cons .int .nil) (.cons .bool .nil)) x.2.1), (7, .d true .int (List.length x.1 : Int)), (8, .d true .int t8_1)], []) (Eq.mpr (by kernel_rfl) hb))
  exact Eq.mpr (by kernel_rfl) h0
theorem cIndexI8_ok : ConOK Go.Proofs.Try.prog 106 cIndexI8 := by
  refine cIndexI8_law ?_
  intro s f hw hp Λ1 h1
  unfold cIndexI8_0
  refine upto (n := s.length) (Q := fun i => (s.take i).any (fun r => (f.2 (r, ())).1) = false → Λ1 i) ?_ ?_ 0 (Nat.zero_le _) rfl
  · intro ha
    rw [List.take_length] at ha
    apply h1; unfold cIndexI8_1; rw [if_neg (by simp), idxF_none ha]
    exact ⟨rfl, trivial⟩
  · intro i hi ih ha
    apply h1; unfold cIndexI8_1; rw [if_pos (by simpa using hi), Int.toNat_natCast]
    refine ⟨idx_nat hi, hp _ (mem_getD hi), ?_⟩
    cases hv : (f.2 (List.getD s i 0, ())).1
    · rw [if_neg (by simp)]
      exact ⟨inI_succ hi hw.1.1, ih (any_take_next (p := fun r => (f.2 (r, ())).1) 0 hi ha hv)⟩
    · rw [if_pos (by rfl), idxF_at (p := fun r => (f.2 (r, ())).1) 0 hi ha hv]
      exact ⟨rfl, trivial⟩
abbrev cContI8 : Con := { A := (.cons (.sl .int) (.cons (.fn (.cons .int .nil) (.cons .bool .nil)) .nil)), R := (.cons .bool .nil), pre := fun x => ∀ r', r' ∈ x.1 → x.2.1.1 (r', ()), F := fun x => (x.1.any (fun r' => (x.2.1.2 (r', ())).1), ()) }
def cContI8_0  (s : (List Int)) (f : (T.fn (.cons .int .nil) (.cons .bool .nil)).den) (y0 : Bool) : Prop :=
  (∀ r', r' ∈ s → f.1 (r', ())) ∧ ((decide ((idxF (fun r' => (f.2 (r', ())).1) s) ≥ (0 : Int))) = y0 ∧ True)
theorem cContI8_law (h : ∀ (s : (List Int)) (f : (T.fn (.cons .int .nil) (.cons .bool .nil)).den), cContI8.A.wf (s, f, ()) → (∀ r', r' ∈ s → f.1 (r', ())) → cContI8_0  s f (s.any (fun r' => (f.2 (r', ())).1))) : ConOK Go.Proofs.Try.prog 73 cContI8 := by
  refine lawL (Γ := [(106, cIndexI8)]) (Θ := Th) (n := 9) [] ⟨cIndexI8_ok, trivial⟩ (by kernel_rfl) th_ok mix_ok Go.Proofs.Try.func73 (by kernel_rfl) ?_
  intro x hw hp Λ hC
  have h0 := h x.1 x.2.1 hw hp  
  exact Eq.mpr (by kernel_rfl) h0
theorem cContI8_ok : ConOK Go.Proofs.Try.prog 73 cContI8 := by
  refine cContI8_law ?_
  intro s f hw hp
  unfold cContI8_0
  exact ⟨hp, idxF_any _ _, trivial⟩
abbrev cGoals8 : Con := { A := (.cons (.sl (.sl .int)) .nil), R := (.cons .int .nil), pre := fun x => True, F := fun x => ((goals8 x.1 : Int), ()) }
def cGoals8_0  (t : (List (List Int))) (y0 : Int) : Prop :=
  if ((List.length t : Int) == (0 : Int)) = true then ((0 : Int) = y0 ∧ True) else (idx (0 : Int) (List.length t : Int) ∧ ((List.length (List.getD t (Int.toNat (0 : Int)) ([] : List Int)) : Int) = y0 ∧ True))
theorem cGoals8_law (h : ∀ (t : (List (List Int))), cGoals8.A.wf (t, ()) → cGoals8_0  t (goals8 t : Int)) : ConOK Go.Proofs.Try.prog 82 cGoals8 := by
  refine lawL (Γ := []) (Θ := Th) (n := 10) [] trivial (by kernel_rfl) th_ok mix_ok Go.Proofs.Try.func82 (by kernel_rfl) ?_
  intro x hw hp Λ hC
  have h0 := h x.1 hw  
  exact Eq.mpr (by kernel_rfl) h0
theorem cGoals8_ok : ConOK Go.Proofs.Try.prog 82 cGoals8 := by
  refine cGoals8_law ?_
  intro t hw
  unfold cGoals8_0
  unfold goals8
  cases t with
  | nil => exact ⟨rfl, trivial⟩
  | cons r t =>
    rw [if_neg (by simp; omega)]
    exact ⟨⟨by omega, by simp⟩, rfl, trivial⟩
abbrev cVal8a : Con := { A := (.cons .int .nil), R := (.cons .bool .nil), pre := fun x => True, F := fun x => (!(is01 x.1), ()) }
def cVal8a_0  (n : Int) (y0 : Bool) : Prop :=
  True ∧ ((!(within n (0 : Int) (1 : Int))) = y0 ∧ True)
theorem cVal8a_law (h : ∀ (n : Int), cVal8a.A.wf (n, ()) → cVal8a_0  n (!(is01 n))) : ConOK Go.Proofs.Try.prog 83 cVal8a := by
  refine lawL (Γ := [(84, cWithin8)]) (Θ := Th) (n := 6) [] ⟨cWithin8_ok, trivial⟩ (by kernel_rfl) th_ok mix_ok Go.Proofs.Try.func83 (by kernel_rfl) ?_
  intro x hw hp Λ hC
  have h0 := h x.1 hw  
  exact Eq.mpr (by kernel_rfl) h0
theorem cVal8a_ok : ConOK Go.Proofs.Try.prog 83 cVal8a := by
  refine cVal8a_law ?_
  intro n hw
  unfold cVal8a_0
  exact ⟨trivial, rfl, trivial⟩
theorem rowOk_any (t : Ste) (r : List Int) : rowOk t r = (decide (r.length = goals8 t) && !(r.any fun x => !is01 x)) := by
  unfold rowOk
  rw [any_not_all]; simp
abbrev cVal8 : Con := { A := (.cons (.sl (.sl .int)) .nil), R := (.cons .int .nil), pre := fun x => True, F := fun x => (validT x.1, ()) }
def cVal8_0 (Λ1 : Int → Prop) (t : (List (List Int))) (y0 : Int) : Prop :=
  if (decide ((List.length t : Int) > (8 : Int))) = true then (true = true ∧ ((3 : Int) = y0 ∧ True)) else (True ∧ (True ∧ (if (bif false then true else (decide (((goals8 t : Int)) > (10 : Int)))) = true then ((3 : Int) = y0 ∧ True) else Λ1 (0 : Int))))
def cVal8_1 (Λ1 : Int → Prop) (t : (List (List Int))) (y0 : Int)  (t15_1 : Int) : Prop :=
  if (decide (t15_1 < (List.length t : Int))) = true then (idx t15_1 (List.length t : Int) ∧ (True ∧ (if ((List.length (List.getD t (Int.toNat t15_1) ([] : List Int)) : Int) != ((goals8 t : Int))) = true then (true = true ∧ ((1 : Int) = y0 ∧ True)) else ((∀ r', r' ∈ (List.getD t (Int.toNat t15_1) ([] : List Int)) → (fun (xx : (Int × Unit)) => True, fun (xx : (Int × Unit)) => (!(is01 xx.1), ())).1 (r', ())) ∧ (True ∧ (if (bif false then true else ((List.getD t (Int.toNat t15_1) ([] : List Int)).any (fun r' => ((fun (xx : (Int × Unit)) => True, fun (xx : (Int × Unit)) => (!(is01 xx.1), ())).2 (r', ())).1))) = true then ((1 : Int) = y0 ∧ True) else (inI (t15_1 + (1 : Int)) ∧ Λ1 (t15_1 + (1 : Int))))))))) else ((0 : Int) = y0 ∧ True)
theorem cVal8_law (h : ∀ (t : (List (List Int))), cVal8.A.wf (t, ()) → ∀ (Λ1 : Int → Prop), (∀ (t15_1 : Int), cVal8_1 Λ1 t (validT t) t15_1 → Λ1 t15_1) → cVal8_0 Λ1 t (validT t)) : ConOK Go.Proofs.Try.prog 35 cVal8 := by
  refine lawL (Γ := [(73, cContI8), (82, cGoals8), (83, cVal8a)]) (Θ := Th) (n := 29) [([1, 1, 0, 1, 0], ⟨[(0, false), (13, false), (14, true), (15, true)], []⟩)] ⟨cContI8_ok, cGoals8_ok, cVal8a_ok, trivial⟩ (by kernel_rfl) th_ok mix_ok Go.Proofs.Try.func35 (by kernel_rfl) ?_
  intro x hw hp Λ hC
  have h0 := h x.1 hw (fun t15_1 => Λ [1, 1, 0, 1, 0] ([(0, .d false (.sl (.sl .int)) x.1), (13, .d false (.sl (.sl .int)) x.1), (14, .d true .int (List.length x.1 : Int)), (15, .d true .int t15_1)], [])) (fun t15_1 hb => hC [1, 1, 0, 1, 0] ([(0, .d false (.sl (.sl .int)) x.1), (13, .d false (.sl (.sl .int)) x.1), (14, .d true .int (List.length x.1 : Int)), (15, .d true .int t15_1)], []) (Eq.mpr (by kernel_rfl) hb))
  exact Eq.mpr (by kernel_rfl) h0
theorem cVal8_ok : ConOK Go.Proofs.Try.prog 35 cVal8 := by
  refine cVal8_law ?_
  intro t hw Λ1 h1
  unfold cVal8_0
  have hl : t.length ≤ 140737488355328 := hw.1.1
  by_cases h8 : t.length > 8
  · rw [if_pos (by simp; omega)]
    refine ⟨rfl, ?_, trivial⟩
    unfold validT; rw [if_pos (.inl h8)]
  rw [if_neg (by simp; omega)]
  refine ⟨trivial, trivial, ?_⟩
  by_cases h10 : goals8 t > 10
  · rw [if_pos (by simp; omega)]
    refine ⟨?_, trivial⟩
    unfold validT; rw [if_pos (.inr h10)]
  rw [if_neg (by simp; omega)]
  refine upto (n := t.length) (Q := fun i => (t.take i).all (rowOk t) = true → Λ1 i) ?_ ?_ 0 (Nat.zero_le _) rfl
  · intro ha
    rw [List.take_length] at ha
    apply h1; unfold cVal8_1; rw [if_neg (by simp)]
    refine ⟨?_, trivial⟩
    unfold validT; rw [if_neg (by omega), ha]; rfl
  · intro i hi ih ha
    apply h1; unfold cVal8_1; rw [if_pos (by simpa using hi)]
    refine ⟨idx_nat hi, trivial, ?_⟩
    rw [Int.toNat_natCast]
    have hbad : rowOk t (t.getD i []) = false → (1 : Int) = validT t := by
      intro hv
      unfold validT
      rw [if_neg (by omega), all_false_at (p := rowOk t) [] hi hv]
      rfl
    have hnext : rowOk t (t.getD i []) = true → Λ1 ((i : Int) + 1) := fun hv => ih (all_take_next [] hi ha hv)
    have hin := inI_succ hi hl
    generalize t.getD i [] = r at hbad hnext ⊢
    by_cases hg : r.length = goals8 t
    · rw [if_neg (by simp [hg])]
      refine ⟨fun _ _ => trivial, trivial, ?_⟩
      have e : rowOk t r = !(r.any fun x => !is01 x) := by rw [rowOk_any]; simp [hg]
      cases hv : (r.any fun x => !is01 x)
      · rw [if_neg (by simpa using hv)]
        exact ⟨hin, hnext (by rw [e, hv]; rfl)⟩
      · rw [if_pos (by simpa using hv)]
        exact ⟨hbad (by rw [e, hv]; rfl), trivial⟩
    · rw [if_pos (by simp; omega)]
      exact ⟨rfl, hbad (by unfold rowOk; simp [hg]), trivial⟩
theorem isSet_step {l : List Int} {n i : Nat} (hi : i < l.length) : ((List.range l.length).all fun i => decide (0 ≤ l.getD i 0) && decide (l.getD i 0 < n) && (decide (i = 0) || decide (l.getD (i - 1) 0 < l.getD i 0))) = isSet8 l n := rfl
def setAt (l : List Int) (n i : Nat) : Bool := decide (0 ≤ l.getD i 0) && decide (l.getD i 0 < n) && (decide (i = 0) || decide (l.getD (i - 1) 0 < l.getD i 0))
theorem isSet8_upto {l : List Int} {n : Nat} {i : Nat} (h : ∀ k, k < i → setAt l n k = true) (hs : setAt l n i = true) : ∀ k, k < i + 1 → setAt l n k = true := by
  intro k hk
  rcases Nat.lt_or_ge k i with g | g
  · exact h k g
  · obtain rfl : k = i := by omega
    exact hs
theorem isSet8_all {l : List Int} {n : Nat} (h : ∀ k, k < l.length → setAt l n k = true) : isSet8 l n = true := by
  unfold isSet8
  simp only [List.all_eq_true, List.mem_range]
  exact h
theorem isSet8_bad {l : List Int} {n i : Nat} (hi : i < l.length) (h : setAt l n i = false) : isSet8 l n = false := by
  unfold isSet8
  rw [Bool.eq_false_iff]
  intro ha
  simp only [List.all_eq_true, List.mem_range] at ha
  have := ha i hi
  unfold setAt at h
  rw [h] at this
  cases this
abbrev cRows8 : Con := { A := (.cons (.sl (.sl .int)) (.cons (.sl .int) .nil)), R := (.cons .int .nil), pre := fun x => True, F := fun x => (rowsT x.1 x.2.1, ()) }
def cRows8_0 (Λ1 : Int → Prop) (t : (List (List Int))) (set_ : (List Int)) (y0 : Int) : Prop :=
  True ∧ (if ((validT t) != (0 : Int)) = true then ((validT t) = y0 ∧ True) else Λ1 (0 : Int))
def cRows8_1 (Λ1 : Int → Prop) (t : (List (List Int))) (set_ : (List Int)) (y0 : Int)  (t15_1 : Int) : Prop :=
  if (decide (t15_1 < (List.length set_ : Int))) = true then (idx t15_1 (List.length set_ : Int) ∧ (inI ((List.length t : Int) - (1 : Int)) ∧ (True ∧ (if (!(within (List.getD set_ (Int.toNat t15_1) 0) (0 : Int) ((List.length t : Int) - (1 : Int)))) = true then (true = true ∧ ((1 : Int) = y0 ∧ True)) else (if (decide (t15_1 > (0 : Int))) = true then (inI (t15_1 - (1 : Int)) ∧ (idx (t15_1 - (1 : Int)) (List.length set_ : Int) ∧ (True ∧ (True ∧ (if (bif false then true else (bif true then (decide ((List.getD set_ (Int.toNat (t15_1 - (1 : Int))) 0) ≥ (List.getD set_ (Int.toNat t15_1) 0))) else false)) = true then ((1 : Int) = y0 ∧ True) else (inI (t15_1 + (1 : Int)) ∧ Λ1 (t15_1 + (1 : Int)))))))) else (false = false ∧ (True ∧ (if (bif false then true else false) = true then ((1 : Int) = y0 ∧ True) else (inI (t15_1 + (1 : Int)) ∧ Λ1 (t15_1 + (1 : Int))))))))))) else ((0 : Int) = y0 ∧ True)
theorem cRows8_law (h : ∀ (t : (List (List Int))) (set_ : (List Int)), cRows8.A.wf (t, set_, ()) → ∀ (Λ1 : Int → Prop), (∀ (t15_1 : Int), cRows8_1 Λ1 t set_ (rowsT t set_) t15_1 → Λ1 t15_1) → cRows8_0 Λ1 t set_ (rowsT t set_)) : ConOK Go.Proofs.Try.prog 78 cRows8 := by
  refine lawL (Γ := [(35, cVal8), (84, cWithin8)]) (Θ := Th) (n := 40) [([1, 1, 0, 1, 0], ⟨[(0, false), (1, false), (13, false), (14, true), (15, true)], []⟩)] ⟨cVal8_ok, cWithin8_ok, trivial⟩ (by kernel_rfl) th_ok mix_ok Go.Proofs.Try.func78 (by kernel_rfl) ?_
  intro x hw hp Λ hC
  have h0 := h x.1 x.2.1 hw (fun t15_1 => Λ [1, 1, 0, 1, 0] ([(0, .d false (.sl (.sl .int)) x.1), (1, .d false (.sl .int) x.2.1), (13, .d false (.sl .int) x.2.1), (14, .d true .int (List.length x.2.1 : Int)), (15, .d true .int t15_1)], [])) (fun t15_1 hb => hC [1, 1, 0, 1, 0] ([(0, .d false (.sl (.sl .int)) x.1), (1, .d false (.sl .int) x.2.1), (13, .d false (.sl .int) x.2.1), (14, .d true .int (List.length x.2.1 : Int)), (15, .d true .int t15_1)], []) (Eq.mpr (by kernel_rfl) hb))
  exact Eq.mpr (by kernel_rfl) h0
theorem cRows8_ok : ConOK Go.Proofs.Try.prog 78 cRows8 := by
  refine cRows8_law ?_
  intro t set_ hw Λ1 h1
  unfold cRows8_0
  have hl : set_.length ≤ 140737488355328 := hw.2.1.1
  have ht : t.length ≤ 140737488355328 := hw.1.1
  refine ⟨trivial, ?_⟩
  by_cases h0 : validT t = 0
  · rw [if_neg (by simp [h0])]
    have hr : rowsT t set_ = argErr (isSet8 set_ t.length) := by unfold rowsT; rw [if_pos h0]
    rw [hr] at h1
    refine upto (n := set_.length) (Q := fun i => (∀ k, k < i → setAt set_ t.length k = true) → Λ1 i) ?_ ?_ 0 (Nat.zero_le _) (fun k h => by omega)
    · intro ha
      apply h1; unfold cRows8_1; rw [if_neg (by simp)]
      rw [isSet8_all ha]
      exact ⟨rfl, trivial⟩
    · intro i hi ih ha
      apply h1; unfold cRows8_1; rw [if_pos (by simpa using hi)]
      refine ⟨idx_nat hi, by unfold inI; omega, trivial, ?_⟩
      rw [Int.toNat_natCast]
      have hbad : setAt set_ t.length i = false → (1 : Int) = argErr (isSet8 set_ t.length) := fun h => by rw [isSet8_bad hi h]; rfl
      have hnext : setAt set_ t.length i = true → Λ1 ((i : Int) + 1) := fun h => ih (isSet8_upto ha h)
      have hin := inI_succ hi hl
      unfold setAt at hbad hnext
      by_cases hi0 : i = 0
      · subst hi0
        simp only [Nat.zero_sub] at hbad hnext
        generalize set_.getD 0 0 = x at hbad hnext ⊢
        by_cases hwi : within x 0 ((t.length : Int) - 1) = true
        · rw [if_neg (by simp [hwi]), if_neg (by simp)]
          rw [within_iff] at hwi
          refine ⟨rfl, trivial, ?_⟩
          rw [if_neg (by simp)]
          refine ⟨by unfold inI; omega, hnext ?_⟩
          simp; omega
        · rw [if_pos (by simp [hwi])]
          rw [within_iff] at hwi
          refine ⟨rfl, hbad ?_, trivial⟩
          simp; omega
      · generalize hx : set_.getD i 0 = x at hbad hnext ⊢
        by_cases hwi : within x 0 ((t.length : Int) - 1) = true
        · rw [if_neg (by simp [hwi]), if_pos (by simp; omega)]
          rw [within_iff] at hwi
          refine ⟨by unfold inI; omega, ⟨by omega, by omega⟩, trivial, trivial, ?_⟩
          rw [show ((i : Int) - 1).toNat = i - 1 by omega]
          generalize set_.getD (i - 1) 0 = y at hbad hnext ⊢
          by_cases hlt : y < x
          · rw [if_neg (by simp; omega)]
            refine ⟨hin, hnext ?_⟩
            simp; omega
          · rw [if_pos (by simp; omega)]
            refine ⟨hbad ?_, trivial⟩
            simp; omega
        · rw [if_pos (by simp [hwi])]
          rw [within_iff] at hwi
          refine ⟨rfl, hbad ?_, trivial⟩
          simp; omega
  · rw [if_pos (by simp [h0])]
    refine ⟨?_, trivial⟩
    unfold rowsT; rw [if_neg h0]
abbrev cAll8 : Con := { A := (.cons .int .nil), R := (.cons (.osl .int) .nil), pre := fun x => 0 ≤ x.1 ∧ x.1 ≤ 4294967296, F := fun x => (nums x.1.toNat, ()) }
def cAll8_0 (Λ1 : Int → (List Int) → Prop) (n : Int) (y0 : (List Int)) : Prop :=
  Λ1 (0 : Int) ([] : List Int)
def cAll8_1 (Λ1 : Int → (List Int) → Prop) (n : Int) (y0 : (List Int))  (t6_1 : Int) (out_1 : (List Int)) : Prop :=
  if (decide (t6_1 < n)) = true then (List.length out_1 + List.length [t6_1] ≤ 4294967296 ∧ (inI (t6_1 + (1 : Int)) ∧ Λ1 (t6_1 + (1 : Int)) (out_1 ++ [t6_1]))) else out_1 = y0
theorem cAll8_law (h : ∀ (n : Int), cAll8.A.wf (n, ()) → (0 ≤ n ∧ n ≤ 4294967296) → ∀ (Λ1 : Int → (List Int) → Prop), (∀ (t6_1 : Int) (out_1 : (List Int)), cAll8_1 Λ1 n (nums n.toNat) t6_1 out_1 → Λ1 t6_1 out_1) → cAll8_0 Λ1 n (nums n.toNat)) : ConOK Go.Proofs.Try.prog 67 cAll8 := by
  refine lawL (Γ := []) (Θ := Th) (n := 15) [([1, 1, 0, 1, 0], ⟨[(3, true), (5, false), (6, true)], [(3, true)]⟩)] trivial (by kernel_rfl) th_ok mix_ok Go.Proofs.Try.func67 (by kernel_rfl) ?_
  intro x hw hp Λ hC
  have h0 := h x.1 hw hp (fun t6_1 out_1 => Λ [1, 1, 0, 1, 0] ([(3, .own 3 0), (5, .d false .int x.1), (6, .d true .int t6_1)], [(3, .sl true .int out_1)])) (fun t6_1 out_1 hb => hC [1, 1, 0, 1, 0] ([(3, .own 3 0), (5, .d false .int x.1), (6, .d true .int t6_1)], [(3, .sl true .int out_1)]) (Eq.mpr (by kernel_rfl) hb))
  exact Eq.mpr (by kernel_rfl) h0
theorem cAll8_ok : ConOK Go.Proofs.Try.prog 67 cAll8 := by
  refine cAll8_law ?_
  intro n hw hp Λ1 h1
  unfold cAll8_0
  obtain ⟨m, rfl⟩ : ∃ m : Nat, n = m := ⟨n.toNat, by omega⟩
  rw [Int.toNat_natCast] at h1
  refine upto (n := m) (Q := fun i => Λ1 i (nums i)) ?_ ?_ 0 (Nat.zero_le _)
  · apply h1; unfold cAll8_1; rw [if_neg (by simp)]
  · intro i hi ih
    apply h1; unfold cAll8_1; rw [if_pos (by simpa using hi)]
    refine ⟨by rw [nums_len]; simp; omega, by unfold inI; omega, ?_⟩
    rw [← nums_succ]
    exact ih
abbrev cMet8a : Con := { A := (.cons .int (.cons (.ref (.sl (.sl .int))) (.cons (.ref .int) .nil))), R := (.cons .bool .nil), pre := fun x => okT x.2.1 ∧ 0 ≤ x.1 ∧ x.1 < x.2.1.length ∧ 0 ≤ x.2.2.1 ∧ x.2.2.1 < goals8 x.2.1, F := fun x => (hits x.2.1 x.1 x.2.2.1.toNat, ()) }
def cMet8a_0  (r : Int) (c0 : (List (List Int))) (c1 : Int) (y0 : Bool) : Prop :=
  idx r (List.length c0 : Int) ∧ (idx c1 (List.length (List.getD c0 (Int.toNat r) ([] : List Int)) : Int) ∧ (((List.getD (List.getD c0 (Int.toNat r) ([] : List Int)) (Int.toNat c1) 0) == (1 : Int)) = y0 ∧ True))
theorem cMet8a_law (h : ∀ (r : Int) (c0 : (List (List Int))) (c1 : Int), cMet8a.A.wf (r, c0, c1, ()) → (okT c0 ∧ 0 ≤ r ∧ r < c0.length ∧ 0 ≤ c1 ∧ c1 < goals8 c0) → cMet8a_0  r c0 c1 (hits c0 r c1.toNat)) : ConOK Go.Proofs.Try.prog 108 cMet8a := by
  refine lawL (Γ := []) (Θ := Th) (n := 13) [] trivial (by kernel_rfl) th_ok mix_ok Go.Proofs.Try.func108 (by kernel_rfl) ?_
  intro x hw hp Λ hC
  have h0 := h x.1 x.2.1 x.2.2.1 hw hp  
  exact Eq.mpr (by kernel_rfl) h0
theorem cMet8a_ok : ConOK Go.Proofs.Try.prog 108 cMet8a := by
  refine cMet8a_law ?_
  intro r c0 c1 hw hp
  unfold cMet8a_0
  obtain ⟨p1, p2, p3, p4, p5⟩ := hp
  refine ⟨⟨p2, p3⟩, ⟨p4, ?_⟩, rfl, trivial⟩
  rw [okT_row p1 (by omega)]
  exact p5
abbrev cMet8 : Con := { A := (.cons (.sl (.sl .int)) (.cons (.sl .int) .nil)), R := (.cons (.osl .int) .nil), pre := fun x => okT x.1 ∧ inT x.1 x.2.1, F := fun x => (metL x.1 x.2.1, ()) }
def cMet8_0 (Λ1 : Int → (List Int) → Prop) (t : (List (List Int))) (set_ : (List Int)) (y0 : (List Int)) : Prop :=
  True ∧ Λ1 (0 : Int) ([] : List Int)
def cMet8_1 (Λ1 : Int → (List Int) → Prop) (t : (List (List Int))) (set_ : (List Int)) (y0 : (List Int))  (t9_1 : Int) (out_1 : (List Int)) : Prop :=
  if (decide (t9_1 < ((goals8 t : Int)))) = true then ((∀ r', r' ∈ set_ → (fun (xx : (Int × Unit)) => okT t ∧ 0 ≤ xx.1 ∧ xx.1 < t.length ∧ 0 ≤ t9_1 ∧ t9_1 < goals8 t, fun (xx : (Int × Unit)) => (hits t xx.1 t9_1.toNat, ())).1 (r', ())) ∧ (if (set_.any (fun r' => ((fun (xx : (Int × Unit)) => okT t ∧ 0 ≤ xx.1 ∧ xx.1 < t.length ∧ 0 ≤ t9_1 ∧ t9_1 < goals8 t, fun (xx : (Int × Unit)) => (hits t xx.1 t9_1.toNat, ())).2 (r', ())).1)) = true then (List.length out_1 + List.length [t9_1] ≤ 4294967296 ∧ (inI (t9_1 + (1 : Int)) ∧ Λ1 (t9_1 + (1 : Int)) (out_1 ++ [t9_1]))) else (inI (t9_1 + (1 : Int)) ∧ Λ1 (t9_1 + (1 : Int)) out_1))) else out_1 = y0
theorem cMet8_law (h : ∀ (t : (List (List Int))) (set_ : (List Int)), cMet8.A.wf (t, set_, ()) → (okT t ∧ inT t set_) → ∀ (Λ1 : Int → (List Int) → Prop), (∀ (t9_1 : Int) (out_1 : (List Int)), cMet8_1 Λ1 t set_ (metL t set_) t9_1 out_1 → Λ1 t9_1 out_1) → cMet8_0 Λ1 t set_ (metL t set_)) : ConOK Go.Proofs.Try.prog 81 cMet8 := by
  refine lawX (X := { subs := [], frz := [2], U := [], mul := [], nst := [], nls := [], itf := none, inp := [], arrs := [] }) (hX := xok0 _ trivial) (Γ := [(73, cContI8), (82, cGoals8), (108, cMet8a)]) (Θ := Th) (n := 21) [([1, 1, 0, 1, 0], ⟨[(1, false), (2, false), (5, true), (8, true), (9, true)], [(5, true)]⟩)] ⟨cContI8_ok, cGoals8_ok, cMet8a_ok, trivial⟩ (by kernel_rfl) th_ok mix_ok Go.Proofs.Try.func81 (by kernel_rfl) ?_
  intro x hw hp Λ hC
  have h0 := h x.1 x.2.1 hw hp (fun t9_1 out_1 => Λ [1, 1, 0, 1, 0] ([(1, .d false (.sl .int) x.2.1), (2, .ept false (.sl (.sl .int)) x.1), (5, .own 5 0), (8, .d true .int ((goals8 x.1 : Int))), (9, .d true .int t9_1)], [(5, .sl true .int out_1)])) (fun t9_1 out_1 hb => hC [1, 1, 0, 1, 0] ([(1, .d false (.sl .int) x.2.1), (2, .ept false (.sl (.sl .int)) x.1), (5, .own 5 0), (8, .d true .int ((goals8 x.1 : Int))), (9, .d true .int t9_1)], [(5, .sl true .int out_1)]) (Eq.mpr (by kernel_rfl) hb))
  exact Eq.mpr (by kernel_rfl) h0
theorem cMet8_ok : ConOK Go.Proofs.Try.prog 81 cMet8 := by
  refine cMet8_law ?_
  intro t set_ hw hp Λ1 h1
  unfold cMet8_0
  obtain ⟨p1, p2⟩ := hp
  have hg := p1.2.1
  refine ⟨trivial, ?_⟩
  refine upto (n := goals8 t) (Q := fun i => Λ1 i (metK t set_ i)) ?_ ?_ 0 (Nat.zero_le _)
  · apply h1; unfold cMet8_1; rw [if_neg (by simp)]
    rfl
  · intro i hi ih
    apply h1; unfold cMet8_1; rw [if_pos (by simpa using hi)]
    refine ⟨fun r hr => ⟨p1, (p2 r hr).1, (p2 r hr).2, by omega, by omega⟩, ?_⟩
    rw [metK_succ] at ih
    rw [Int.toNat_natCast]
    cases hv : (set_.any fun r => hits t r i)
    · rw [hv] at ih
      rw [if_neg (by simp)]
      exact ⟨by unfold inI; omega, by simpa using ih⟩
    · rw [hv] at ih
      rw [if_pos rfl]
      exact ⟨by have := metK_len t set_ i; simp; omega, by unfold inI; omega, by simpa using ih⟩
abbrev cOpen8 : Con := { A := (.cons (.sl (.sl .int)) .nil), R := (.cons (.osl .int) .nil), pre := fun x => okT x.1, F := fun x => (openL x.1, ()) }
def cOpen8_0  (t : (List (List Int))) (y0 : (List Int)) : Prop :=
  (0 ≤ (List.length t : Int) ∧ (List.length t : Int) ≤ 4294967296) ∧ ((okT t ∧ inT t (nums (List.length t : Int).toNat)) ∧ (metL t (nums (List.length t : Int).toNat)) = y0)
theorem cOpen8_law (h : ∀ (t : (List (List Int))), cOpen8.A.wf (t, ()) → (okT t) → cOpen8_0  t (openL t)) : ConOK Go.Proofs.Try.prog 57 cOpen8 := by
  refine lawL (Γ := [(67, cAll8), (81, cMet8)]) (Θ := Th) (n := 8) [] ⟨cAll8_ok, cMet8_ok, trivial⟩ (by kernel_rfl) th_ok mix_ok Go.Proofs.Try.func57 (by kernel_rfl) ?_
  intro x hw hp Λ hC
  have h0 := h x.1 hw hp  
  exact Eq.mpr (by kernel_rfl) h0
theorem cOpen8_ok : ConOK Go.Proofs.Try.prog 57 cOpen8 := by
  refine cOpen8_law ?_
  intro t hw hp
  unfold cOpen8_0
  have := hp.1
  exact ⟨⟨by omega, by omega⟩, ⟨hp, nums_in t⟩, rfl⟩
abbrev cOpenS : Con := { A := (.cons (.sl (.sl .int)) .nil), R := (.cons (.osl .int) (.cons .int .nil)), pre := fun x => True, F := fun x => ((if validT x.1 = 0 then openL x.1 else []), validT x.1, ()) }
def cOpenS_0  (t : (List (List Int))) (y0 : (List Int)) (y1 : Int) : Prop :=
  True ∧ (if ((validT t) != (0 : Int)) = true then ((validT t) = y1 ∧ ([] : List Int) = y0) else (okT t ∧ ((0 : Int) = y1 ∧ (openL t) = y0)))
theorem cOpenS_law (h : ∀ (t : (List (List Int))), cOpenS.A.wf (t, ()) → cOpenS_0  t (if validT t = 0 then openL t else []) (validT t)) : ConOK Go.Proofs.Try.prog 28 cOpenS := by
  refine lawL (Γ := [(57, cOpen8), (35, cVal8)]) (Θ := Th) (n := 12) [] ⟨cOpen8_ok, cVal8_ok, trivial⟩ (by kernel_rfl) th_ok mix_ok Go.Proofs.Try.func28 (by kernel_rfl) ?_
  intro x hw hp Λ hC
  have h0 := h x.1 hw  
  exact Eq.mpr (by kernel_rfl) h0
theorem cOpenS_ok : ConOK Go.Proofs.Try.prog 28 cOpenS := by
  refine cOpenS_law ?_
  intro t hw
  unfold cOpenS_0
  refine ⟨trivial, ?_⟩
  by_cases h : validT t = 0
  · rw [if_neg (by simp [h]), if_pos h, h]
    exact ⟨validT_ok.1 h, rfl, rfl⟩
  · rw [if_pos (by simp [h]), if_neg h]
    exact ⟨rfl, rfl⟩
theorem rowsT_ok {t : Ste} {l : List Int} (h : rowsT t l = 0) : okT t ∧ inT t l ∧ isSet8 l t.length = true := by
  unfold rowsT at h
  split at h
  · rename_i h0
    rw [argErr_zero] at h
    exact ⟨validT_ok.1 h0, isSet8_in h, h⟩
  · rename_i h0; exact absurd h h0
abbrev cMetS : Con := { A := (.cons (.sl (.sl .int)) (.cons (.sl .int) .nil)), R := (.cons (.osl .int) (.cons .int .nil)), pre := fun x => True, F := fun x => ((if rowsT x.1 x.2.1 = 0 then metL x.1 x.2.1 else []), rowsT x.1 x.2.1, ()) }
def cMetS_0  (t : (List (List Int))) (set_ : (List Int)) (y0 : (List Int)) (y1 : Int) : Prop :=
  True ∧ (if ((rowsT t set_) != (0 : Int)) = true then ((rowsT t set_) = y1 ∧ ([] : List Int) = y0) else ((okT t ∧ inT t set_) ∧ ((0 : Int) = y1 ∧ (metL t set_) = y0)))
theorem cMetS_law (h : ∀ (t : (List (List Int))) (set_ : (List Int)), cMetS.A.wf (t, set_, ()) → cMetS_0  t set_ (if rowsT t set_ = 0 then metL t set_ else []) (rowsT t set_)) : ConOK Go.Proofs.Try.prog 33 cMetS := by
  refine lawL (Γ := [(81, cMet8), (78, cRows8)]) (Θ := Th) (n := 16) [] ⟨cMet8_ok, cRows8_ok, trivial⟩ (by kernel_rfl) th_ok mix_ok Go.Proofs.Try.func33 (by kernel_rfl) ?_
  intro x hw hp Λ hC
  have h0 := h x.1 x.2.1 hw  
  exact Eq.mpr (by kernel_rfl) h0
theorem cMetS_ok : ConOK Go.Proofs.Try.prog 33 cMetS := by
  refine cMetS_law ?_
  intro t set_ hw
  unfold cMetS_0
  refine ⟨trivial, ?_⟩
  by_cases h : rowsT t set_ = 0
  · rw [if_neg (by simp [h]), if_pos h, h]
    exact ⟨⟨(rowsT_ok h).1, (rowsT_ok h).2.1⟩, rfl, rfl⟩
  · rw [if_pos (by simp [h]), if_neg h]
    exact ⟨rfl, rfl⟩
abbrev cIsCov : Con := { A := (.cons (.sl (.sl .int)) (.cons (.sl .int) .nil)), R := (.cons .bool .nil), pre := fun x => okT x.1 ∧ inT x.1 x.2.1, F := fun x => (coverB x.1 x.2.1, ()) }
def cIsCov_0  (t : (List (List Int))) (set_ : (List Int)) (y0 : Bool) : Prop :=
  (okT t ∧ inT t set_) ∧ (okT t ∧ (((List.length (metL t set_) : Int) == (List.length (openL t) : Int)) = y0 ∧ True))
theorem cIsCov_law (h : ∀ (t : (List (List Int))) (set_ : (List Int)), cIsCov.A.wf (t, set_, ()) → (okT t ∧ inT t set_) → cIsCov_0  t set_ (coverB t set_)) : ConOK Go.Proofs.Try.prog 69 cIsCov := by
  refine lawL (Γ := [(81, cMet8), (57, cOpen8)]) (Θ := Th) (n := 13) [] ⟨cMet8_ok, cOpen8_ok, trivial⟩ (by kernel_rfl) th_ok mix_ok Go.Proofs.Try.func69 (by kernel_rfl) ?_
  intro x hw hp Λ hC
  have h0 := h x.1 x.2.1 hw hp  
  exact Eq.mpr (by kernel_rfl) h0
theorem cIsCov_ok : ConOK Go.Proofs.Try.prog 69 cIsCov := by
  refine cIsCov_law ?_
  intro t set_ hw hp
  unfold cIsCov_0
  refine ⟨hp, hp.1, ?_, trivial⟩
  unfold coverB
  rw [beq_dec, decide_eq_decide]
  omega
abbrev cCheckCov : Con := { A := (.cons (.sl (.sl .int)) (.cons (.sl .int) .nil)), R := (.cons .int .nil), pre := fun x => True, F := fun x => ((if rowsT x.1 x.2.1 = 0 then (if coverB x.1 x.2.1 then 0 else 7) else rowsT x.1 x.2.1), ()) }
def cCheckCov_0  (t : (List (List Int))) (set_ : (List Int)) (y0 : Int) : Prop :=
  True ∧ (if ((rowsT t set_) != (0 : Int)) = true then ((rowsT t set_) = y0 ∧ True) else ((okT t ∧ inT t set_) ∧ (if (!(coverB t set_)) = true then ((7 : Int) = y0 ∧ True) else ((0 : Int) = y0 ∧ True))))
theorem cCheckCov_law (h : ∀ (t : (List (List Int))) (set_ : (List Int)), cCheckCov.A.wf (t, set_, ()) → cCheckCov_0  t set_ (if rowsT t set_ = 0 then (if coverB t set_ then 0 else 7) else rowsT t set_)) : ConOK Go.Proofs.Try.prog 29 cCheckCov := by
  refine lawL (Γ := [(69, cIsCov), (78, cRows8)]) (Θ := Th) (n := 16) [] ⟨cIsCov_ok, cRows8_ok, trivial⟩ (by kernel_rfl) th_ok mix_ok Go.Proofs.Try.func29 (by kernel_rfl) ?_
  intro x hw hp Λ hC
  have h0 := h x.1 x.2.1 hw  
  exact Eq.mpr (by kernel_rfl) h0
theorem cCheckCov_ok : ConOK Go.Proofs.Try.prog 29 cCheckCov := by
  refine cCheckCov_law ?_
  intro t set_ hw
  unfold cCheckCov_0
  refine ⟨trivial, ?_⟩
  by_cases h : rowsT t set_ = 0
  · rw [if_neg (by simp [h]), if_pos h]
    refine ⟨⟨(rowsT_ok h).1, (rowsT_ok h).2.1⟩, ?_⟩
    cases coverB t set_
    · rw [if_pos (by rfl)]
      exact ⟨rfl, trivial⟩
    · rw [if_neg (by simp)]
      exact ⟨rfl, trivial⟩
  · rw [if_pos (by simp [h]), if_neg h]
    exact ⟨rfl, trivial⟩
end Go.Tk
