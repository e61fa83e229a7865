/- Merged: C2u P2s C2s C2w C2x C2y EngX C2l C2m. -/
import Derived.Test.YtolbkaphghjeeaaMg1
import Derived.Test.YtolbkaphghjeeaaEngW
import Derived.WalkKit
set_option linter.unusedSimpArgs false
set_option linter.unusedVariables false
namespace Go.Tk
open Go Go.RowKit

abbrev cIndexN : Con := { A := (.cons (.sl .int) (.cons .int .nil)), R := (.cons .int .nil), pre := fun x => True, F := fun x => (idxF (fun r' => x.2.1 == r') x.1, ()) }
def cIndexN_0 (Λ1 : Int → Prop) (s : (List Int)) (v : Int) (y0 : Int) : Prop :=
  Λ1 (0 : Int)
def cIndexN_1 (Λ1 : Int → Prop) (s : (List Int)) (v : Int) (y0 : Int)  (t8_1 : Int) : Prop :=
  if (decide (t8_1 < (List.length s : Int))) = true then (idx t8_1 (List.length s : Int) ∧ (if (v == (List.getD s (Int.toNat t8_1) 0)) = true then (t8_1 = y0 ∧ True) else (inI (t8_1 + (1 : Int)) ∧ Λ1 (t8_1 + (1 : Int))))) else ((-1 : Int) = y0 ∧ True)
theorem cIndexN_law (h : ∀ (s : (List Int)) (v : Int), cIndexN.A.wf (s, v, ()) → ∀ (Λ1 : Int → Prop), (∀ (t8_1 : Int), cIndexN_1 Λ1 s v (idxF (fun r' => v == r') s) t8_1 → Λ1 t8_1) → cIndexN_0 Λ1 s v (idxF (fun r' => v == r') s)) : ConOK Go.Proofs.Try.prog 126 cIndexN := by
  refine lawL (Γ := []) (Θ := Th) (n := 19) [([1, 0, 1, 0], ⟨[(0, false), (1, false), (7, true), (8, true)], []⟩)] trivial (by kernel_rfl) th_ok mix_ok Go.Proofs.Try.func126 (by kernel_rfl) ?_
  intro x hw hp Λ hC
  have h0 := h x.1 x.2.1 hw (fun t8_1 => Λ [1, 0, 1, 0] ([(0, .d false (.sl .int) x.1), (1, .d false .int x.2.1), (7, .d true .int (List.length x.1 : Int)), (8, .d true .int t8_1)], [])) (fun t8_1 hb => hC [1, 0, 1, 0] ([(0, .d false (.sl .int) x.1), (1, .d false .int x.2.1), (7, .d true .int (List.length x.1 : Int)), (8, .d true .int t8_1)], []) (Eq.mpr (by kernel_rfl) hb))
  exact Eq.mpr (by kernel_rfl) h0
theorem cIndexN_ok : ConOK Go.Proofs.Try.prog 126 cIndexN := by
  refine cIndexN_law ?_
  intro s v hw Λ1 h1
  unfold cIndexN_0
  refine upto (n := s.length) (Q := fun i => (s.take i).any (fun r => v == r) = false → Λ1 i) ?_ ?_ 0 (Nat.zero_le _) rfl
  · intro ha
    rw [List.take_length] at ha
    apply h1; unfold cIndexN_1; rw [if_neg (by simp), idxF_none ha]
    exact ⟨rfl, trivial⟩
  · intro i hi ih ha
    apply h1; unfold cIndexN_1; rw [if_pos (by simpa using hi), Int.toNat_natCast]
    refine ⟨idx_nat hi, ?_⟩
    cases hv : (v == List.getD s i 0)
    · rw [if_neg (by simp)]
      exact ⟨inI_succ hi hw.1.1, ih (any_take_next (p := fun r => v == r) 0 hi ha hv)⟩
    · rw [if_pos (by rfl), idxF_at (p := fun r => v == r) 0 hi ha hv]
      exact ⟨rfl, trivial⟩
abbrev cContN : Con := { A := (.cons (.sl .int) (.cons .int .nil)), R := (.cons .bool .nil), pre := fun x => True, F := fun x => (decide (x.2.1 ∈ x.1), ()) }
def cContN_0  (s : (List Int)) (v : Int) (y0 : Bool) : Prop :=
  True ∧ ((decide ((idxF (fun r' => v == r') s) ≥ (0 : Int))) = y0 ∧ True)
theorem cContN_law (h : ∀ (s : (List Int)) (v : Int), cContN.A.wf (s, v, ()) → cContN_0  s v (decide (v ∈ s))) : ConOK Go.Proofs.Try.prog 108 cContN := by
  refine lawL (Γ := [(126, cIndexN)]) (Θ := Th) (n := 9) [] ⟨cIndexN_ok, trivial⟩ (by kernel_rfl) th_ok mix_ok Go.Proofs.Try.func108 (by kernel_rfl) ?_
  intro x hw hp Λ hC
  have h0 := h x.1 x.2.1 hw  
  exact Eq.mpr (by kernel_rfl) h0
theorem cContN_ok : ConOK Go.Proofs.Try.prog 108 cContN := by
  refine cContN_law ?_
  intro s v hw
  unfold cContN_0
  refine ⟨trivial, ?_, trivial⟩
  rw [idxF_any, Bool.eq_iff_iff]
  simp
abbrev cHasN : Con := { A := (.cons (.sl .int) (.cons .int .nil)), R := (.cons .bool .nil), pre := fun x => x.1.length ≤ 1000000, F := fun x => (decide (x.2.1 ∈ x.1), ()) }
def cHasN_0 (Λ1 : Int → Prop) (l : (List Int)) (n : Int) (y0 : Bool) : Prop :=
  Λ1 (0 : Int)
def cHasN_1 (Λ1 : Int → Prop) (l : (List Int)) (n : Int) (y0 : Bool)  (i_1 : Int) : Prop :=
  if (decide (i_1 < (List.length l : Int))) = true then (idx i_1 (List.length l : Int) ∧ (if ((List.getD l (Int.toNat i_1) 0) == n) = true then (true = y0 ∧ True) else (inI (i_1 + (1 : Int)) ∧ Λ1 (i_1 + (1 : Int))))) else (false = y0 ∧ True)
theorem cHasN_law (h : ∀ (l : (List Int)) (n : Int), cHasN.A.wf (l, n, ()) → (l.length ≤ 1000000) → ∀ (Λ1 : Int → Prop), (∀ (i_1 : Int), cHasN_1 Λ1 l n (decide (n ∈ l)) i_1 → Λ1 i_1) → cHasN_0 Λ1 l n (decide (n ∈ l))) : ConOK Go.Proofs.Try.prog 63 cHasN := by
  refine lawL (Γ := []) (Θ := Th) (n := 18) [([1, 0, 1, 0], ⟨[(0, false), (1, false), (5, true)], []⟩)] trivial (by kernel_rfl) th_ok mix_ok Go.Proofs.Try.func63 (by kernel_rfl) ?_
  intro x hw hp Λ hC
  have h0 := h x.1 x.2.1 hw hp (fun i_1 => Λ [1, 0, 1, 0] ([(0, .d false (.sl .int) x.1), (1, .d false .int x.2.1), (5, .d true .int i_1)], [])) (fun i_1 hb => hC [1, 0, 1, 0] ([(0, .d false (.sl .int) x.1), (1, .d false .int x.2.1), (5, .d true .int i_1)], []) (Eq.mpr (by kernel_rfl) hb))
  exact Eq.mpr (by kernel_rfl) h0
theorem cHasN_ok : ConOK Go.Proofs.Try.prog 63 cHasN := by
  refine cHasN_law ?_
  intro l n hw hp Λ1 h1
  unfold cHasN_0
  refine upto (n := l.length) (Q := fun i => (l.take i).any (fun r => r == n) = false → Λ1 i) ?_ ?_ 0 (Nat.zero_le _) rfl
  · intro ha
    rw [List.take_length] at ha
    apply h1; unfold cHasN_1; rw [if_neg (by simp)]
    refine ⟨?_, trivial⟩
    have : ¬ n ∈ l := fun h => by
      have := List.any_eq_false.1 ha n h
      simp at this
    simp [this]
  · intro i hi ih ha
    apply h1; unfold cHasN_1; rw [if_pos (by simpa using hi), Int.toNat_natCast]
    refine ⟨idx_nat hi, ?_⟩
    cases hv : (List.getD l i 0 == n)
    · rw [if_neg (by simp)]
      exact ⟨inI_succ hi (by omega), ih (any_take_next (p := fun r => r == n) 0 hi ha hv)⟩
    · rw [if_pos (by rfl)]
      have : n ∈ l := by
        have e := eq_of_beq hv
        rw [← e]; exact mem_getD hi
      exact ⟨by simp [this], trivial⟩
abbrev cRatio : Con := { A := (.cons .int (.cons .int .nil)), R := (.cons tRa .nil), pre := fun x => 0 ≤ x.1 ∧ 0 < x.2.1 ∧ x.1 ≤ 1000000 ∧ x.2.1 ≤ 1000000, F := fun x => (ratioQ x.1 x.2.1, ()) }
def cRatio_0 (Λ1 : Int → Int → Prop) (num : Int) (den : Int) (y0 : Rtl) : Prop :=
  Λ1 num den
def cRatio_1 (Λ1 : Int → Int → Prop) (num : Int) (den : Int) (y0 : Rtl)  (a_1 : Int) (b_1 : Int) : Prop :=
  if (b_1 != (0 : Int)) = true then ((b_1 ≠ 0 ∧ inI (Int.tmod a_1 b_1)) ∧ Λ1 b_1 (Int.tmod a_1 b_1)) else ((a_1 ≠ 0 ∧ inI (Int.tdiv num a_1)) ∧ ((a_1 ≠ 0 ∧ inI (Int.tdiv den a_1)) ∧ (((Int.tdiv num a_1), (Int.tdiv den a_1), ()) = y0 ∧ True)))
theorem cRatio_law (h : ∀ (num : Int) (den : Int), cRatio.A.wf (num, den, ()) → (0 ≤ num ∧ 0 < den ∧ num ≤ 1000000 ∧ den ≤ 1000000) → ∀ (Λ1 : Int → Int → Prop), (∀ (a_1 : Int) (b_1 : Int), cRatio_1 Λ1 num den (ratioQ num den) a_1 b_1 → Λ1 a_1 b_1) → cRatio_0 Λ1 num den (ratioQ num den)) : ConOK Go.Proofs.Try.prog 109 cRatio := by
  refine lawL (Γ := []) (Θ := Th) (n := 22) [([1, 1, 0, 0], ⟨[(0, false), (1, false), (4, true), (5, false), (6, false)], [(4, true)]⟩)] trivial (by kernel_rfl) th_ok mix_ok Go.Proofs.Try.func109 (by kernel_rfl) ?_
  intro x hw hp Λ hC
  have h0 := h x.1 x.2.1 hw hp (fun a_1 b_1 => Λ [1, 1, 0, 0] ([(0, .d false .int x.1), (1, .d false .int x.2.1), (4, .ptr 4 0 []), (5, .d false .int a_1), (6, .d false .int b_1)], [(4, .box true tRa tRa.dflt)])) (fun a_1 b_1 hb => hC [1, 1, 0, 0] ([(0, .d false .int x.1), (1, .d false .int x.2.1), (4, .ptr 4 0 []), (5, .d false .int a_1), (6, .d false .int b_1)], [(4, .box true tRa tRa.dflt)]) (Eq.mpr (by kernel_rfl) hb))
  exact Eq.mpr (by kernel_rfl) h0
theorem cRatio_ok : ConOK Go.Proofs.Try.prog 109 cRatio := by
  refine cRatio_law ?_
  intro num den hw hp Λ1 h1
  unfold cRatio_0
  obtain ⟨p1, p2, p3, p4⟩ := hp
  have gpos : 0 < Int.gcd num den := by
    have := Int.gcd_pos_of_ne_zero_right num (show den ≠ 0 by omega); omega
  obtain ⟨N, rfl⟩ := Int.eq_ofNat_of_zero_le p1
  obtain ⟨D, rfl⟩ := Int.eq_ofNat_of_zero_le (show 0 ≤ den by omega)
  have key : ∀ k A B : Nat, B ≤ k → A ≤ 1000000 → B ≤ 1000000 → Nat.gcd A B = Int.gcd (N : Int) D → Λ1 (A : Int) B := by
    intro k
    induction k with
    | zero =>
      intro A B h0 hA hB hg
      have : B = 0 := by omega
      subst this
      rw [Nat.gcd_zero_right] at hg
      apply h1; unfold cRatio_1; rw [if_neg (by simp)]
      have hA0 : (A : Int) ≠ 0 := by omega
      have q1 : Int.tdiv (N : Int) A = (N : Int) / A := Int.tdiv_eq_ediv_of_nonneg (by omega)
      have q2 : Int.tdiv (D : Int) A = (D : Int) / A := Int.tdiv_eq_ediv_of_nonneg (by omega)
      have b1 : (N : Int) / A ≤ N := Int.ediv_le_self _ (by omega)
      have b2 : (D : Int) / A ≤ D := Int.ediv_le_self _ (by omega)
      have c1 : 0 ≤ (N : Int) / A := Int.ediv_nonneg (by omega) (by omega)
      have c2 : 0 ≤ (D : Int) / A := Int.ediv_nonneg (by omega) (by omega)
      rw [q1, q2]
      refine ⟨⟨hA0, by unfold inI; omega⟩, ⟨hA0, by unfold inI; omega⟩, ?_, trivial⟩
      unfold ratioQ
      rw [← hg]
    | succ k ih =>
      intro A B h0 hA hB hg
      by_cases hb : B = 0
      · subst hb; exact ih A 0 (by omega) hA (by omega) hg
      apply h1; unfold cRatio_1; rw [if_pos (by simpa using hb)]
      have q : Int.tmod (A : Int) B = ((A % B : Nat) : Int) := by rw [Int.tmod_eq_emod_of_nonneg (by omega)]; rfl
      have hlt := Nat.mod_lt A (show 0 < B by omega)
      rw [q]
      refine ⟨⟨by omega, by unfold inI; omega⟩, ih B (A % B) (by omega) hB (by omega) ?_⟩
      rw [← hg, Nat.gcd_comm A B, Nat.gcd_rec B A, Nat.gcd_comm]
  exact key D N D (Nat.le_refl _) (by omega) (by omega) rfl
abbrev cRatioR : Con := { A := (.cons .int (.cons .int .nil)), R := (.cons tRa .nil), pre := fun x => 0 ≤ x.1 ∧ 0 < x.2.1 ∧ x.1 ≤ 1000000 ∧ x.2.1 ≤ 1000000, F := fun x => (ratioQ x.1 x.2.1, ()) }
def cRatioR_0 (Λ1 : Int → Int → Prop) (n : Int) (d : Int) (y0 : Rtl) : Prop :=
  Λ1 n d
def cRatioR_1 (Λ1 : Int → Int → Prop) (n : Int) (d : Int) (y0 : Rtl)  (a_1 : Int) (b_1 : Int) : Prop :=
  if (b_1 != (0 : Int)) = true then ((b_1 ≠ 0 ∧ inI (Int.tmod a_1 b_1)) ∧ Λ1 b_1 (Int.tmod a_1 b_1)) else ((a_1 ≠ 0 ∧ inI (Int.tdiv n a_1)) ∧ ((a_1 ≠ 0 ∧ inI (Int.tdiv d a_1)) ∧ (((Int.tdiv n a_1), (Int.tdiv d a_1), ()) = y0 ∧ True)))
theorem cRatioR_law (h : ∀ (n : Int) (d : Int), cRatioR.A.wf (n, d, ()) → (0 ≤ n ∧ 0 < d ∧ n ≤ 1000000 ∧ d ≤ 1000000) → ∀ (Λ1 : Int → Int → Prop), (∀ (a_1 : Int) (b_1 : Int), cRatioR_1 Λ1 n d (ratioQ n d) a_1 b_1 → Λ1 a_1 b_1) → cRatioR_0 Λ1 n d (ratioQ n d)) : ConOK Go.Proofs.Try.prog 64 cRatioR := by
  refine lawL (Γ := []) (Θ := Th) (n := 22) [([1, 1, 0, 0], ⟨[(0, false), (1, false), (4, true), (5, false), (6, false)], [(4, true)]⟩)] trivial (by kernel_rfl) th_ok mix_ok Go.Proofs.Try.func64 (by kernel_rfl) ?_
  intro x hw hp Λ hC
  have h0 := h x.1 x.2.1 hw hp (fun a_1 b_1 => Λ [1, 1, 0, 0] ([(0, .d false .int x.1), (1, .d false .int x.2.1), (4, .ptr 4 0 []), (5, .d false .int a_1), (6, .d false .int b_1)], [(4, .box true tRa tRa.dflt)])) (fun a_1 b_1 hb => hC [1, 1, 0, 0] ([(0, .d false .int x.1), (1, .d false .int x.2.1), (4, .ptr 4 0 []), (5, .d false .int a_1), (6, .d false .int b_1)], [(4, .box true tRa tRa.dflt)]) (Eq.mpr (by kernel_rfl) hb))
  exact Eq.mpr (by kernel_rfl) h0
theorem cRatioR_ok : ConOK Go.Proofs.Try.prog 64 cRatioR := by
  refine cRatioR_law ?_
  intro n d hw hp Λ1 h1
  unfold cRatioR_0
  obtain ⟨p1, p2, p3, p4⟩ := hp
  have gpos : 0 < Int.gcd n d := by
    have := Int.gcd_pos_of_ne_zero_right n (show d ≠ 0 by omega); omega
  obtain ⟨N, rfl⟩ := Int.eq_ofNat_of_zero_le p1
  obtain ⟨D, rfl⟩ := Int.eq_ofNat_of_zero_le (show 0 ≤ d by omega)
  have key : ∀ k A B : Nat, B ≤ k → A ≤ 1000000 → B ≤ 1000000 → Nat.gcd A B = Int.gcd (N : Int) D → Λ1 (A : Int) B := by
    intro k
    induction k with
    | zero =>
      intro A B h0 hA hB hg
      have : B = 0 := by omega
      subst this
      rw [Nat.gcd_zero_right] at hg
      apply h1; unfold cRatioR_1; rw [if_neg (by simp)]
      have hA0 : (A : Int) ≠ 0 := by omega
      have q1 : Int.tdiv (N : Int) A = (N : Int) / A := Int.tdiv_eq_ediv_of_nonneg (by omega)
      have q2 : Int.tdiv (D : Int) A = (D : Int) / A := Int.tdiv_eq_ediv_of_nonneg (by omega)
      have b1 : (N : Int) / A ≤ N := Int.ediv_le_self _ (by omega)
      have b2 : (D : Int) / A ≤ D := Int.ediv_le_self _ (by omega)
      have c1 : 0 ≤ (N : Int) / A := Int.ediv_nonneg (by omega) (by omega)
      have c2 : 0 ≤ (D : Int) / A := Int.ediv_nonneg (by omega) (by omega)
      rw [q1, q2]
      refine ⟨⟨hA0, by unfold inI; omega⟩, ⟨hA0, by unfold inI; omega⟩, ?_, trivial⟩
      unfold ratioQ
      rw [← hg]
    | succ k ih =>
      intro A B h0 hA hB hg
      by_cases hb : B = 0
      · subst hb; exact ih A 0 (by omega) hA (by omega) hg
      apply h1; unfold cRatioR_1; rw [if_pos (by simpa using hb)]
      have q : Int.tmod (A : Int) B = ((A % B : Nat) : Int) := by rw [Int.tmod_eq_emod_of_nonneg (by omega)]; rfl
      have hlt := Nat.mod_lt A (show 0 < B by omega)
      rw [q]
      refine ⟨⟨by omega, by unfold inI; omega⟩, ih B (A % B) (by omega) hB (by omega) ?_⟩
      rw [← hg, Nat.gcd_comm A B, Nat.gcd_rec B A, Nat.gcd_comm]
  exact key D N D (Nat.le_refl _) (by omega) (by omega) rfl
abbrev cScores1 : Con := { A := (.cons tTs (.cons (.ref (.sl tL)) .nil)), R := (.cons .bool .nil), pre := fun x => validP x.2.1 = 0 ∧ isTst x.1 = true, F := fun x => (!(passT x.2.1 x.1), ()) }
def cScores1_0  (t : Tst) (c0 : (List Lin)) (y0 : Bool) : Prop :=
  (validP c0 = 0 ∧ isTst t = true) ∧ ((!(passT c0 t)) = y0 ∧ True)
theorem cScores1_law (h : ∀ (t : Tst) (c0 : (List Lin)), cScores1.A.wf (t, c0, ()) → (validP c0 = 0 ∧ isTst t = true) → cScores1_0  t c0 (!(passT c0 t))) : ConOK Go.Proofs.Try.prog 106 cScores1 := by
  refine lawL (Γ := [(70, cPassT)]) (Θ := Th) (n := 8) [] ⟨cPassT_ok, trivial⟩ (by kernel_rfl) th_ok mix_ok Go.Proofs.Try.func106 (by kernel_rfl) ?_
  intro x hw hp Λ hC
  have h0 := h x.1 x.2.1 hw hp  
  exact Eq.mpr (by kernel_rfl) h0
theorem cScores1_ok : ConOK Go.Proofs.Try.prog 106 cScores1 := by
  refine cScores1_law ?_
  intro t c0 hw hp
  unfold cScores1_0
  exact ⟨hp, rfl, trivial⟩
abbrev cScores0 : Con := { A := (.cons (.sl tL) (.cons (.sl tTs) .nil)), R := (.cons (.osl tRa) (.cons .bool .nil)), pre := fun x => validP x.1 = 0 ∧ validT x.2.1 = 0, F := fun x => (scoresT x.1 x.2.1, decide (failL x.1 x.2.1 ≠ []), ()) }
def cScores0_0 (Λ1 : Int → (List Rtl) → Prop) (Λ2 : (List Rtl) → Int → Int → Int → Int → Prop) (p : (List Lin)) (l : (List Tst)) (y0 : (List Rtl)) (y1 : Bool) : Prop :=
  (l.length ≤ 1000000 ∧ ∀ t' ∈ l, tTs.wf t' → (fun (xx : (Tst × Unit)) => validP p = 0 ∧ isTst xx.1 = true, fun (xx : (Tst × Unit)) => (!(passT p xx.1), ())).1 (t', ())) ∧ ((validP p = 0 ∧ validT l = 0) ∧ (([(0, 1, ())].length = 1 ∧ 0 ≤ (List.length p : Int) ∧ (List.length p : Int) ≤ 1000) ∧ (if ((List.length (whereL (fun t' => ((fun (xx : (Tst × Unit)) => validP p = 0 ∧ isTst xx.1 = true, fun (xx : (Tst × Unit)) => (!(passT p xx.1), ())).2 (t', ())).1) l) : Int) == (0 : Int)) = true then (false = y1 ∧ (List.replicate (Int.toNat (List.length p : Int)) (List.getD [(0, 1, ())] 0 tRa.dflt)) = y0) else Λ1 (0 : Int) (List.replicate (Int.toNat (List.length p : Int)) (List.getD [(0, 1, ())] 0 tRa.dflt)))))
def cScores0_1 (Λ1 : Int → (List Rtl) → Prop) (Λ2 : (List Rtl) → Int → Int → Int → Int → Prop) (p : (List Lin)) (l : (List Tst)) (y0 : (List Rtl)) (y1 : Bool)  (t31_1 : Int) (out_1 : (List Rtl)) : Prop :=
  if (decide (t31_1 < (List.length p : Int))) = true then Λ2 out_1 t31_1 (0 : Int) (0 : Int) (0 : Int) else (true = y1 ∧ out_1 = y0)
def cScores0_2 (Λ1 : Int → (List Rtl) → Prop) (Λ2 : (List Rtl) → Int → Int → Int → Int → Prop) (p : (List Lin)) (l : (List Tst)) (y0 : (List Rtl)) (y1 : Bool) (out_1 : (List Rtl)) (t31_1 : Int) (bad_2 : Int) (good_2 : Int) (t36_2 : Int) : Prop :=
  if (decide (t36_2 < (List.length (tableT p l) : Int))) = true then (idx t36_2 (List.length (tableT p l) : Int) ∧ (True ∧ (if (decide (t36_2 ∈ (whereL (fun t' => ((fun (xx : (Tst × Unit)) => validP p = 0 ∧ isTst xx.1 = true, fun (xx : (Tst × Unit)) => (!(passT p xx.1), ())).2 (t', ())).1) l))) = true then (idx t31_1 (List.length (List.getD (tableT p l) (Int.toNat t36_2) ([] : List Int)) : Int) ∧ (inI (bad_2 + (List.getD (List.getD (tableT p l) (Int.toNat t36_2) ([] : List Int)) (Int.toNat t31_1) 0)) ∧ (inI (t36_2 + (1 : Int)) ∧ Λ2 out_1 t31_1 (bad_2 + (List.getD (List.getD (tableT p l) (Int.toNat t36_2) ([] : List Int)) (Int.toNat t31_1) 0)) good_2 (t36_2 + (1 : Int))))) else (idx t31_1 (List.length (List.getD (tableT p l) (Int.toNat t36_2) ([] : List Int)) : Int) ∧ (inI (good_2 + (List.getD (List.getD (tableT p l) (Int.toNat t36_2) ([] : List Int)) (Int.toNat t31_1) 0)) ∧ (inI (t36_2 + (1 : Int)) ∧ Λ2 out_1 t31_1 bad_2 (good_2 + (List.getD (List.getD (tableT p l) (Int.toNat t36_2) ([] : List Int)) (Int.toNat t31_1) 0)) (t36_2 + (1 : Int)))))))) else (inI ((List.length (whereL (fun t' => ((fun (xx : (Tst × Unit)) => validP p = 0 ∧ isTst xx.1 = true, fun (xx : (Tst × Unit)) => (!(passT p xx.1), ())).2 (t', ())).1) l) : Int) + good_2) ∧ ((0 ≤ bad_2 ∧ 0 < ((List.length (whereL (fun t' => ((fun (xx : (Tst × Unit)) => validP p = 0 ∧ isTst xx.1 = true, fun (xx : (Tst × Unit)) => (!(passT p xx.1), ())).2 (t', ())).1) l) : Int) + good_2) ∧ bad_2 ≤ 1000000 ∧ ((List.length (whereL (fun t' => ((fun (xx : (Tst × Unit)) => validP p = 0 ∧ isTst xx.1 = true, fun (xx : (Tst × Unit)) => (!(passT p xx.1), ())).2 (t', ())).1) l) : Int) + good_2) ≤ 1000000) ∧ (idx t31_1 (List.length out_1 : Int) ∧ (inI (t31_1 + (1 : Int)) ∧ Λ1 (t31_1 + (1 : Int)) (List.set out_1 (Int.toNat t31_1) (ratioQ bad_2 ((List.length (whereL (fun t' => ((fun (xx : (Tst × Unit)) => validP p = 0 ∧ isTst xx.1 = true, fun (xx : (Tst × Unit)) => (!(passT p xx.1), ())).2 (t', ())).1) l) : Int) + good_2)))))))
theorem cScores0_law (h : ∀ (p : (List Lin)) (l : (List Tst)), cScores0.A.wf (p, l, ()) → (validP p = 0 ∧ validT l = 0) → ∀ (Λ1 : Int → (List Rtl) → Prop) (Λ2 : (List Rtl) → Int → Int → Int → Int → Prop), (∀ (t31_1 : Int) (out_1 : (List Rtl)), cScores0_1 Λ1 Λ2 p l (scoresT p l) (decide (failL p l ≠ [])) t31_1 out_1 → Λ1 t31_1 out_1) → (∀ (out_1 : (List Rtl)) (t31_1 : Int) (bad_2 : Int) (good_2 : Int) (t36_2 : Int), cScores0_2 Λ1 Λ2 p l (scoresT p l) (decide (failL p l ≠ [])) out_1 t31_1 bad_2 good_2 t36_2 → Λ2 out_1 t31_1 bad_2 good_2 t36_2) → cScores0_0 Λ1 Λ2 p l (scoresT p l) (decide (failL p l ≠ []))) : ConOK Go.Proofs.Try.prog 62 cScores0 := by
  refine lawX (X := { subs := [], frz := [2], U := [], mul := [], nst := [], nls := [], itf := none, inp := [], arrs := [] }) (hX := xok0 _ trivial) (Γ := [(108, cContN), (109, cRatio), (107, cRepeat), (106, cScores1), (84, cTable0), (73, cWhere)]) (Θ := Th) (n := 68) [([1, 1, 1, 1, 0, 1, 0], ⟨[(6, true), (7, true), (8, true), (30, true), (31, true)], [(16, true), (19, true), (24, true)]⟩), ([1, 1, 1, 1, 0, 1, 0, 0, 1, 1, 0, 0, 1, 1, 0, 1, 0], ⟨[(6, true), (7, true), (8, true), (9, true), (10, true), (11, true), (30, true), (31, true), (34, true), (35, true), (36, true)], [(16, true), (19, true), (24, true)]⟩)] ⟨cContN_ok, cRatio_ok, cRepeat_ok, cScores1_ok, cTable0_ok, cWhere_ok, trivial⟩ (by kernel_rfl) th_ok mix_ok Go.Proofs.Try.func62 (by kernel_rfl) ?_
  intro x hw hp Λ hC
  have h0 := h x.1 x.2.1 hw hp (fun t31_1 out_1 => Λ [1, 1, 1, 1, 0, 1, 0] ([(6, .own 16 0), (7, .own 19 0), (8, .own 24 0), (30, .d true .int (List.length x.1 : Int)), (31, .d true .int t31_1)], [(16, .sl true .int (whereL (fun t' => ((fun (xx : (Tst × Unit)) => validP x.1 = 0 ∧ isTst xx.1 = true, fun (xx : (Tst × Unit)) => (!(passT x.1 xx.1), ())).2 (t', ())).1) x.2.1)), (19, .sl true (.sl .int) (tableT x.1 x.2.1)), (24, .sl true tRa out_1)])) (fun out_1 t31_1 bad_2 good_2 t36_2 => Λ [1, 1, 1, 1, 0, 1, 0, 0, 1, 1, 0, 0, 1, 1, 0, 1, 0] ([(6, .own 16 0), (7, .own 19 0), (8, .own 24 0), (9, .d true .int t31_1), (10, .d true .int bad_2), (11, .d true .int good_2), (30, .d true .int (List.length x.1 : Int)), (31, .d true .int t31_1), (34, .own 19 0), (35, .d true .int (List.length (tableT x.1 x.2.1) : Int)), (36, .d true .int t36_2)], [(16, .sl true .int (whereL (fun t' => ((fun (xx : (Tst × Unit)) => validP x.1 = 0 ∧ isTst xx.1 = true, fun (xx : (Tst × Unit)) => (!(passT x.1 xx.1), ())).2 (t', ())).1) x.2.1)), (19, .sl true (.sl .int) (tableT x.1 x.2.1)), (24, .sl true tRa out_1)])) (fun t31_1 out_1 hb => hC [1, 1, 1, 1, 0, 1, 0] ([(6, .own 16 0), (7, .own 19 0), (8, .own 24 0), (30, .d true .int (List.length x.1 : Int)), (31, .d true .int t31_1)], [(16, .sl true .int (whereL (fun t' => ((fun (xx : (Tst × Unit)) => validP x.1 = 0 ∧ isTst xx.1 = true, fun (xx : (Tst × Unit)) => (!(passT x.1 xx.1), ())).2 (t', ())).1) x.2.1)), (19, .sl true (.sl .int) (tableT x.1 x.2.1)), (24, .sl true tRa out_1)]) (Eq.mpr (by kernel_rfl) hb)) (fun out_1 t31_1 bad_2 good_2 t36_2 hb => hC [1, 1, 1, 1, 0, 1, 0, 0, 1, 1, 0, 0, 1, 1, 0, 1, 0] ([(6, .own 16 0), (7, .own 19 0), (8, .own 24 0), (9, .d true .int t31_1), (10, .d true .int bad_2), (11, .d true .int good_2), (30, .d true .int (List.length x.1 : Int)), (31, .d true .int t31_1), (34, .own 19 0), (35, .d true .int (List.length (tableT x.1 x.2.1) : Int)), (36, .d true .int t36_2)], [(16, .sl true .int (whereL (fun t' => ((fun (xx : (Tst × Unit)) => validP x.1 = 0 ∧ isTst xx.1 = true, fun (xx : (Tst × Unit)) => (!(passT x.1 xx.1), ())).2 (t', ())).1) x.2.1)), (19, .sl true (.sl .int) (tableT x.1 x.2.1)), (24, .sl true tRa out_1)]) (Eq.mpr (by kernel_rfl) hb))
  exact Eq.mpr (by kernel_rfl) h0
theorem cScores0_ok : ConOK Go.Proofs.Try.prog 62 cScores0 := by
  refine cScores0_law ?_
  intro p l hw hp Λ1 Λ2 h1 h2
  unfold cScores0_0
  obtain ⟨p1, p2⟩ := hp
  obtain ⟨h8, hall⟩ := validT_ok p2
  have hp8 := (validP_ok p1).1
  refine ⟨⟨by omega, fun t' ht _ => ⟨p1, hall t' ht⟩⟩, ⟨p1, p2⟩, ⟨rfl, by omega, by omega⟩, ?_⟩
  show if ((List.length (failL p l) : Int) == (0 : Int)) = true then _ else _
  by_cases hF : failL p l = []
  · rw [if_pos (by simp [hF])]
    refine ⟨by simp [hF], ?_⟩
    unfold scoresT
    rw [Int.toNat_natCast]
    symm
    rw [List.eq_replicate_iff]
    refine ⟨by simp, fun x hx => ?_⟩
    obtain ⟨k, _, rfl⟩ := List.mem_map.1 hx
    unfold scoreAt
    rw [if_pos hF]; rfl
  · have hFl : 0 < (failL p l).length := List.length_pos_iff.2 hF
    have hFle : (failL p l).length ≤ l.length := whereL_len _ _
    rw [if_neg (by simp [hF])]
    have key : ∀ i, i ≤ p.length → ∀ out : List Rtl, out.length = p.length → out.take i = (scoresT p l).take i → Λ1 (i : Int) out := by
      refine upto ?_ ?_
      · intro out hl ht
        apply h1; unfold cScores0_1; rw [if_neg (by simp)]
        refine ⟨by simp [hF], ?_⟩
        rw [List.take_of_length_le (by omega), List.take_of_length_le (by unfold scoresT; simp)] at ht
        exact ht
      · intro i hi ih out hl ht
        apply h1; unfold cScores0_1; rw [if_pos (by simpa using hi)]
        refine upto (n := l.length) (Q := fun j => Λ2 out (i : Int) (badTo (tableT p l) (failL p l) i j) (goodTo (tableT p l) (failL p l) i j) (j : Int)) ?_ ?_ 0 (Nat.zero_le _)
        · apply h2; unfold cScores0_2
          rw [if_neg (by unfold tableT; simp)]
          have bd := bad_good_bd p l (failL p l) i l.length
          show inI ((List.length (failL p l) : Int) + goodTo (tableT p l) (failL p l) i l.length) ∧ _
          refine ⟨by unfold inI; omega, ⟨bd.1, by show (0 : Int) < (List.length (failL p l) : Int) + _; omega, by omega, by show (List.length (failL p l) : Int) + _ ≤ _; omega⟩, idx_nat (by omega), inI_succ hi (by omega), ?_⟩
          rw [Int.toNat_natCast]
          refine ih _ (by simp [hl]) ?_
          have e : (scoresT p l).take (i + 1) = (scoresT p l).take i ++ [scoreAt p l i] := by
            unfold scoresT
            rw [map_take_next (scoreAt p l) (List.range p.length) 0 (by simpa using hi)]
            simp [List.getD_eq_getElem?_getD, hi]
          rw [e, ← ht, take_snoc tRa.dflt (by rw [List.length_set]; omega), List.take_set_of_le (Nat.le_refl _)]
          congr 2
          rw [List.getD_eq_getElem?_getD, List.getElem?_set_self (by omega)]
          unfold scoreAt
          rw [if_neg hF]; rfl
        · intro j hj ihj
          have hr : (List.getD (tableT p l) j []).length = p.length := table_row (mem_getD (by unfold tableT; simpa using hj))
          have bd := bad_good_bd p l (failL p l) i j
          have bd2 := bad_good_bd p l (failL p l) i (j + 1)
          unfold badTo goodTo at bd2 ihj
          apply h2; unfold cScores0_2
          rw [if_pos (by unfold tableT; simpa using hj), Int.toNat_natCast, Int.toNat_natCast]
          refine ⟨idx_nat (by unfold tableT; simpa using hj), trivial, ?_⟩
          show if (decide ((j : Int) ∈ failL p l)) = true then _ else _
          by_cases hm : (j : Int) ∈ failL p l
          · rw [if_pos (decide_eq_true hm)]
            rw [if_pos hm, if_pos hm] at bd2 ihj
            rw [Int.add_zero] at ihj
            exact ⟨idx_nat (by omega), by unfold inI; omega, inI_succ hj (by omega), ihj⟩
          · rw [if_neg (by simpa using hm)]
            rw [if_neg hm, if_neg hm] at bd2 ihj
            rw [Int.add_zero] at ihj
            exact ⟨idx_nat (by omega), by unfold inI; omega, inI_succ hj (by omega), ihj⟩
    exact key 0 (Nat.zero_le _) _ (by simp) rfl
abbrev cScores : Con := { A := (.cons (.sl tL) (.cons (.sl tTs) .nil)), R := (.cons (.sl tRa) (.cons .int .nil)), pre := fun x => True, F := fun x => ((if errT [x.1] x.2.1 = 0 then scoresT x.1 x.2.1 else []), errT [x.1] x.2.1, ()) }
def cScores_0  (p : (List Lin)) (l : (List Tst)) (y0 : (List Rtl)) (y1 : Int) : Prop :=
  True ∧ (if ((errT [p] l) != (0 : Int)) = true then (([] : List Rtl) = y0 ∧ (errT [p] l) = y1 ∧ True) else ((validP p = 0 ∧ validT l = 0) ∧ ((scoresT p l) = y0 ∧ (0 : Int) = y1 ∧ True)))
theorem cScores_law (h : ∀ (p : (List Lin)) (l : (List Tst)), cScores.A.wf (p, l, ()) → cScores_0  p l (if errT [p] l = 0 then scoresT p l else []) (errT [p] l)) : ConOK Go.Proofs.Try.prog 19 cScores := by
  refine lawL (Γ := [(62, cScores0), (61, cTested)]) (Θ := Th) (n := 23) [] ⟨cScores0_ok, cTested_ok, trivial⟩ (by kernel_rfl) th_ok mix_ok Go.Proofs.Try.func19 (by kernel_rfl) ?_
  intro x hw hp Λ hC
  have h0 := h x.1 x.2.1 hw  
  exact Eq.mpr (by kernel_rfl) h0
theorem cScores_ok : ConOK Go.Proofs.Try.prog 19 cScores := by
  refine cScores_law ?_
  intro p l hw
  unfold cScores_0
  refine ⟨trivial, ?_⟩
  by_cases h : errT [p] l = 0
  · rw [if_neg (by simp [h]), if_pos h]
    obtain ⟨h1, h2⟩ := errT_ok h
    exact ⟨⟨h1, h2⟩, rfl, h.symm, trivial⟩
  · rw [if_pos (by simpa using h), if_neg h]
    exact ⟨rfl, rfl, trivial⟩
abbrev cScoresR : Con := { A := (.cons (.sl tL) (.cons (.sl tTs) .nil)), R := (.cons (.sl tRa) (.cons .int .nil)), pre := fun x => True, F := fun x => ((if errT [x.1] x.2.1 = 0 then scoresT x.1 x.2.1 else []), errT [x.1] x.2.1, ()) }
def cScoresR_0 (Λ1 : Int → (List Rtl) → Prop) (Λ2 : Int → (List Rtl) → Int → Int → Int → Prop) (p : (List Lin)) (l : (List Tst)) (y0 : (List Rtl)) (y1 : Int) : Prop :=
  True ∧ (if ((errT [p] l) != (0 : Int)) = true then (([] : List Rtl) = y0 ∧ (errT [p] l) = y1 ∧ True) else (True ∧ Λ1 (0 : Int) ([] : List Rtl)))
def cScoresR_1 (Λ1 : Int → (List Rtl) → Prop) (Λ2 : Int → (List Rtl) → Int → Int → Int → Prop) (p : (List Lin)) (l : (List Tst)) (y0 : (List Rtl)) (y1 : Int)  (line_1 : Int) (out_1 : (List Rtl)) : Prop :=
  if (decide (line_1 < (List.length p : Int))) = true then Λ2 line_1 out_1 (0 : Int) (List.length ((if errT [p] l = 0 then failL p l else [])) : Int) (0 : Int) else (out_1 = y0 ∧ (0 : Int) = y1 ∧ True)
def cScoresR_2 (Λ1 : Int → (List Rtl) → Prop) (Λ2 : Int → (List Rtl) → Int → Int → Int → Prop) (p : (List Lin)) (l : (List Tst)) (y0 : (List Rtl)) (y1 : Int) (line_1 : Int) (out_1 : (List Rtl)) (n_2 : Int) (d_2 : Int) (i_2 : Int) : Prop :=
  if (decide (i_2 < (List.length ((if errT [p] l = 0 then tableT p l else [])) : Int))) = true then (idx i_2 (List.length ((if errT [p] l = 0 then tableT p l else [])) : Int) ∧ (idx line_1 (List.length (List.getD ((if errT [p] l = 0 then tableT p l else [])) (Int.toNat i_2) ([] : List Int)) : Int) ∧ (if ((List.getD (List.getD ((if errT [p] l = 0 then tableT p l else [])) (Int.toNat i_2) ([] : List Int)) (Int.toNat line_1) 0) == (0 : Int)) = true then (inI (i_2 + (1 : Int)) ∧ Λ2 line_1 out_1 n_2 d_2 (i_2 + (1 : Int))) else (((if errT [p] l = 0 then failL p l else [])).length ≤ 1000000 ∧ (if (decide (i_2 ∈ ((if errT [p] l = 0 then failL p l else [])))) = true then (inI (n_2 + (1 : Int)) ∧ (inI (i_2 + (1 : Int)) ∧ Λ2 line_1 out_1 (n_2 + (1 : Int)) d_2 (i_2 + (1 : Int)))) else (inI (d_2 + (1 : Int)) ∧ (inI (i_2 + (1 : Int)) ∧ Λ2 line_1 out_1 n_2 (d_2 + (1 : Int)) (i_2 + (1 : Int))))))))) else (if ((List.length ((if errT [p] l = 0 then failL p l else [])) : Int) == (0 : Int)) = true then ((0 ≤ (0 : Int) ∧ 0 < (1 : Int) ∧ (0 : Int) ≤ 1000000 ∧ (1 : Int) ≤ 1000000) ∧ (List.length out_1 + List.length [(ratioQ (0 : Int) (1 : Int))] ≤ 4294967296 ∧ (inI (line_1 + (1 : Int)) ∧ Λ1 (line_1 + (1 : Int)) (out_1 ++ [(ratioQ (0 : Int) (1 : Int))])))) else ((0 ≤ n_2 ∧ 0 < d_2 ∧ n_2 ≤ 1000000 ∧ d_2 ≤ 1000000) ∧ (List.length out_1 + List.length [(ratioQ n_2 d_2)] ≤ 4294967296 ∧ (inI (line_1 + (1 : Int)) ∧ Λ1 (line_1 + (1 : Int)) (out_1 ++ [(ratioQ n_2 d_2)])))))
theorem cScoresR_law (h : ∀ (p : (List Lin)) (l : (List Tst)), cScoresR.A.wf (p, l, ()) → ∀ (Λ1 : Int → (List Rtl) → Prop) (Λ2 : Int → (List Rtl) → Int → Int → Int → Prop), (∀ (line_1 : Int) (out_1 : (List Rtl)), cScoresR_1 Λ1 Λ2 p l (if errT [p] l = 0 then scoresT p l else []) (errT [p] l) line_1 out_1 → Λ1 line_1 out_1) → (∀ (line_1 : Int) (out_1 : (List Rtl)) (n_2 : Int) (d_2 : Int) (i_2 : Int), cScoresR_2 Λ1 Λ2 p l (if errT [p] l = 0 then scoresT p l else []) (errT [p] l) line_1 out_1 n_2 d_2 i_2 → Λ2 line_1 out_1 n_2 d_2 i_2) → cScoresR_0 Λ1 Λ2 p l (if errT [p] l = 0 then scoresT p l else []) (errT [p] l)) : ConOK Go.Proofs.Try.prog 20 cScoresR := by
  refine lawL (Γ := [(36, cFailingR), (63, cHasN), (64, cRatioR), (40, cTableR)]) (Θ := Th) (n := 69) [([1, 1, 1, 1, 1, 0, 1, 0], ⟨[(0, false), (6, true), (8, true), (10, true), (11, true)], [(10, true)]⟩), ([1, 1, 1, 1, 1, 0, 1, 0, 0, 1, 0, 0, 1, 0, 1, 0], ⟨[(0, false), (6, true), (8, true), (10, true), (11, true), (12, true), (13, true), (14, true)], [(10, true)]⟩)] ⟨cFailingR_ok, cHasN_ok, cRatioR_ok, cTableR_ok, trivial⟩ (by kernel_rfl) th_ok mix_ok Go.Proofs.Try.func20 (by kernel_rfl) ?_
  intro x hw hp Λ hC
  have h0 := h x.1 x.2.1 hw (fun line_1 out_1 => Λ [1, 1, 1, 1, 1, 0, 1, 0] ([(0, .d false (.sl tL) x.1), (6, .d true (.sl (.sl .int)) ((if errT [x.1] x.2.1 = 0 then tableT x.1 x.2.1 else []))), (8, .d true (.sl .int) ((if errT [x.1] x.2.1 = 0 then failL x.1 x.2.1 else []))), (10, .own 10 0), (11, .d true .int line_1)], [(10, .sl true tRa out_1)])) (fun line_1 out_1 n_2 d_2 i_2 => Λ [1, 1, 1, 1, 1, 0, 1, 0, 0, 1, 0, 0, 1, 0, 1, 0] ([(0, .d false (.sl tL) x.1), (6, .d true (.sl (.sl .int)) ((if errT [x.1] x.2.1 = 0 then tableT x.1 x.2.1 else []))), (8, .d true (.sl .int) ((if errT [x.1] x.2.1 = 0 then failL x.1 x.2.1 else []))), (10, .own 10 0), (11, .d true .int line_1), (12, .d true .int n_2), (13, .d true .int d_2), (14, .d true .int i_2)], [(10, .sl true tRa out_1)])) (fun line_1 out_1 hb => hC [1, 1, 1, 1, 1, 0, 1, 0] ([(0, .d false (.sl tL) x.1), (6, .d true (.sl (.sl .int)) ((if errT [x.1] x.2.1 = 0 then tableT x.1 x.2.1 else []))), (8, .d true (.sl .int) ((if errT [x.1] x.2.1 = 0 then failL x.1 x.2.1 else []))), (10, .own 10 0), (11, .d true .int line_1)], [(10, .sl true tRa out_1)]) (Eq.mpr (by kernel_rfl) hb)) (fun line_1 out_1 n_2 d_2 i_2 hb => hC [1, 1, 1, 1, 1, 0, 1, 0, 0, 1, 0, 0, 1, 0, 1, 0] ([(0, .d false (.sl tL) x.1), (6, .d true (.sl (.sl .int)) ((if errT [x.1] x.2.1 = 0 then tableT x.1 x.2.1 else []))), (8, .d true (.sl .int) ((if errT [x.1] x.2.1 = 0 then failL x.1 x.2.1 else []))), (10, .own 10 0), (11, .d true .int line_1), (12, .d true .int n_2), (13, .d true .int d_2), (14, .d true .int i_2)], [(10, .sl true tRa out_1)]) (Eq.mpr (by kernel_rfl) hb))
  exact Eq.mpr (by kernel_rfl) h0
theorem cScoresR_ok : ConOK Go.Proofs.Try.prog 20 cScoresR := by
  refine cScoresR_law ?_
  intro p l hw Λ1 Λ2 h1 h2
  unfold cScoresR_0
  refine ⟨trivial, ?_⟩
  by_cases h : errT [p] l = 0
  · rw [if_neg (by simp [h])]
    refine ⟨trivial, ?_⟩
    obtain ⟨p1, p2⟩ := errT_ok h
    obtain ⟨h8, hall⟩ := validT_ok p2
    have hp8 := (validP_ok p1).1
    have hFle : (failL p l).length ≤ l.length := whereL_len _ _
    have hsl : (scoresT p l).length = p.length := by unfold scoresT; simp
    refine upto (n := p.length) (Q := fun i => Λ1 (i : Int) ((scoresT p l).take i)) ?_ ?_ 0 (Nat.zero_le _)
    · apply h1; unfold cScoresR_1; rw [if_neg (by simp), List.take_of_length_le (by omega), if_pos h]
      exact ⟨rfl, h.symm, trivial⟩
    · intro i hi ih
      have e : (scoresT p l).take (i + 1) = (scoresT p l).take i ++ [scoreAt p l i] := by
        unfold scoresT
        rw [map_take_next (scoreAt p l) (List.range p.length) 0 (by simpa using hi)]
        simp [List.getD_eq_getElem?_getD, hi]
      rw [e] at ih
      apply h1; unfold cScoresR_1; rw [if_pos (by simpa using hi), if_pos h]
      have start : Λ2 (i : Int) ((scoresT p l).take i) (badTo (tableT p l) (failL p l) i 0) ((failL p l).length + goodTo (tableT p l) (failL p l) i 0) ((0 : Nat) : Int) := by
        refine upto (n := l.length) (Q := fun j => Λ2 (i : Int) ((scoresT p l).take i) (badTo (tableT p l) (failL p l) i j) ((failL p l).length + goodTo (tableT p l) (failL p l) i j) (j : Int)) ?_ ?_ 0 (Nat.zero_le _)
        · apply h2; unfold cScoresR_2
          rw [if_pos h, if_pos h, if_neg (by unfold tableT; simp)]
          have hlen : ∀ x : Rtl, List.length ((scoresT p l).take i) + List.length [x] ≤ 4294967296 := fun x => by simp only [List.length_take, List.length_cons, List.length_nil]; omega
          unfold scoreAt at ih
          have bd := bad_good_bd p l (failL p l) i l.length
          by_cases hF : failL p l = []
          · rw [if_pos (by simp [hF])]
            rw [if_pos hF] at ih
            exact ⟨⟨by omega, by omega, by omega, by omega⟩, hlen _, inI_succ hi (by omega), ih⟩
          · have hFl : 0 < (failL p l).length := List.length_pos_iff.2 hF
            rw [if_neg (by simp [hF])]
            rw [if_neg hF] at ih
            exact ⟨⟨bd.1, by omega, by omega, by omega⟩, hlen _, inI_succ hi (by omega), ih⟩
        · intro j hj ihj
          have hr : (List.getD (tableT p l) j []).length = p.length := table_row (mem_getD (by unfold tableT; simpa using hj))
          have bd := bad_good_bd p l (failL p l) i j
          have bit := table_bit p l j i
          unfold badTo goodTo at ihj
          apply h2; unfold cScoresR_2
          rw [if_pos h, if_pos h, if_pos (by unfold tableT; simpa using hj), Int.toNat_natCast, Int.toNat_natCast]
          refine ⟨idx_nat (by unfold tableT; simpa using hj), idx_nat (by omega), ?_⟩
          by_cases hz : List.getD (List.getD (tableT p l) j []) i 0 = 0
          · rw [if_pos (by simpa using hz)]
            simp only [hz, ite_self, Int.add_zero] at ihj
            exact ⟨inI_succ hj (by omega), ihj⟩
          · have h1' : List.getD (List.getD (tableT p l) j []) i 0 = 1 := by omega
            rw [if_neg (by simpa using hz)]
            refine ⟨by omega, ?_⟩
            by_cases hm : (j : Int) ∈ failL p l
            · rw [if_pos (decide_eq_true hm)]
              rw [if_pos hm, if_pos hm, h1', Int.add_zero] at ihj
              exact ⟨by unfold inI; omega, inI_succ hj (by omega), ihj⟩
            · rw [if_neg (by simpa using hm)]
              rw [if_neg hm, if_neg hm, h1', Int.add_zero, ← Int.add_assoc] at ihj
              exact ⟨by unfold inI; omega, inI_succ hj (by omega), ihj⟩
      simpa [badTo, goodTo] using start
  · rw [if_pos (by simpa using h), if_neg h]
    exact ⟨rfl, rfl, trivial⟩
abbrev cSameRats : Con := { A := (.cons (.sl tRa) (.cons (.sl tRa) .nil)), R := (.cons .bool .nil), pre := fun x => x.1.length ≤ 1000000, F := fun x => (decide (x.1 = x.2.1), ()) }
def cSameRats_0 (Λ1 : Int → Prop) (a : (List Rtl)) (b : (List Rtl)) (y0 : Bool) : Prop :=
  if ((List.length a : Int) != (List.length b : Int)) = true then (false = y0 ∧ True) else Λ1 (0 : Int)
def cSameRats_1 (Λ1 : Int → Prop) (a : (List Rtl)) (b : (List Rtl)) (y0 : Bool)  (i_1 : Int) : Prop :=
  if (decide (i_1 < (List.length a : Int))) = true then (idx i_1 (List.length a : Int) ∧ (idx i_1 (List.length b : Int) ∧ (if (!(T.eqB tRa (List.getD a (Int.toNat i_1) tRa.dflt) (List.getD b (Int.toNat i_1) tRa.dflt))) = true then (false = y0 ∧ True) else (inI (i_1 + (1 : Int)) ∧ Λ1 (i_1 + (1 : Int)))))) else (true = y0 ∧ True)
theorem cSameRats_law (h : ∀ (a : (List Rtl)) (b : (List Rtl)), cSameRats.A.wf (a, b, ()) → (a.length ≤ 1000000) → ∀ (Λ1 : Int → Prop), (∀ (i_1 : Int), cSameRats_1 Λ1 a b (decide (a = b)) i_1 → Λ1 i_1) → cSameRats_0 Λ1 a b (decide (a = b))) : ConOK Go.Proofs.Try.prog 21 cSameRats := by
  refine lawL (Γ := []) (Θ := Th) (n := 26) [([1, 1, 0, 1, 0], ⟨[(0, false), (1, false), (5, true)], []⟩)] trivial (by kernel_rfl) th_ok mix_ok Go.Proofs.Try.func21 (by kernel_rfl) ?_
  intro x hw hp Λ hC
  have h0 := h x.1 x.2.1 hw hp (fun i_1 => Λ [1, 1, 0, 1, 0] ([(0, .d false (.sl tRa) x.1), (1, .d false (.sl tRa) x.2.1), (5, .d true .int i_1)], [])) (fun i_1 hb => hC [1, 1, 0, 1, 0] ([(0, .d false (.sl tRa) x.1), (1, .d false (.sl tRa) x.2.1), (5, .d true .int i_1)], []) (Eq.mpr (by kernel_rfl) hb))
  exact Eq.mpr (by kernel_rfl) h0
theorem cSameRats_ok : ConOK Go.Proofs.Try.prog 21 cSameRats := by
  refine cSameRats_law ?_
  intro a b hw hp Λ1 h1
  unfold cSameRats_0
  by_cases hl : a.length = b.length
  · rw [if_neg (by simp [hl])]
    refine upto (n := a.length) (Q := fun i => a.take i = b.take i → Λ1 i) ?_ ?_ 0 (Nat.zero_le _) rfl
    · intro ha
      rw [List.take_length, List.take_of_length_le (by omega)] at ha
      apply h1; unfold cSameRats_1; rw [if_neg (by simp)]
      exact ⟨by simp [ha], trivial⟩
    · intro i hi ih ha
      apply h1; unfold cSameRats_1; rw [if_pos (by simpa using hi), Int.toNat_natCast]
      refine ⟨idx_nat hi, idx_nat (by omega), ?_⟩
      have heq := eqB_iff (t := tRa) (x := List.getD a i tRa.dflt) (y := List.getD b i tRa.dflt) rfl
      by_cases hv : List.getD a i tRa.dflt = List.getD b i tRa.dflt
      · rw [if_neg (by rw [heq.2 hv]; simp)]
        exact ⟨inI_succ hi (by omega), ih (take_eq_next tRa.dflt hi hl ha hv)⟩
      · rw [if_pos (by
          cases hq : T.eqB tRa (List.getD a i tRa.dflt) (List.getD b i tRa.dflt)
          · rfl
          · exact absurd (heq.1 hq) hv)]
        exact ⟨by simp [ne_at tRa.dflt hv], trivial⟩
  · rw [if_pos (by simp; omega)]
    exact ⟨by simp; exact fun e => hl (by rw [e]), trivial⟩
abbrev cBoxR2e : Con := { A := (.cons tCt .nil), R := (.cons .int (.cons .int .nil)), pre := fun x => True, F := fun x => ((if validC x.1 = 0 then sizeC x.1 else 0), validC x.1, ()) }
def cBoxR2e_0  (c : Ctr) (y0 : Int) (y1 : Int) : Prop :=
  True ∧ (if ((validC c) != (0 : Int)) = true then ((0 : Int) = y0 ∧ (validC c) = y1 ∧ True) else (boxC c ∧ ((min (sizeC c) 401) = y0 ∧ (0 : Int) = y1 ∧ True)))
theorem cBoxR2e_law (h : ∀ (c : Ctr), cBoxR2e.A.wf (c, ()) → cBoxR2e_0  c (if validC c = 0 then sizeC c else 0) (validC c)) : ConOK Go.Proofs.Try.prog 24 cBoxR2e := by
  refine lawL (Γ := [(66, cBoxR2), (26, cValCR)]) (Θ := Th) (n := 12) [] ⟨cBoxR2_ok, cValCR_ok, trivial⟩ (by kernel_rfl) th_ok mix_ok Go.Proofs.Try.func24 (by kernel_rfl) ?_
  intro x hw hp Λ hC
  have h0 := h x.1 hw  
  exact Eq.mpr (by kernel_rfl) h0
theorem cBoxR2e_ok : ConOK Go.Proofs.Try.prog 24 cBoxR2e := by
  refine cBoxR2e_law ?_
  intro c hw
  unfold cBoxR2e_0
  refine ⟨trivial, ?_⟩
  by_cases h : validC c = 0
  · rw [if_neg (by simp [h]), if_pos h, h]
    obtain ⟨i1, i2⟩ := validC_ok h
    exact ⟨(isCtr_box i1).1, by omega, rfl, trivial⟩
  · rw [if_pos (by simpa using h), if_neg h]
    exact ⟨rfl, rfl, trivial⟩
abbrev cKnown2 : Con := { A := .nil, R := (.cons .bool .nil), pre := fun x => True, F := fun x => (true, ()) }
def cKnown2_0   (y0 : Bool) : Prop :=
  True ∧ (True ∧ (if ((errT [[(1, 0, 3, 0, ()), (3, 0, 0, 0, ())]] ([([(0 : Int), (0 : Int), (0 : Int), (0 : Int)], 0, 6, ()), ([(0 : Int), (0 : Int), (0 : Int), (0 : Int)], 0, 7, ())])) == (0 : Int)) = true then (((if errT [[(1, 0, 3, 0, ()), (3, 0, 0, 0, ())]] ([([(0 : Int), (0 : Int), (0 : Int), (0 : Int)], 0, 6, ()), ([(0 : Int), (0 : Int), (0 : Int), (0 : Int)], 0, 7, ())]) = 0 then scoresT [(1, 0, 3, 0, ()), (3, 0, 0, 0, ())] ([([(0 : Int), (0 : Int), (0 : Int), (0 : Int)], 0, 6, ()), ([(0 : Int), (0 : Int), (0 : Int), (0 : Int)], 0, 7, ())]) else [])).length ≤ 1000000 ∧ (True ∧ (if (bif true then (decide (((if errT [[(1, 0, 3, 0, ()), (3, 0, 0, 0, ())]] ([([(0 : Int), (0 : Int), (0 : Int), (0 : Int)], 0, 6, ()), ([(0 : Int), (0 : Int), (0 : Int), (0 : Int)], 0, 7, ())]) = 0 then scoresT [(1, 0, 3, 0, ()), (3, 0, 0, 0, ())] ([([(0 : Int), (0 : Int), (0 : Int), (0 : Int)], 0, 6, ()), ([(0 : Int), (0 : Int), (0 : Int), (0 : Int)], 0, 7, ())]) else [])) = [(1, 2, ()), (1, 2, ())])) else false) = true then (True ∧ (if (bif true then ((validC ([(0 : Int), (0 : Int), (0 : Int), (0 : Int)], [(1 : Int), (0 : Int), (0 : Int), (2 : Int)], 3, 0, 1, ())) == (0 : Int)) else false) = true then (True ∧ ((bif true then (((if validC ([(0 : Int), (0 : Int), (0 : Int), (0 : Int)], [(1 : Int), (0 : Int), (0 : Int), (2 : Int)], 3, 0, 1, ()) = 0 then sizeC ([(0 : Int), (0 : Int), (0 : Int), (0 : Int)], [(1 : Int), (0 : Int), (0 : Int), (2 : Int)], 3, 0, 1, ()) else 0)) == (6 : Int)) else false) = y0 ∧ True)) else (false = false ∧ (false = y0 ∧ True)))) else (false = false ∧ (false = false ∧ (false = y0 ∧ True)))))) else (false = false ∧ (false = false ∧ (false = false ∧ (false = y0 ∧ True))))))
theorem cKnown2_law (h : cKnown2.A.wf (()) → cKnown2_0   true) : ConOK Go.Proofs.Try.prog 18 cKnown2 := by
  refine lawL (Γ := [(23, cBox2), (21, cSameRats), (19, cScores)]) (Θ := Th) (n := 47) [] ⟨cBox2_ok, cSameRats_ok, cScores_ok, trivial⟩ (by kernel_rfl) th_ok mix_ok Go.Proofs.Try.func18 (by kernel_rfl) ?_
  intro x hw hp Λ hC
  have h0 := h  hw  
  exact Eq.mpr (by kernel_rfl) h0
theorem cKnown2_ok : ConOK Go.Proofs.Try.prog 18 cKnown2 := by
  refine cKnown2_law ?_
  intro hw
  unfold cKnown2_0
  decide +kernel
abbrev cMany : Con := { A := (.cons (.sl tTs) .nil), R := (.cons .bool .nil), pre := fun x => True, F := fun x => (decide (x.1.length > 50) || x.1.any (fun t' => decide (100 < t'.1.length)), ()) }
def cMany_0 (Λ1 : Int → Prop) (l : (List Tst)) (y0 : Bool) : Prop :=
  if (decide ((List.length l : Int) > (50 : Int))) = true then (true = y0 ∧ True) else Λ1 (0 : Int)
def cMany_1 (Λ1 : Int → Prop) (l : (List Tst)) (y0 : Bool)  (i_1 : Int) : Prop :=
  if (decide (i_1 < (List.length l : Int))) = true then (idx i_1 (List.length l : Int) ∧ (True ∧ (if (decide (100 < ((List.getD l (Int.toNat i_1) tTs.dflt).1).length)) = true then (true = y0 ∧ True) else (inI (i_1 + (1 : Int)) ∧ Λ1 (i_1 + (1 : Int)))))) else (false = y0 ∧ True)
theorem cMany_law (h : ∀ (l : (List Tst)), cMany.A.wf (l, ()) → ∀ (Λ1 : Int → Prop), (∀ (i_1 : Int), cMany_1 Λ1 l (decide (l.length > 50) || l.any (fun t' => decide (100 < t'.1.length))) i_1 → Λ1 i_1) → cMany_0 Λ1 l (decide (l.length > 50) || l.any (fun t' => decide (100 < t'.1.length)))) : ConOK Go.Proofs.Try.prog 17 cMany := by
  refine lawL (Γ := [(27, cLarge2)]) (Θ := Th) (n := 19) [([1, 1, 0, 1, 0], ⟨[(0, false), (3, true)], []⟩)] ⟨cLarge2_ok, trivial⟩ (by kernel_rfl) th_ok mix_ok Go.Proofs.Try.func17 (by kernel_rfl) ?_
  intro x hw hp Λ hC
  have h0 := h x.1 hw (fun i_1 => Λ [1, 1, 0, 1, 0] ([(0, .d false (.sl tTs) x.1), (3, .d true .int i_1)], [])) (fun i_1 hb => hC [1, 1, 0, 1, 0] ([(0, .d false (.sl tTs) x.1), (3, .d true .int i_1)], []) (Eq.mpr (by kernel_rfl) hb))
  exact Eq.mpr (by kernel_rfl) h0
theorem cMany_ok : ConOK Go.Proofs.Try.prog 17 cMany := by
  refine cMany_law ?_
  intro l hw Λ1 h1
  unfold cMany_0
  by_cases h : l.length > 50
  · rw [if_pos (by simp; omega)]; exact ⟨by simp [h], trivial⟩
  · rw [if_neg (by simp; omega)]
    refine upto (n := l.length) (Q := fun i => (l.take i).any (fun t => decide (100 < t.1.length)) = false → Λ1 i) ?_ ?_ 0 (Nat.zero_le _) rfl
    · intro ha
      rw [List.take_length] at ha
      apply h1; unfold cMany_1; rw [if_neg (by simp), ha]
      exact ⟨by simp; omega, trivial⟩
    · intro i hi ih ha
      apply h1; unfold cMany_1; rw [if_pos (by simpa using hi), Int.toNat_natCast]
      refine ⟨idx_nat hi, trivial, ?_⟩
      cases hv : decide (100 < (List.getD l i tTs.dflt).1.length)
      · rw [if_neg (by simp)]
        exact ⟨inI_succ hi (by omega), ih (any_take_next (p := fun t : Tst => decide (100 < t.1.length)) tTs.dflt hi ha hv)⟩
      · rw [if_pos (by rfl)]
        have : l.any (fun t => decide (100 < t.1.length)) = true := List.any_eq_true.2 ⟨_, mem_getD hi, hv⟩
        rw [this]
        exact ⟨by simp, trivial⟩
end Go.Tk
/- Plain facts: the states of a box, in ascending order (layer 2). No program in sight. -/
set_option linter.unusedSimpArgs false
set_option linter.unusedVariables false
namespace Go.Tk
open Go Go.RowKit

/-- d numbers from l on. -/
def exts (l : Int) : Nat → List Int
  | 0 => []
  | d + 1 => l :: exts (l + 1) d

/-- The states of some ranges, in ascending order. -/
def statesL : List (Int × Int) → List (List Int)
  | [] => [[]]
  | (l, h) :: r => (exts l (h - l + 1).toNat).flatMap fun n => (statesL r).map fun s => n :: s

def lowsL : List (Int × Int) → List Int
  | [] => []
  | (l, h) :: r => l :: lowsL r

/-- The state behind a state. -/
def succL : List (Int × Int) → List Int → Option (List Int)
  | (l, h) :: r, n :: s => match succL r s with
    | some s' => some (n :: s')
    | none => if n < h then some ((n + 1) :: lowsL r) else none
  | _, _ => none

def rngs (c : Ctr) : List (Int × Int) := List.zip c.1 c.2.1
def statesC (c : Ctr) : List (List Int) := statesL (rngs c)
def seqC (c : Ctr) : List (List Int × Unit) := (statesC c).map fun s => (s, ())

def keepS (p : List Lin) (c : Ctr) (s : List Int) : Bool := within (Rg (runS p s) c.2.2.1) c.2.2.2.1 c.2.2.2.2.1
def badL (p : List Lin) (c : Ctr) : List (List Int) := (statesC c).filter fun s => !keepS p c s
def cErr (p : List Lin) (c : Ctr) : Int := if validP p = 0 then validC c else validP p
theorem firstErr_one (p : List Lin) : firstErr [p] = validP p := by
  unfold firstErr
  by_cases h : validP p = 0
  · rw [if_pos h, h]; rfl
  · rw [if_neg h]
def cErr2 (p q : List Lin) (c : Ctr) : Int := if validP p = 0 then cErr q c else validP p
theorem cErr_ok {p : List Lin} {c : Ctr} (h : cErr p c = 0) : validP p = 0 ∧ validC c = 0 := by
  unfold cErr at h
  by_cases g : validP p = 0
  · rw [if_pos g] at h; exact ⟨g, h⟩
  · rw [if_neg g] at h; exact absurd h g

theorem find_head {α : Type} (f : α → Bool) (d : α) (l : List α) : (l.find? f).getD d = (l.filter f).headD d := by
  rw [← List.head?_filter]; cases l.filter f <;> rfl
theorem find_some {α : Type} (f : α → Bool) (l : List α) : (l.find? f).isSome = !(l.filter f).isEmpty := by
  rw [← List.head?_filter]; cases l.filter f <;> rfl
theorem find_at {α : Type} {f : α → Bool} {l : List α} {k : Nat} {s : α} (h : (l.take k).find? f = none) (hs : l[k]? = some s) (hf : f s = true) : l.find? f = some s := by
  rw [← List.take_append_drop k l, List.find?_append, h]
  obtain ⟨hk, e⟩ := List.getElem?_eq_some_iff.1 hs
  rw [List.drop_eq_getElem_cons hk, List.find?_cons_of_pos (by rw [e]; exact hf), e]; rfl
theorem find_next {α : Type} {f : α → Bool} {l : List α} {k : Nat} {s : α} (h : (l.take k).find? f = none) (hs : l[k]? = some s) (hf : f s = false) : (l.take (k + 1)).find? f = none := by
  rw [List.take_add_one, List.find?_append, h, hs]
  simp [hf]
def difL (p q : List Lin) (c : Ctr) : List (List Int) := (statesC c).filter fun s => decide (Rg (runS p s) c.2.2.1 ≠ Rg (runS q s) c.2.2.1)
def minE (p : List Lin) (c : Ctr) : Int := if cErr p c = 0 then (statesC c).foldl (fun a s => min a (Rg (runS p s) c.2.2.1)) 999 else 0
def maxE (p : List Lin) (c : Ctr) : Int := if cErr p c = 0 then (statesC c).foldl (fun a s => max a (Rg (runS p s) c.2.2.1)) (-999) else 0

def Chn (f : List Int → Option (List Int)) : List (List Int) → Option (List Int) → Prop
  | [], _ => True
  | a :: t, z => (f a = (match t with | [] => z | b :: _ => some b)) ∧ Chn f t z

theorem chn_app {f : List Int → Option (List Int)} : ∀ (a b : List (List Int)) (z : Option (List Int)),
    Chn f a (match b with | [] => z | x :: _ => some x) → Chn f b z → Chn f (a ++ b) z
  | [], b, z, _, h => h
  | x :: [], b, z, h, g => by
    cases b with
    | nil => exact h
    | cons y t => exact ⟨h.1, g⟩
  | x :: y :: a, b, z, h, g => ⟨h.1, chn_app (y :: a) b z h.2 g⟩

theorem chn_map {f g : List Int → Option (List Int)} {n : Int} {w : Option (List Int)} (hf : ∀ a, f (n :: a) = (match g a with | some s' => some (n :: s') | none => w)) :
    ∀ (t : List (List Int)), Chn g t none → Chn f (t.map fun s => n :: s) w
  | [], _ => trivial
  | a :: [], h => ⟨by show f (n :: a) = w; rw [hf, h.1], trivial⟩
  | a :: b :: t, h => ⟨by show f (n :: a) = some (n :: b); rw [hf, h.1], chn_map hf (b :: t) h.2⟩

theorem chn_get {f : List Int → Option (List Int)} : ∀ (l : List (List Int)), Chn f l none → ∀ k s, l[k]? = some s → l[k + 1]? = f s
  | [], _, k, s, h => by simp at h
  | a :: [], g, 0, s, h => by
    simp only [List.getElem?_cons_zero, Option.some.injEq] at h
    subst h; rw [g.1]; rfl
  | a :: b :: t, g, 0, s, h => by
    simp only [List.getElem?_cons_zero, Option.some.injEq] at h
    subst h; rw [g.1]; rfl
  | a :: t, g, k + 1, s, h => by
    rw [List.getElem?_cons_succ] at h ⊢
    exact chn_get t g.2 k s h

def okR (R : List (Int × Int)) : Prop := ∀ q ∈ R, q.1 ≤ q.2

theorem exts_pos {l h : Int} (g : l ≤ h) : ∃ d, (h - l + 1).toNat = d + 1 := ⟨(h - l).toNat, by omega⟩

theorem states_head : ∀ (R : List (Int × Int)), okR R → ∃ t, statesL R = lowsL R :: t
  | [], _ => ⟨[], rfl⟩
  | (l, h) :: r, g => by
    obtain ⟨t, e⟩ := states_head r fun q hq => g q (List.mem_cons_of_mem _ hq)
    obtain ⟨d, ed⟩ := exts_pos (g (l, h) (List.mem_cons_self ..))
    unfold statesL
    rw [ed, e]
    exact ⟨_, rfl⟩

theorem states_chn : ∀ (R : List (Int × Int)), okR R → Chn (succL R) (statesL R) none
  | [], _ => ⟨rfl, trivial⟩
  | (l, h) :: r, g => by
    have gr : okR r := fun q hq => g q (List.mem_cons_of_mem _ hq)
    have hr := states_chn r gr
    obtain ⟨t, et⟩ := states_head r gr
    have lh := g (l, h) (List.mem_cons_self ..)
    have key : ∀ (d : Nat) (n : Int), n + d = h + 1 → Chn (succL ((l, h) :: r)) ((exts n d).flatMap fun n => (statesL r).map fun s => n :: s) none := by
      intro d
      induction d with
      | zero => intro n _; exact trivial
      | succ d ih =>
        intro n hn
        unfold exts
        rw [List.flatMap_cons]
        refine chn_app _ _ _ ?_ (ih (n + 1) (by omega))
        refine chn_map (g := succL r) ?_ _ hr
        intro a
        show (match succL r a with | some s' => some (n :: s') | none => if n < h then some ((n + 1) :: lowsL r) else none) = _
        cases hd : d with
        | zero =>
          rw [if_neg (by omega)]; rfl
        | succ e =>
          rw [if_pos (by omega), et]
          rfl
    exact key _ l (by show l + ((h - l + 1).toNat : Int) = h + 1; omega)

theorem states_next {R : List (Int × Int)} (g : okR R) {k : Nat} {s : List Int} (h : (statesL R)[k]? = some s) : (statesL R)[k + 1]? = succL R s := chn_get _ (states_chn R g) k s h

theorem exts_mem : ∀ (d : Nat) (l x : Int), x ∈ exts l d ↔ l ≤ x ∧ x < l + d
  | 0, l, x => by
    simp only [exts, List.not_mem_nil, false_iff]
    omega
  | d + 1, l, x => by
    rw [exts, List.mem_cons, exts_mem d (l + 1) x]
    omega
theorem exts_len : ∀ (d : Nat) (l : Int), (exts l d).length = d
  | 0, l => rfl
  | d + 1, l => by rw [exts, List.length_cons, exts_len d]

def inR : List (Int × Int) → List Int → Prop
  | [], [] => True
  | (l, h) :: r, n :: s => (l ≤ n ∧ n ≤ h) ∧ inR r s
  | _, _ => False

theorem states_mem : ∀ (R : List (Int × Int)) (s : List Int), s ∈ statesL R ↔ inR R s
  | [], s => by cases s <;> simp [statesL, inR]
  | (l, h) :: r, s => by
    unfold statesL
    rw [List.mem_flatMap]
    constructor
    · rintro ⟨n, hn, hs⟩
      obtain ⟨t, ht, rfl⟩ := List.mem_map.1 hs
      have := (exts_mem _ _ _).1 hn
      exact ⟨⟨by omega, by omega⟩, (states_mem r t).1 ht⟩
    · intro hs
      cases s with
      | nil => exact hs.elim
      | cons n t => exact ⟨n, (exts_mem _ _ _).2 ⟨hs.1.1, by have := hs.1; omega⟩, List.mem_map.2 ⟨t, (states_mem r t).2 hs.2, rfl⟩⟩

/-- As the code does it: from the right. -/
def odo (L H : List Int) : Nat → List Int → Option (List Int)
  | 0, _ => none
  | r + 1, s => if s.getD r 0 = H.getD r 0 then odo L H r (s.set r (L.getD r 0)) else some (s.set r (s.getD r 0 + 1))

theorem odo_four {l0 l1 l2 l3 h0 h1 h2 h3 a b c d : Int} (ga : a ≤ h0) (gb : b ≤ h1) (gc : c ≤ h2) (gd : d ≤ h3) :
    odo [l0, l1, l2, l3] [h0, h1, h2, h3] 4 [a, b, c, d] = succL [(l0, h0), (l1, h1), (l2, h2), (l3, h3)] [a, b, c, d] := by
  have e : ∀ {x y : Int}, x ≤ y → x ≠ y → x < y := fun h g => by omega
  by_cases e3 : d = h3
  · subst e3
    by_cases e2 : c = h2
    · subst e2
      by_cases e1 : b = h1
      · subst e1
        by_cases e0 : a = h0
        · subst e0
          simp [odo, succL, lowsL]
        · simp [odo, succL, lowsL, e0, e ga e0]
      · simp [odo, succL, lowsL, e1, e gb e1]
    · simp [odo, succL, lowsL, e2, e gc e2]
  · simp [odo, succL, lowsL, e3, e gd e3]

theorem four_list {l : List Int} (h : l.length = 4) : ∃ a b c d, l = [a, b, c, d] := by
  match l, h with
  | [a, b, c, d], _ => exact ⟨a, b, c, d, rfl⟩

theorem okR_box {c : Ctr} (h : boxC c) : okR (rngs c) := by
  intro q hq
  unfold rngs at hq
  obtain ⟨i, hi, rfl⟩ := List.mem_iff_getElem.1 hq
  have l1 := validS_len h.1
  have l2 := validS_len h.2.1
  rw [List.length_zip] at hi
  have g := (boxC_wid h (i := i) (by omega)).1
  rw [List.getElem_zip]
  rw [List.getD_eq_getElem?_getD, List.getD_eq_getElem?_getD, List.getElem?_eq_getElem (by omega), List.getElem?_eq_getElem (by omega)] at g
  exact g

/-- A state of the box: its length and its bounds. -/
theorem stateC_iff {c : Ctr} (h : boxC c) {s : List Int} : s ∈ statesC c ↔ s.length = 4 ∧ ∀ i, i < 4 → c.1.getD i 0 ≤ s.getD i 0 ∧ s.getD i 0 ≤ c.2.1.getD i 0 := by
  unfold statesC rngs
  rw [states_mem]
  obtain ⟨l0, l1, l2, l3, el⟩ := four_list (validS_len h.1)
  obtain ⟨h0, h1, h2, h3, eh⟩ := four_list (validS_len h.2.1)
  rw [el, eh]
  constructor
  · intro g
    match s, g with
    | [a, b, d, e], g =>
      obtain ⟨g0, g1, g2, g3, _⟩ := g
      refine ⟨rfl, fun i hi => ?_⟩
      have : i = 0 ∨ i = 1 ∨ i = 2 ∨ i = 3 := by omega
      rcases this with rfl | rfl | rfl | rfl
      · exact g0
      · exact g1
      · exact g2
      · exact g3
    | [], g => exact g.elim
    | [a], g => exact g.2.elim
    | [a, b], g => exact g.2.2.elim
    | [a, b, d], g => exact g.2.2.2.elim
    | a :: b :: d :: e :: f :: t, g => exact g.2.2.2.2.elim
  · rintro ⟨g, w⟩
    obtain ⟨a, b, d, e, rfl⟩ := four_list g
    exact ⟨w 0 (by omega), w 1 (by omega), w 2 (by omega), w 3 (by omega), trivial⟩

theorem stateC_valid {c : Ctr} (h : boxC c) {s : List Int} (hs : s ∈ statesC c) : validS s = true := by
  obtain ⟨h1, h2⟩ := (stateC_iff h).1 hs
  refine validS_iff.2 ⟨h1, ?_⟩
  intro x hx
  obtain ⟨i, hi, rfl⟩ := List.mem_iff_getElem.1 hx
  have g := h2 i (by omega)
  have w := boxC_wid h (i := i) (by omega)
  have e : s.getD i 0 = s[i] := by rw [List.getD_eq_getElem?_getD, List.getElem?_eq_getElem hi]; rfl
  rw [e] at g
  omega

theorem flatMap_len {α β : Type} (f : α → List β) (n : Nat) : ∀ (l : List α), (∀ a ∈ l, (f a).length = n) → (l.flatMap f).length = l.length * n
  | [], _ => by simp
  | a :: l, h => by
    rw [List.flatMap_cons, List.length_append, flatMap_len f n l fun b hb => h b (List.mem_cons_of_mem _ hb), h a (List.mem_cons_self ..), List.length_cons, Nat.add_mul]
    omega

theorem statesC_len {c : Ctr} (h : boxC c) : ((statesC c).length : Int) = sizeC c := by
  have w0 := (boxC_wid h (i := 0) (by omega)).1
  have w1 := (boxC_wid h (i := 1) (by omega)).1
  have w2 := (boxC_wid h (i := 2) (by omega)).1
  have w3 := (boxC_wid h (i := 3) (by omega)).1
  unfold statesC rngs sizeC
  obtain ⟨l0, l1, l2, l3, el⟩ := four_list (validS_len h.1)
  obtain ⟨h0, h1, h2, h3, eh⟩ := four_list (validS_len h.2.1)
  rw [el, eh] at w0 w1 w2 w3 ⊢
  replace w0 : l0 ≤ h0 := w0
  replace w1 : l1 ≤ h1 := w1
  replace w2 : l2 ≤ h2 := w2
  replace w3 : l3 ≤ h3 := w3
  have step : ∀ (l h : Int) (r : List (Int × Int)), l ≤ h → ((statesL ((l, h) :: r)).length : Int) = (h - l + 1) * (statesL r).length := by
    intro l h r g
    show (((exts l (h - l + 1).toNat).flatMap fun n => (statesL r).map fun s => n :: s).length : Int) = _
    rw [flatMap_len _ (statesL r).length _ fun a _ => by rw [List.length_map], exts_len, Int.natCast_mul]
    congr 1
    omega
  show ((statesL [(l0, h0), (l1, h1), (l2, h2), (l3, h3)]).length : Int) = 1 * (h0 - l0 + 1) * (h1 - l1 + 1) * (h2 - l2 + 1) * (h3 - l3 + 1)
  rw [step _ _ _ w0, step _ _ _ w1, step _ _ _ w2, step _ _ _ w3]
  show _ * (_ * (_ * (_ * (1 : Int)))) = _
  rw [Int.mul_one, Int.one_mul, Int.mul_assoc, Int.mul_assoc]

theorem seqC_get {c : Ctr} {k : Nat} {s : List Int} : (seqC c)[k]? = some (s, ()) ↔ (statesC c)[k]? = some s := by
  unfold seqC
  rw [List.getElem?_map]
  cases (statesC c)[k]? <;> simp
theorem seqC_len (c : Ctr) : (seqC c).length = (statesC c).length := by unfold seqC; rw [List.length_map]

theorem stateC_next {c : Ctr} (h : boxC c) {k : Nat} {s : List Int} (hs : (statesC c)[k]? = some s) : (statesC c)[k + 1]? = odo c.1 c.2.1 4 s := by
  have hm := (stateC_iff h).1 (List.mem_of_getElem? hs)
  obtain ⟨a, b, d, e, rfl⟩ := four_list hm.1
  have w := hm.2
  rw [show (statesC c)[k + 1]? = succL (rngs c) [a, b, d, e] from states_next (okR_box h) hs]
  unfold rngs
  obtain ⟨l0, l1, l2, l3, el⟩ := four_list (validS_len h.1)
  obtain ⟨h0, h1, h2, h3, eh⟩ := four_list (validS_len h.2.1)
  rw [el, eh] at w ⊢
  exact (odo_four (w 0 (by omega)).2 (w 1 (by omega)).2 (w 2 (by omega)).2 (w 3 (by omega)).2).symm

theorem stateC_head {c : Ctr} (h : boxC c) : (statesC c)[0]? = some c.1 := by
  obtain ⟨t, e⟩ := states_head (rngs c) (okR_box h)
  unfold statesC
  rw [e]
  unfold rngs
  obtain ⟨l0, l1, l2, l3, el⟩ := four_list (validS_len h.1)
  obtain ⟨h0, h1, h2, h3, eh⟩ := four_list (validS_len h.2.1)
  rw [el, eh]
  rfl

theorem statesL_snoc (x : Int × Int) : ∀ (R : List (Int × Int)), statesL (R ++ [x]) = (statesL R).flatMap fun s => (exts x.1 (x.2 - x.1 + 1).toNat).map fun n => s ++ [n]
  | [] => by
    obtain ⟨l, h⟩ := x
    show (exts l (h - l + 1).toNat).flatMap (fun n => [[n]]) = (exts l (h - l + 1).toNat).map (fun n => [n]) ++ []
    rw [List.append_nil]
    induction exts l (h - l + 1).toNat with
    | nil => rfl
    | cons a t ih => rw [List.flatMap_cons, ih]; rfl
  | (l, h) :: r => by
    show (exts l (h - l + 1).toNat).flatMap (fun n => (statesL (r ++ [x])).map fun s => n :: s) = ((exts l (h - l + 1).toNat).flatMap fun n => (statesL r).map fun s => n :: s).flatMap _
    rw [statesL_snoc x r, List.flatMap_assoc]
    congr 1
    funext n
    rw [List.map_flatMap, List.flatMap_map]
    congr 1
    funext s
    rw [List.map_map]
    rfl

theorem rngs_len {c : Ctr} (h : boxC c) : (rngs c).length = 4 := by
  have l1 := validS_len h.1
  have l2 := validS_len h.2.1
  unfold rngs
  rw [List.length_zip]; omega

theorem rngs_next {c : Ctr} (h : boxC c) {r : Nat} (hr : r < 4) : (rngs c).take (r + 1) = (rngs c).take r ++ [(c.1.getD r 0, c.2.1.getD r 0)] := by
  have l1 := validS_len h.1
  have l2 := validS_len h.2.1
  rw [List.take_add_one]
  congr 1
  unfold rngs
  rw [List.getElem?_eq_getElem (by rw [List.length_zip]; omega), List.getElem_zip, List.getD_eq_getElem?_getD, List.getD_eq_getElem?_getD, List.getElem?_eq_getElem (by omega), List.getElem?_eq_getElem (by omega)]
  rfl

theorem takes_len {c : Ctr} (h : boxC c) : ∀ r, r ≤ 4 → ((statesL ((rngs c).take r)).length : Int) = prodTo c.1 c.2.1 r
  | 0, _ => rfl
  | r + 1, hr => by
    have w := (boxC_wid h (i := r) (by omega)).1
    rw [rngs_next h (by omega), statesL_snoc, flatMap_len _ (c.2.1.getD r 0 - c.1.getD r 0 + 1).toNat _ fun a _ => by rw [List.length_map, exts_len], Int.natCast_mul, takes_len h r (by omega), prodTo]
    congr 1
    omega

theorem prodTo_le {c : Ctr} (h : boxC c) (r : Nat) (hr : r ≤ 4) : prodTo c.1 c.2.1 r ≤ prodTo c.1 c.2.1 4 := by
  have st : ∀ i, i < 4 → prodTo c.1 c.2.1 i ≤ prodTo c.1 c.2.1 (i + 1) := by
    intro i hi
    have g := (prodTo_inI h (i := i) (by omega)).1
    have w := (boxC_wid h (i := i) hi).1
    have e : prodTo c.1 c.2.1 i * 1 ≤ prodTo c.1 c.2.1 i * (c.2.1.getD i 0 - c.1.getD i 0 + 1) := Int.mul_le_mul_of_nonneg_left (by omega) (by omega)
    rw [Int.mul_one] at e
    exact e
  have s0 : _ ≤ prodTo c.1 c.2.1 1 := st 0 (by omega)
  have s1 : _ ≤ prodTo c.1 c.2.1 2 := st 1 (by omega)
  have s2 : _ ≤ prodTo c.1 c.2.1 3 := st 2 (by omega)
  have s3 : _ ≤ prodTo c.1 c.2.1 4 := st 3 (by omega)
  have : r = 0 ∨ r = 1 ∨ r = 2 ∨ r = 3 ∨ r = 4 := by omega
  rcases this with rfl | rfl | rfl | rfl | rfl <;> omega

theorem states_size {c : Ctr} (h : validC c = 0) {r : Nat} (hr : r ≤ 4) : (statesL ((rngs c).take r)).length ≤ 400 := by
  obtain ⟨g3, g4⟩ := validC_ok h
  have hb := (isCtr_box g3).1
  have h1 := takes_len hb r hr
  have h2 := prodTo_le hb r hr
  unfold sizeC at g4
  omega

theorem statesL_mem_len : ∀ (R : List (Int × Int)) (s : List Int), s ∈ statesL R → s.length = R.length
  | [], s, h => by cases s with | nil => rfl | cons a t => simp [statesL] at h
  | (l, w) :: r, s, h => by
    have g := (states_mem _ _).1 h
    cases s with
    | nil => exact g.elim
    | cons a t =>
      have := statesL_mem_len r t ((states_mem r t).2 g.2)
      simp [this]

theorem exts_snoc : ∀ (d : Nat) (l : Int), exts l (d + 1) = exts l d ++ [l + d]
  | 0, l => by simp [exts]
  | d + 1, l => by
    show l :: exts (l + 1) (d + 1) = l :: exts (l + 1) d ++ [l + ((d + 1 : Nat) : Int)]
    rw [exts_snoc d (l + 1), List.cons_append]
    congr 3
    omega
end Go.Tk
set_option linter.unusedSimpArgs false
set_option linter.unusedVariables false
namespace Go.Tk
open Go Go.RowKit

abbrev cCloneS : Con := { A := (.cons (.sl .int) .nil), R := (.cons (.osl .int) .nil), pre := fun x => x.1.length ≤ 1000000, F := fun x => (x.1, ()) }
def cCloneS_0  (s : (List Int)) (y0 : (List Int)) : Prop :=
  (s = [] → ([] : List Int) = y0) ∧ (True → (List.length ([] : List Int) + List.length s ≤ 4294967296 ∧ (([] : List Int) ++ s) = y0))
theorem cCloneS_law (h : ∀ (s : (List Int)), cCloneS.A.wf (s, ()) → (s.length ≤ 1000000) → cCloneS_0  s s) : ConOK Go.Proofs.Try.prog 91 cCloneS := by
  refine lawL (Γ := []) (Θ := Th) (n := 8) [] trivial (by kernel_rfl) th_ok mix_ok Go.Proofs.Try.func91 (by kernel_rfl) ?_
  intro x hw hp Λ hC
  have h0 := h x.1 hw hp  
  exact Eq.mpr (by kernel_rfl) h0
theorem cCloneS_ok : ConOK Go.Proofs.Try.prog 91 cCloneS := by
  refine cCloneS_law ?_
  intro s hw hp
  unfold cCloneS_0
  exact ⟨fun h => h.symm, fun _ => ⟨by simp only [List.length_nil]; omega, by simp⟩⟩
abbrev cStates1 : Con := { A := (.cons (.ref tCt) .nil), R := .seq true (.cons (.sl .int) .nil), pre := fun _ => True, F := fun x => ((boxC x.1, seqC x.1) : Prop × List ((List Int) × Unit)) }
def cStates1_0 (Λ1 : (List Int) → Nat → Prop) (Λ2 : Nat → Int → (List Int) → Prop) (c0 : Ctr) (y0 : List ((List Int) × Unit)) : Prop :=
  c0.1.length ≤ 1000000 ∧ Λ1 c0.1 0
def cStates1_1 (Λ1 : (List Int) → Nat → Prop) (Λ2 : Nat → Int → (List Int) → Prop) (c0 : Ctr) (y0 : List ((List Int) × Unit))  (in_1 : (List Int)) (k_1 : Nat) : Prop :=
  in_1.length ≤ 1000000 ∧ (y0[k_1]? = some (in_1, ()) ∧ (inI ((List.length in_1 : Int) - (1 : Int)) ∧ Λ2 k_1 ((List.length in_1 : Int) - (1 : Int)) in_1) ∧ True)
def cStates1_2 (Λ1 : (List Int) → Nat → Prop) (Λ2 : Nat → Int → (List Int) → Prop) (c0 : Ctr) (y0 : List ((List Int) × Unit)) (k_1 : Nat) (r_2 : Int) (in_2 : (List Int)) : Prop :=
  if (decide (r_2 ≥ (0 : Int))) = true then (idx r_2 (List.length in_2 : Int) ∧ (idx r_2 (List.length c0.2.1 : Int) ∧ (True ∧ (if (bif true then ((List.getD in_2 (Int.toNat r_2) 0) == (List.getD c0.2.1 (Int.toNat r_2) 0)) else false) = true then (idx r_2 (List.length c0.1 : Int) ∧ (idx r_2 (List.length in_2 : Int) ∧ (inI (r_2 - (1 : Int)) ∧ Λ2 k_1 (r_2 - (1 : Int)) (List.set in_2 (Int.toNat r_2) (List.getD c0.1 (Int.toNat r_2) 0))))) else (if (decide (r_2 < (0 : Int))) = true then (k_1 + 1) = List.length y0 else (idx r_2 (List.length in_2 : Int) ∧ (inI ((List.getD in_2 (Int.toNat r_2) 0) + (1 : Int)) ∧ (idx r_2 (List.length in_2 : Int) ∧ Λ1 (List.set in_2 (Int.toNat r_2) ((List.getD in_2 (Int.toNat r_2) 0) + (1 : Int))) (k_1 + 1))))))))) else (false = false ∧ (if (decide (r_2 < (0 : Int))) = true then (k_1 + 1) = List.length y0 else (idx r_2 (List.length in_2 : Int) ∧ (inI ((List.getD in_2 (Int.toNat r_2) 0) + (1 : Int)) ∧ (idx r_2 (List.length in_2 : Int) ∧ Λ1 (List.set in_2 (Int.toNat r_2) ((List.getD in_2 (Int.toNat r_2) 0) + (1 : Int))) (k_1 + 1))))))
theorem cStates1_law (h : ∀ (c0 : Ctr), cStates1.A.wf (c0, ()) → ((boxC c0, seqC c0)).1 → ∀ (Λ1 : (List Int) → Nat → Prop) (Λ2 : Nat → Int → (List Int) → Prop), (∀ (in_1 : (List Int)) (k_1 : Nat), cStates1_1 Λ1 Λ2 c0 ((boxC c0, seqC c0)).2 in_1 k_1 → Λ1 in_1 k_1) → (∀ (k_1 : Nat) (r_2 : Int) (in_2 : (List Int)), cStates1_2 Λ1 Λ2 c0 ((boxC c0, seqC c0)).2 k_1 r_2 in_2 → Λ2 k_1 r_2 in_2) → cStates1_0 Λ1 Λ2 c0 ((boxC c0, seqC c0)).2) : ConOK Go.Proofs.Try.prog 123 cStates1 := by
  refine lawIt (X := { subs := [], frz := [], U := [], mul := [], nst := [], nls := [], itf := some true, inp := [], arrs := [] }) (hX := xok0 _ trivial) (Γ := [(91, cCloneS)]) (Θ := Th) (n := 48) [([1, 0], ⟨[(0, true), (1, false), (3, true)], [(7, true), (5000000, true)]⟩), ([1, 0, 0, 0, 1, 1, 0, 0], ⟨[(0, true), (1, false), (3, true), (4, true)], [(7, true), (5000000, true)]⟩)] ⟨cCloneS_ok, trivial⟩ (by kernel_rfl) th_ok mix_ok Go.Proofs.Try.func123 (by kernel_rfl) ?_
  intro x hw hp Λ hC
  have h0 := h x.1 hw hp (fun in_1 k_1 => Λ [1, 0] ([(0, .yld), (1, .d false (.ref tCt) x.1), (3, .own 7 0)], [(7, .sl true .int in_1), (5000000, .it (.cons (.sl .int) .nil) (cStates1.F x).2 k_1)])) (fun k_1 r_2 in_2 => Λ [1, 0, 0, 0, 1, 1, 0, 0] ([(0, .yld), (1, .d false (.ref tCt) x.1), (3, .own 7 0), (4, .d true .int r_2)], [(7, .sl true .int in_2), (5000000, .it (.cons (.sl .int) .nil) (cStates1.F x).2 (k_1 + 1))])) (fun in_1 k_1 hb => hC [1, 0] ([(0, .yld), (1, .d false (.ref tCt) x.1), (3, .own 7 0)], [(7, .sl true .int in_1), (5000000, .it (.cons (.sl .int) .nil) (cStates1.F x).2 k_1)]) (Eq.mpr (by kernel_rfl) hb)) (fun k_1 r_2 in_2 hb => hC [1, 0, 0, 0, 1, 1, 0, 0] ([(0, .yld), (1, .d false (.ref tCt) x.1), (3, .own 7 0), (4, .d true .int r_2)], [(7, .sl true .int in_2), (5000000, .it (.cons (.sl .int) .nil) (cStates1.F x).2 (k_1 + 1))]) (Eq.mpr (by kernel_rfl) hb))
  exact Eq.mpr (by kernel_rfl) h0
theorem cStates1_ok : ConOK Go.Proofs.Try.prog 123 cStates1 := by
  refine cStates1_law ?_
  intro c0 hw hp Λ1 Λ2 h1 h2
  unfold cStates1_0
  have l1 := validS_len hp.1
  have l2 := validS_len hp.2.1
  have inner : ∀ (k : Nat) (r : Nat), r ≤ 4 → ∀ s : List Int, s.length = 4 → (∀ i, i < 4 → -999 ≤ s.getD i 0 ∧ s.getD i 0 ≤ 999) → (∀ s', odo c0.1 c0.2.1 r s = some s' → Λ1 s' (k + 1)) → (odo c0.1 c0.2.1 r s = none → k + 1 = (seqC c0).length) → Λ2 k ((r : Int) - 1) s := by
    intro k r
    induction r with
    | zero =>
      intro _ s hs _ _ g
      apply h2; unfold cStates1_2
      rw [if_neg (by simp), if_pos (by simp)]
      exact ⟨rfl, g rfl⟩
    | succ r ih =>
      intro hr s hs hb g1 g2
      rw [show ((r + 1 : Nat) : Int) - 1 = (r : Int) by omega]
      have w := boxC_wid hp (i := r) (by omega)
      have b := hb r (by omega)
      unfold odo at g1 g2
      apply h2; unfold cStates1_2
      rw [if_pos (by simp), Int.toNat_natCast]
      refine ⟨idx_nat (by omega), idx_nat (by omega), trivial, ?_⟩
      by_cases e : s.getD r 0 = c0.2.1.getD r 0
      · rw [if_pos e] at g1 g2
        rw [if_pos (by simpa using e)]
        refine ⟨idx_nat (by omega), idx_nat (by omega), by unfold inI; omega, ih (by omega) _ (by simpa using hs) ?_ g1 g2⟩
        intro i hi
        rw [List.getD_eq_getElem?_getD, List.getElem?_set]
        by_cases e2 : r = i
        · subst e2
          rw [if_pos rfl, if_pos (by omega)]
          exact ⟨w.2.1, w.2.2.1⟩
        · rw [if_neg e2, ← List.getD_eq_getElem?_getD]
          exact hb i hi
      · rw [if_neg e] at g1 g2
        rw [if_neg (by simpa using e), if_neg (by simp)]
        exact ⟨idx_nat (by omega), by unfold inI; omega, idx_nat (by omega), g1 _ rfl⟩
  have outer : ∀ (n k : Nat), n + k = (statesC c0).length → ∀ s, (statesC c0)[k]? = some s → Λ1 s k := by
    intro n
    induction n with
    | zero =>
      intro k hk s hs
      rw [List.getElem?_eq_none (by omega)] at hs
      cases hs
    | succ n ih =>
      intro k hk s hs
      have hm := (stateC_iff hp).1 (List.mem_of_getElem? hs)
      have hn := stateC_next hp hs
      apply h1; unfold cStates1_1
      refine ⟨by omega, seqC_get.2 hs, ⟨by unfold inI; omega, ?_⟩, trivial⟩
      rw [show ((List.length s : Nat) : Int) - 1 = ((4 : Nat) : Int) - 1 by omega]
      refine inner k 4 (Nat.le_refl _) s hm.1 ?_ ?_ ?_
      · intro i hi
        have w := boxC_wid hp (i := i) hi
        have := hm.2 i hi
        omega
      · intro s' e
        exact ih (k + 1) (by omega) s' (by rw [hn, e])
      · intro e
        rw [e] at hn
        have h3 := List.getElem?_eq_none_iff.1 hn
        have h4 : k < (statesC c0).length := by
          by_cases g : k < (statesC c0).length
          · exact g
          · rw [List.getElem?_eq_none (by omega)] at hs; cases hs
        rw [seqC_len]; omega
  exact ⟨by omega, outer _ 0 (Nat.add_zero _) _ (stateC_head hp)⟩
abbrev cStates : Con := { A := (.cons tCt .nil), R := (.cons (.seq true (.cons (.sl .int) .nil)) .nil), pre := fun x => True, F := fun x => ((boxC x.1, seqC x.1), ()), al := true }
def cStates_0  (c : Ctr) (y0 : (Prop × List ((List Int) × Unit))) : Prop :=
  ((boxC c, seqC c)) = y0 ∧ True
theorem cStates_law (h : ∀ (c : Ctr), cStates.A.wf (c, ()) → cStates_0  c (boxC c, seqC c)) : ConOK Go.Proofs.Try.prog 100 cStates := by
  refine lawX (X := { subs := [], frz := [1], U := [], mul := [], nst := [], nls := [], itf := none, inp := [], arrs := [] }) (hX := xok0 _ trivial) (Γ := [(123, cStates1)]) (Θ := Th) (n := 4) [] ⟨cStates1_ok, trivial⟩ (by kernel_rfl) th_ok mix_ok Go.Proofs.Try.func100 (by kernel_rfl) ?_
  intro x hw hp Λ hC
  have h0 := h x.1 hw  
  exact Eq.mpr (by kernel_rfl) h0
theorem cStates_ok : ConOK Go.Proofs.Try.prog 100 cStates := by
  refine cStates_law ?_
  intro c hw
  unfold cStates_0
  exact ⟨rfl, trivial⟩
abbrev cIsBad : Con := { A := (.cons (.sl tL) (.cons tCt (.cons (.sl .int) .nil))), R := (.cons .bool .nil), pre := fun x => validP x.1 = 0 ∧ validS x.2.2.1 = true ∧ 0 ≤ x.2.1.2.2.1 ∧ x.2.1.2.2.1 ≤ 3, F := fun x => (!(within (Rg (runS x.1 x.2.2.1) x.2.1.2.2.1) x.2.1.2.2.2.1 x.2.1.2.2.2.2.1), ()) }
def cIsBad_0  (p : (List Lin)) (c : Ctr) (in_ : (List Int)) (y0 : Bool) : Prop :=
  (validP p = 0 ∧ validS in_ = true ∧ 0 ≤ c.2.2.1 ∧ c.2.2.1 ≤ 3) ∧ (True ∧ ((!(within (Rg (runS p in_) c.2.2.1) c.2.2.2.1 c.2.2.2.2.1)) = y0 ∧ True))
theorem cIsBad_law (h : ∀ (p : (List Lin)) (c : Ctr) (in_ : (List Int)), cIsBad.A.wf (p, c, in_, ()) → (validP p = 0 ∧ validS in_ = true ∧ 0 ≤ c.2.2.1 ∧ c.2.2.1 ≤ 3) → cIsBad_0  p c in_ (!(within (Rg (runS p in_) c.2.2.1) c.2.2.2.1 c.2.2.2.2.1))) : ConOK Go.Proofs.Try.prog 98 cIsBad := by
  refine lawL (Γ := [(75, cEnd), (122, cWithin2)]) (Θ := Th) (n := 18) [] ⟨cEnd_ok, cWithin2_ok, trivial⟩ (by kernel_rfl) th_ok mix_ok Go.Proofs.Try.func98 (by kernel_rfl) ?_
  intro x hw hp Λ hC
  have h0 := h x.1 x.2.1 x.2.2.1 hw hp  
  exact Eq.mpr (by kernel_rfl) h0
theorem cIsBad_ok : ConOK Go.Proofs.Try.prog 98 cIsBad := by
  refine cIsBad_law ?_
  intro p c in_ hw hp
  unfold cIsBad_0
  exact ⟨hp, trivial, rfl, trivial⟩
abbrev cContracted : Con := { A := (.cons tCt (.cons (.sl (.sl tL)) .nil)), R := (.cons .int .nil), pre := fun x => True, F := fun x => ((if firstErr x.2.1 = 0 then validC x.1 else firstErr x.2.1), ()) }
def cContracted_0 (Λ1 : Int → Prop) (c : Ctr) (programs : (List (List Lin))) (y0 : Int) : Prop :=
  Λ1 (0 : Int)
def cContracted_1 (Λ1 : Int → Prop) (c : Ctr) (programs : (List (List Lin))) (y0 : Int)  (t10_1 : Int) : Prop :=
  if (decide (t10_1 < (List.length programs : Int))) = true then (idx t10_1 (List.length programs : Int) ∧ (True ∧ (if ((validP (List.getD programs (Int.toNat t10_1) ([] : List Lin))) != (0 : Int)) = true then ((validP (List.getD programs (Int.toNat t10_1) ([] : List Lin))) = y0 ∧ True) else (inI (t10_1 + (1 : Int)) ∧ Λ1 (t10_1 + (1 : Int)))))) else (True ∧ ((validC c) = y0 ∧ True))
theorem cContracted_law (h : ∀ (c : Ctr) (programs : (List (List Lin))), cContracted.A.wf (c, programs, ()) → ∀ (Λ1 : Int → Prop), (∀ (t10_1 : Int), cContracted_1 Λ1 c programs (if firstErr programs = 0 then validC c else firstErr programs) t10_1 → Λ1 t10_1) → cContracted_0 Λ1 c programs (if firstErr programs = 0 then validC c else firstErr programs)) : ConOK Go.Proofs.Try.prog 92 cContracted := by
  refine lawL (Γ := [(25, cValC), (88, cValP)]) (Θ := Th) (n := 22) [([1, 0, 1, 0], ⟨[(2, true), (8, false), (9, true), (10, true)], [(2, false)]⟩)] ⟨cValC_ok, cValP_ok, trivial⟩ (by kernel_rfl) th_ok mix_ok Go.Proofs.Try.func92 (by kernel_rfl) ?_
  intro x hw hp Λ hC
  have h0 := h x.1 x.2.1 hw (fun t10_1 => Λ [1, 0, 1, 0] ([(2, .ptr 2 0 []), (8, .d false (.sl (.sl tL)) x.2.1), (9, .d true .int (List.length x.2.1 : Int)), (10, .d true .int t10_1)], [(2, .box false tCt x.1)])) (fun t10_1 hb => hC [1, 0, 1, 0] ([(2, .ptr 2 0 []), (8, .d false (.sl (.sl tL)) x.2.1), (9, .d true .int (List.length x.2.1 : Int)), (10, .d true .int t10_1)], [(2, .box false tCt x.1)]) (Eq.mpr (by kernel_rfl) hb))
  exact Eq.mpr (by kernel_rfl) h0
theorem cContracted_ok : ConOK Go.Proofs.Try.prog 92 cContracted := by
  refine cContracted_law ?_
  intro c programs hw Λ1 h1
  unfold cContracted_0
  have key : ∀ n i, i + n = programs.length → firstErr programs = firstErr (programs.drop i) → Λ1 i := by
    intro n
    induction n with
    | zero =>
      intro i hi e
      apply h1; unfold cContracted_1
      rw [if_neg (by simp; omega)]
      rw [List.drop_eq_nil_of_le (by omega)] at e
      refine ⟨trivial, ?_, trivial⟩
      rw [if_pos (by rw [e]; rfl)]
    | succ n ih =>
      intro i hi e
      have hl : i < programs.length := by omega
      apply h1; unfold cContracted_1
      rw [if_pos (by simpa using hl), Int.toNat_natCast]
      have hd : programs.drop i = programs.getD i [] :: programs.drop (i + 1) := by
        rw [List.drop_eq_getElem_cons hl]; simp [List.getD_eq_getElem?_getD, hl]
      rw [hd, firstErr] at e
      refine ⟨idx_nat hl, trivial, ?_⟩
      by_cases g : validP (programs.getD i []) = 0
      · rw [if_pos g] at e
        rw [if_neg (by simpa using g)]
        exact ⟨inI_succ hl hw.2.1.1, ih (i + 1) (by omega) e⟩
      · rw [if_neg g] at e
        rw [if_pos (by simpa using g)]
        refine ⟨?_, trivial⟩
        rw [e, if_neg g]
  exact key programs.length 0 (by omega) rfl
abbrev cBad : Con := { A := (.cons (.sl tL) (.cons tCt .nil)), R := (.cons .int (.cons .int .nil)), pre := fun x => True, F := fun x => ((if cErr x.1 x.2.1 = 0 then ((badL x.1 x.2.1).length : Int) else 0), cErr x.1 x.2.1, ()) }
def cBad_0 (Λ1 : Int → Nat → Prop) (p : (List Lin)) (c : Ctr) (y0 : Int) (y1 : Int) : Prop :=
  True ∧ (if (((if firstErr [p] = 0 then validC c else firstErr [p])) != (0 : Int)) = true then ((0 : Int) = y0 ∧ ((if firstErr [p] = 0 then validC c else firstErr [p])) = y1 ∧ True) else (True ∧ (((boxC c, seqC c)).1 ∧ Λ1 0 0)))
def cBad_1 (Λ1 : Int → Nat → Prop) (p : (List Lin)) (c : Ctr) (y0 : Int) (y1 : Int)  (n_1 : Int) (k_1 : Nat) : Prop :=
  (∀ e1 : ((List Int) × Unit), (((boxC c, seqC c)).2)[k_1]? = some e1 → ((validP p = 0 ∧ validS e1.1 = true ∧ 0 ≤ c.2.2.1 ∧ c.2.2.1 ≤ 3) ∧ (if (!(within (Rg (runS p e1.1) c.2.2.1) c.2.2.2.1 c.2.2.2.2.1)) = true then (inI (n_1 + (1 : Int)) ∧ Λ1 (n_1 + (1 : Int)) (k_1 + 1)) else Λ1 n_1 (k_1 + 1)))) ∧ (List.length (((boxC c, seqC c)).2) ≤ k_1 → (n_1 = y0 ∧ (0 : Int) = y1 ∧ True))
theorem cBad_law (h : ∀ (p : (List Lin)) (c : Ctr), cBad.A.wf (p, c, ()) → ∀ (Λ1 : Int → Nat → Prop), (∀ (n_1 : Int) (k_1 : Nat), cBad_1 Λ1 p c (if cErr p c = 0 then ((badL p c).length : Int) else 0) (cErr p c) n_1 k_1 → Λ1 n_1 k_1) → cBad_0 Λ1 p c (if cErr p c = 0 then ((badL p c).length : Int) else 0) (cErr p c)) : ConOK Go.Proofs.Try.prog 55 cBad := by
  refine lawL (Γ := [(92, cContracted), (98, cIsBad), (100, cStates)]) (Θ := Th) (n := 26) [([1, 1, 1, 0, 1, 0], ⟨[(2, true), (3, true), (4, true), (5, true), (7, true)], [(2, false), (3, false), (7, true), (4000000, true)]⟩)] ⟨cContracted_ok, cIsBad_ok, cStates_ok, trivial⟩ (by kernel_rfl) th_ok mix_ok Go.Proofs.Try.func55 (by kernel_rfl) ?_
  intro x hw hp Λ hC
  have h0 := h x.1 x.2.1 hw (fun n_1 k_1 => Λ [1, 1, 1, 0, 1, 0] ([(2, .ptr 2 0 []), (3, .ptr 3 0 []), (4, .d true .int 0), (5, .d true .int 0), (7, .ptr 7 0 [])], [(2, .box false (.sl tL) x.1), (3, .box false tCt x.2.1), (7, .box true .int n_1), (4000000, .rg true (.cons (.sl .int) .nil) (((boxC x.2.1, seqC x.2.1)).2) k_1)])) (fun n_1 k_1 hb => hC [1, 1, 1, 0, 1, 0] ([(2, .ptr 2 0 []), (3, .ptr 3 0 []), (4, .d true .int 0), (5, .d true .int 0), (7, .ptr 7 0 [])], [(2, .box false (.sl tL) x.1), (3, .box false tCt x.2.1), (7, .box true .int n_1), (4000000, .rg true (.cons (.sl .int) .nil) (((boxC x.2.1, seqC x.2.1)).2) k_1)]) (Eq.mpr (by kernel_rfl) hb))
  exact Eq.mpr (by kernel_rfl) h0
theorem cBad_ok : ConOK Go.Proofs.Try.prog 55 cBad := by
  refine cBad_law ?_
  intro p c hw Λ1 h1
  unfold cBad_0
  rw [firstErr_one]
  refine ⟨trivial, ?_⟩
  by_cases g : cErr p c = 0
  · rw [if_neg (by simpa [cErr] using g)]
    obtain ⟨g1, g2⟩ := cErr_ok g
    obtain ⟨g3, g4⟩ := validC_ok g2
    obtain ⟨hb, ho, _⟩ := isCtr_box g3
    refine ⟨trivial, hb, ?_⟩
    have hlen := statesC_len hb
    have key : ∀ n k, n + k = (statesC c).length → Λ1 (((((statesC c).take k).filter fun s => !keepS p c s).length : Nat) : Int) k := by
      intro n
      induction n with
      | zero =>
        intro k hk
        apply h1; unfold cBad_1
        refine ⟨fun e1 he => ?_, fun _ => ?_⟩
        · rw [List.getElem?_eq_none (by rw [seqC_len]; omega)] at he
          cases he
        · rw [if_pos g, g, List.take_of_length_le (by omega)]
          exact ⟨rfl, rfl, trivial⟩
      | succ n ih =>
        intro k hk
        apply h1; unfold cBad_1
        refine ⟨fun e1 he => ?_, fun h => absurd h (by rw [seqC_len]; omega)⟩
        obtain ⟨s, u⟩ := e1
        have he' := seqC_get.1 he
        have hk2 : k < (statesC c).length := by omega
        have hv := stateC_valid hb (List.mem_of_getElem? he')
        refine ⟨⟨g1, hv, ho.1, ho.2⟩, ?_⟩
        have := ih (k + 1) (by omega)
        rw [List.take_add_one, he', List.filter_append, List.length_append] at this
        have hle : (((statesC c).take k).filter fun s => !keepS p c s).length ≤ (statesC c).length := Nat.le_trans (List.length_filter_le _ _) (by rw [List.length_take]; omega)
        cases hs : keepS p c s
        · rw [if_pos (by show (!keepS p c s) = true; rw [hs]; rfl)]
          refine ⟨by unfold inI; omega, ?_⟩
          simpa [hs] using this
        · rw [if_neg (by show ¬ (!keepS p c s) = true; rw [hs]; simp)]
          simpa [hs] using this
    exact key _ 0 (Nat.add_zero _)
  · rw [if_pos (by simpa [cErr] using g), if_neg g]
    exact ⟨rfl, rfl, trivial⟩
abbrev cFirst0 : Con := { A := (.cons tCt (.cons (.fn (.cons (.sl .int) .nil) (.cons .bool .nil)) .nil)), R := (.cons (.sl .int) (.cons .bool .nil)), pre := fun x => boxC x.1 ∧ ∀ s' ∈ statesC x.1, x.2.1.1 (s', ()), F := fun x => ((((statesC x.1).filter (fun s' => (x.2.1.2 (s', ())).1)).headD []), (!((statesC x.1).filter (fun s' => (x.2.1.2 (s', ())).1)).isEmpty), ()) }
def cFirst0_0 (Λ1 : Nat → Prop) (c : Ctr) (is_ : (T.fn (.cons (.sl .int) .nil) (.cons .bool .nil)).den) (y0 : (List Int)) (y1 : Bool) : Prop :=
  True ∧ (((boxC c, seqC c)).1 ∧ Λ1 0)
def cFirst0_1 (Λ1 : Nat → Prop) (c : Ctr) (is_ : (T.fn (.cons (.sl .int) .nil) (.cons .bool .nil)).den) (y0 : (List Int)) (y1 : Bool)  (k_1 : Nat) : Prop :=
  (∀ e1 : ((List Int) × Unit), (((boxC c, seqC c)).2)[k_1]? = some e1 → (is_.1 (e1.1, ()) ∧ (if (!((is_.2 (e1.1, ())).1)) = true then Λ1 (k_1 + 1) else (e1.1 ≠ [] ∧ (e1.1 = y0 ∧ (!(List.isEmpty e1.1)) = y1 ∧ True))))) ∧ (List.length (((boxC c, seqC c)).2) ≤ k_1 → (([] : List Int) = y0 ∧ (!(List.isEmpty ([] : List Int))) = y1 ∧ True))
theorem cFirst0_law (h : ∀ (c : Ctr) (is_ : (T.fn (.cons (.sl .int) .nil) (.cons .bool .nil)).den), cFirst0.A.wf (c, is_, ()) → (boxC c ∧ ∀ s' ∈ statesC c, is_.1 (s', ())) → ∀ (Λ1 : Nat → Prop), (∀ (k_1 : Nat), cFirst0_1 Λ1 c is_ (((statesC c).filter (fun s' => (is_.2 (s', ())).1)).headD []) (!((statesC c).filter (fun s' => (is_.2 (s', ())).1)).isEmpty) k_1 → Λ1 k_1) → cFirst0_0 Λ1 c is_ (((statesC c).filter (fun s' => (is_.2 (s', ())).1)).headD []) (!((statesC c).filter (fun s' => (is_.2 (s', ())).1)).isEmpty)) : ConOK Go.Proofs.Try.prog 93 cFirst0 := by
  refine lawX (X := { subs := [], frz := [], U := [], mul := [], nst := [], nls := [6], itf := none, inp := [], arrs := [] }) (hX := xok0 _ trivial) (Γ := [(100, cStates)]) (Θ := Th) (n := 19) [([1, 0, 1, 1, 0, 1, 0], ⟨[(3, true), (4, true), (5, true), (6, true)], [(3, false), (4, true), (6, true), (4000000, true)]⟩)] ⟨cStates_ok, trivial⟩ (by kernel_rfl) th_ok mix_ok Go.Proofs.Try.func93 (by kernel_rfl) ?_
  intro x hw hp Λ hC
  have h0 := h x.1 x.2.1 hw hp (fun k_1 => Λ [1, 0, 1, 1, 0, 1, 0] ([(3, .ptr 3 0 []), (4, .own 4 0), (5, .d true .bool false), (6, .ptr 6 0 [])], [(3, .box false (.fn (.cons (.sl .int) .nil) (.cons .bool .nil)) x.2.1), (4, .sl true .int ([] : List Int)), (6, .box true (.nsl .int) ([] : List Int)), (4000000, .rg true (.cons (.sl .int) .nil) (((boxC x.1, seqC x.1)).2) k_1)])) (fun k_1 hb => hC [1, 0, 1, 1, 0, 1, 0] ([(3, .ptr 3 0 []), (4, .own 4 0), (5, .d true .bool false), (6, .ptr 6 0 [])], [(3, .box false (.fn (.cons (.sl .int) .nil) (.cons .bool .nil)) x.2.1), (4, .sl true .int ([] : List Int)), (6, .box true (.nsl .int) ([] : List Int)), (4000000, .rg true (.cons (.sl .int) .nil) (((boxC x.1, seqC x.1)).2) k_1)]) (Eq.mpr (by kernel_rfl) hb))
  exact Eq.mpr (by kernel_rfl) h0
theorem cFirst0_ok : ConOK Go.Proofs.Try.prog 93 cFirst0 := by
  refine cFirst0_law ?_
  intro c is_ hw hp Λ1 h1
  unfold cFirst0_0
  obtain ⟨hb, hf⟩ := hp
  refine ⟨trivial, hb, ?_⟩
  have key : ∀ n k, n + k = (statesC c).length → ((statesC c).take k).find? (fun s' => (is_.2 (s', ())).1) = none → Λ1 k := by
    intro n
    induction n with
    | zero =>
      intro k hk hn
      apply h1; unfold cFirst0_1
      refine ⟨fun e1 he => ?_, fun _ => ?_⟩
      · rw [List.getElem?_eq_none (by rw [seqC_len]; omega)] at he
        cases he
      · rw [← find_head, ← find_some]
        rw [List.take_of_length_le (by omega)] at hn
        rw [hn]
        exact ⟨rfl, rfl, trivial⟩
    | succ n ih =>
      intro k hk hn
      apply h1; unfold cFirst0_1
      refine ⟨fun e1 he => ?_, fun h => absurd h (by rw [seqC_len]; omega)⟩
      obtain ⟨s, u⟩ := e1
      have he' := seqC_get.1 he
      have hm := List.mem_of_getElem? he'
      have hl := ((stateC_iff hb).1 hm).1
      refine ⟨hf s hm, ?_⟩
      show if (!(is_.2 (s, ())).1) = true then _ else _
      cases hs : (is_.2 (s, ())).1
      · rw [if_pos (by rfl)]
        exact ih (k + 1) (by omega) (find_next hn he' hs)
      · rw [if_neg (by simp), ← find_head, ← find_some, find_at hn he' hs]
        have hne : s ≠ [] := by intro e; rw [e] at hl; cases hl
        refine ⟨hne, rfl, ?_, trivial⟩
        cases s with
        | nil => exact absurd rfl hne
        | cons a t => rfl
  exact key _ 0 (Nat.add_zero _) rfl
abbrev cFirst1 : Con := { A := (.cons (.sl .int) (.cons (.ref (.sl tL)) (.cons (.ref tCt) .nil))), R := (.cons .bool .nil), pre := fun x => validP x.2.1 = 0 ∧ validS x.1 = true ∧ 0 ≤ x.2.2.1.2.2.1 ∧ x.2.2.1.2.2.1 ≤ 3, F := fun x => (!keepS x.2.1 x.2.2.1 x.1, ()) }
def cFirst1_0  (in_ : (List Int)) (c0 : (List Lin)) (c1 : Ctr) (y0 : Bool) : Prop :=
  (validP c0 = 0 ∧ validS in_ = true ∧ 0 ≤ c1.2.2.1 ∧ c1.2.2.1 ≤ 3) ∧ ((!(within (Rg (runS c0 in_) c1.2.2.1) c1.2.2.2.1 c1.2.2.2.2.1)) = y0 ∧ True)
theorem cFirst1_law (h : ∀ (in_ : (List Int)) (c0 : (List Lin)) (c1 : Ctr), cFirst1.A.wf (in_, c0, c1, ()) → (validP c0 = 0 ∧ validS in_ = true ∧ 0 ≤ c1.2.2.1 ∧ c1.2.2.1 ≤ 3) → cFirst1_0  in_ c0 c1 (!keepS c0 c1 in_)) : ConOK Go.Proofs.Try.prog 97 cFirst1 := by
  refine lawL (Γ := [(98, cIsBad)]) (Θ := Th) (n := 9) [] ⟨cIsBad_ok, trivial⟩ (by kernel_rfl) th_ok mix_ok Go.Proofs.Try.func97 (by kernel_rfl) ?_
  intro x hw hp Λ hC
  have h0 := h x.1 x.2.1 x.2.2.1 hw hp  
  exact Eq.mpr (by kernel_rfl) h0
theorem cFirst1_ok : ConOK Go.Proofs.Try.prog 97 cFirst1 := by
  refine cFirst1_law ?_
  intro in_ c0 c1 hw hp
  unfold cFirst1_0
  exact ⟨hp, rfl, trivial⟩
abbrev cFirst : Con := { A := (.cons (.sl tL) (.cons tCt .nil)), R := (.cons (.sl .int) (.cons .bool (.cons .int .nil))), pre := fun x => True, F := fun x => ((if cErr x.1 x.2.1 = 0 then (badL x.1 x.2.1).headD [] else []), (cErr x.1 x.2.1 == 0 && !(badL x.1 x.2.1).isEmpty), cErr x.1 x.2.1, ()) }
def cFirst_0  (p : (List Lin)) (c : Ctr) (y0 : (List Int)) (y1 : Bool) (y2 : Int) : Prop :=
  True ∧ (if (((if firstErr [p] = 0 then validC c else firstErr [p])) != (0 : Int)) = true then (([] : List Int) = y0 ∧ false = y1 ∧ ((if firstErr [p] = 0 then validC c else firstErr [p])) = y2 ∧ True) else ((boxC c ∧ ∀ s' ∈ statesC c, (fun (xx : ((List Int) × Unit)) => validP p = 0 ∧ validS xx.1 = true ∧ 0 ≤ c.2.2.1 ∧ c.2.2.1 ≤ 3, fun (xx : ((List Int) × Unit)) => (!keepS p c xx.1, ())).1 (s', ())) ∧ (((((statesC c).filter (fun s' => ((fun (xx : ((List Int) × Unit)) => validP p = 0 ∧ validS xx.1 = true ∧ 0 ≤ c.2.2.1 ∧ c.2.2.1 ≤ 3, fun (xx : ((List Int) × Unit)) => (!keepS p c xx.1, ())).2 (s', ())).1)).headD [])) = y0 ∧ ((!((statesC c).filter (fun s' => ((fun (xx : ((List Int) × Unit)) => validP p = 0 ∧ validS xx.1 = true ∧ 0 ≤ c.2.2.1 ∧ c.2.2.1 ≤ 3, fun (xx : ((List Int) × Unit)) => (!keepS p c xx.1, ())).2 (s', ())).1)).isEmpty)) = y1 ∧ (0 : Int) = y2 ∧ True)))
theorem cFirst_law (h : ∀ (p : (List Lin)) (c : Ctr), cFirst.A.wf (p, c, ()) → cFirst_0  p c (if cErr p c = 0 then (badL p c).headD [] else []) (cErr p c == 0 && !(badL p c).isEmpty) (cErr p c)) : ConOK Go.Proofs.Try.prog 49 cFirst := by
  refine lawX (X := { subs := [], frz := [2, 3], U := [], mul := [], nst := [], nls := [], itf := none, inp := [], arrs := [] }) (hX := xok0 _ trivial) (Γ := [(92, cContracted), (93, cFirst0), (97, cFirst1)]) (Θ := Th) (n := 25) [] ⟨cContracted_ok, cFirst0_ok, cFirst1_ok, trivial⟩ (by kernel_rfl) th_ok mix_ok Go.Proofs.Try.func49 (by kernel_rfl) ?_
  intro x hw hp Λ hC
  have h0 := h x.1 x.2.1 hw  
  exact Eq.mpr (by kernel_rfl) h0
theorem cFirst_ok : ConOK Go.Proofs.Try.prog 49 cFirst := by
  refine cFirst_law ?_
  intro p c hw
  unfold cFirst_0
  rw [firstErr_one]
  refine ⟨trivial, ?_⟩
  by_cases g : cErr p c = 0
  · rw [if_neg (by simpa [cErr] using g)]
    obtain ⟨g1, g2⟩ := cErr_ok g
    obtain ⟨g3, g4⟩ := validC_ok g2
    obtain ⟨hb, ho, _⟩ := isCtr_box g3
    refine ⟨⟨hb, fun s' hs => ⟨g1, stateC_valid hb hs, ho.1, ho.2⟩⟩, ?_, ?_, g.symm, trivial⟩
    · rw [if_pos g]; rfl
    · rw [g]; rfl
  · have g' : ¬ (if validP p = 0 then validC c else validP p) = 0 := g
    rw [if_pos (by simpa using g'), if_neg g]
    refine ⟨rfl, ?_, rfl, trivial⟩
    rw [show (cErr p c == 0) = false by simpa using g]; rfl
abbrev cKeeps : Con := { A := (.cons (.sl tL) (.cons tCt .nil)), R := (.cons .bool (.cons .int .nil)), pre := fun x => True, F := fun x => ((cErr x.1 x.2.1 == 0 && (badL x.1 x.2.1).isEmpty), cErr x.1 x.2.1, ()) }
def cKeeps_0  (p : (List Lin)) (c : Ctr) (y0 : Bool) (y1 : Int) : Prop :=
  True ∧ (if ((cErr p c) == (0 : Int)) = true then (True ∧ ((bif true then (!((cErr p c == 0 && !(badL p c).isEmpty))) else false) = y0 ∧ (cErr p c) = y1 ∧ True)) else (false = false ∧ (false = y0 ∧ (cErr p c) = y1 ∧ True)))
theorem cKeeps_law (h : ∀ (p : (List Lin)) (c : Ctr), cKeeps.A.wf (p, c, ()) → cKeeps_0  p c (cErr p c == 0 && (badL p c).isEmpty) (cErr p c)) : ConOK Go.Proofs.Try.prog 51 cKeeps := by
  refine lawL (Γ := [(49, cFirst)]) (Θ := Th) (n := 23) [] ⟨cFirst_ok, trivial⟩ (by kernel_rfl) th_ok mix_ok Go.Proofs.Try.func51 (by kernel_rfl) ?_
  intro x hw hp Λ hC
  have h0 := h x.1 x.2.1 hw  
  exact Eq.mpr (by kernel_rfl) h0
theorem cKeeps_ok : ConOK Go.Proofs.Try.prog 51 cKeeps := by
  refine cKeeps_law ?_
  intro p c hw
  unfold cKeeps_0
  refine ⟨trivial, ?_⟩
  by_cases g : cErr p c = 0
  · simp [g]
  · simp [g]
end Go.Tk
/- The states of a box: the document's answer (layer 2). -/
set_option linter.unusedSimpArgs false
set_option linter.unusedVariables false
namespace Go.Tk
open Go Go.RowKit

abbrev cContractedR : Con := { A := (.cons (.sl tL) (.cons tCt .nil)), R := (.cons .int .nil), pre := fun x => True, F := fun x => (cErr x.1 x.2.1, ()) }
def cContractedR_0  (p : (List Lin)) (c : Ctr) (y0 : Int) : Prop :=
  True ∧ (if ((validP p) != (0 : Int)) = true then ((validP p) = y0 ∧ True) else (True ∧ ((validC c) = y0 ∧ True)))
theorem cContractedR_law (h : ∀ (p : (List Lin)) (c : Ctr), cContractedR.A.wf (p, c, ()) → cContractedR_0  p c (cErr p c)) : ConOK Go.Proofs.Try.prog 95 cContractedR := by
  refine lawL (Γ := [(26, cValCR), (76, cValPR)]) (Θ := Th) (n := 13) [] ⟨cValCR_ok, cValPR_ok, trivial⟩ (by kernel_rfl) th_ok mix_ok Go.Proofs.Try.func95 (by kernel_rfl) ?_
  intro x hw hp Λ hC
  have h0 := h x.1 x.2.1 hw  
  exact Eq.mpr (by kernel_rfl) h0
theorem cContractedR_ok : ConOK Go.Proofs.Try.prog 95 cContractedR := by
  refine cContractedR_law ?_
  intro p c hw
  unfold cContractedR_0
  refine ⟨trivial, ?_⟩
  unfold cErr
  by_cases g : validP p = 0
  · rw [if_neg (by simpa using g), if_pos g]
    exact ⟨trivial, rfl, trivial⟩
  · rw [if_pos (by simpa using g), if_neg g]
    exact ⟨rfl, trivial⟩
abbrev cStatesR : Con := { A := (.cons tCt .nil), R := (.cons (.sl (.sl .int)) .nil), pre := fun x => validC x.1 = 0, F := fun x => (statesC x.1, ()), al := true }
def cStatesR_0 (Λ1 : (List (List Int)) → Int → Prop) (Λ2 : Int → (List (List Int)) → Int → (List (List Int)) → Prop) (Λ3 : Int → Int → (List (List Int)) → Int → (List (List Int)) → Prop) (c : Ctr) (y0 : (List (List Int))) : Prop :=
  Λ1 ([([] : List Int)]) (0 : Int)
def cStatesR_1 (Λ1 : (List (List Int)) → Int → Prop) (Λ2 : Int → (List (List Int)) → Int → (List (List Int)) → Prop) (Λ3 : Int → Int → (List (List Int)) → Int → (List (List Int)) → Prop) (c : Ctr) (y0 : (List (List Int)))  (out_1 : (List (List Int))) (r_1 : Int) : Prop :=
  if (decide (r_1 < (4 : Int))) = true then Λ2 r_1 out_1 (0 : Int) ([] : List (List Int)) else (out_1 = y0 ∧ True)
def cStatesR_2 (Λ1 : (List (List Int)) → Int → Prop) (Λ2 : Int → (List (List Int)) → Int → (List (List Int)) → Prop) (Λ3 : Int → Int → (List (List Int)) → Int → (List (List Int)) → Prop) (c : Ctr) (y0 : (List (List Int))) (r_1 : Int) (out_2 : (List (List Int))) (i_2 : Int) (next_2 : (List (List Int))) : Prop :=
  if (decide (i_2 < (List.length out_2 : Int))) = true then (idx r_1 (List.length c.1 : Int) ∧ Λ3 i_2 r_1 out_2 (List.getD c.1 (Int.toNat r_1) 0) next_2) else (inI (r_1 + (1 : Int)) ∧ Λ1 next_2 (r_1 + (1 : Int)))
def cStatesR_3 (Λ1 : (List (List Int)) → Int → Prop) (Λ2 : Int → (List (List Int)) → Int → (List (List Int)) → Prop) (Λ3 : Int → Int → (List (List Int)) → Int → (List (List Int)) → Prop) (c : Ctr) (y0 : (List (List Int))) (i_2 : Int) (r_1 : Int) (out_3 : (List (List Int))) (n_3 : Int) (next_3 : (List (List Int))) : Prop :=
  idx r_1 (List.length c.2.1 : Int) ∧ (if (decide (n_3 ≤ (List.getD c.2.1 (Int.toNat r_1) 0))) = true then (idx i_2 (List.length out_3 : Int) ∧ (List.length ([] : List Int) + List.length (List.getD out_3 (Int.toNat i_2) ([] : List Int)) ≤ 4294967296 ∧ (List.length (([] : List Int) ++ (List.getD out_3 (Int.toNat i_2) ([] : List Int))) + List.length [n_3] ≤ 4294967296 ∧ (List.length next_3 + List.length ([((([] : List Int) ++ (List.getD out_3 (Int.toNat i_2) ([] : List Int))) ++ [n_3])]) ≤ 4294967296 ∧ (inI (n_3 + (1 : Int)) ∧ Λ3 i_2 r_1 out_3 (n_3 + (1 : Int)) (next_3 ++ [((([] : List Int) ++ (List.getD out_3 (Int.toNat i_2) ([] : List Int))) ++ [n_3])])))))) else (inI (i_2 + (1 : Int)) ∧ Λ2 r_1 out_3 (i_2 + (1 : Int)) next_3))
theorem cStatesR_law (h : ∀ (c : Ctr), cStatesR.A.wf (c, ()) → (validC c = 0) → ∀ (Λ1 : (List (List Int)) → Int → Prop) (Λ2 : Int → (List (List Int)) → Int → (List (List Int)) → Prop) (Λ3 : Int → Int → (List (List Int)) → Int → (List (List Int)) → Prop), (∀ (out_1 : (List (List Int))) (r_1 : Int), cStatesR_1 Λ1 Λ2 Λ3 c (statesC c) out_1 r_1 → Λ1 out_1 r_1) → (∀ (r_1 : Int) (out_2 : (List (List Int))) (i_2 : Int) (next_2 : (List (List Int))), cStatesR_2 Λ1 Λ2 Λ3 c (statesC c) r_1 out_2 i_2 next_2 → Λ2 r_1 out_2 i_2 next_2) → (∀ (i_2 : Int) (r_1 : Int) (out_3 : (List (List Int))) (n_3 : Int) (next_3 : (List (List Int))), cStatesR_3 Λ1 Λ2 Λ3 c (statesC c) i_2 r_1 out_3 n_3 next_3 → Λ3 i_2 r_1 out_3 n_3 next_3) → cStatesR_0 Λ1 Λ2 Λ3 c (statesC c)) : ConOK Go.Proofs.Try.prog 96 cStatesR := by
  refine lawL (Γ := []) (Θ := Th) (n := 47) [([1, 1, 0, 1, 0], ⟨[(1, true), (3, true), (4, true)], [(1, false)]⟩), ([1, 1, 0, 1, 0, 0, 1, 0, 0, 1, 0, 1, 0], ⟨[(1, true), (3, true), (4, true), (5, true), (6, true)], [(1, false), (5, true)]⟩), ([1, 1, 0, 1, 0, 0, 1, 0, 0, 1, 0, 1, 0, 0, 1, 0, 0, 1, 0], ⟨[(1, true), (3, true), (4, true), (5, true), (6, true), (7, false)], [(1, false), (5, true)]⟩)] trivial (by kernel_rfl) th_ok mix_ok Go.Proofs.Try.func96 (by kernel_rfl) ?_
  intro x hw hp Λ hC
  have h0 := h x.1 hw hp (fun out_1 r_1 => Λ [1, 1, 0, 1, 0] ([(1, .ptr 1 0 []), (3, .d true (.sl (.sl .int)) out_1), (4, .d true .int r_1)], [(1, .box false tCt x.1)])) (fun r_1 out_2 i_2 next_2 => Λ [1, 1, 0, 1, 0, 0, 1, 0, 0, 1, 0, 1, 0] ([(1, .ptr 1 0 []), (3, .d true (.sl (.sl .int)) out_2), (4, .d true .int r_1), (5, .own 5 0), (6, .d true .int i_2)], [(1, .box false tCt x.1), (5, .sl true (.sl .int) next_2)])) (fun i_2 r_1 out_3 n_3 next_3 => Λ [1, 1, 0, 1, 0, 0, 1, 0, 0, 1, 0, 1, 0, 0, 1, 0, 0, 1, 0] ([(1, .ptr 1 0 []), (3, .d true (.sl (.sl .int)) out_3), (4, .d true .int r_1), (5, .own 5 0), (6, .d true .int i_2), (7, .d false .int n_3)], [(1, .box false tCt x.1), (5, .sl true (.sl .int) next_3)])) (fun out_1 r_1 hb => hC [1, 1, 0, 1, 0] ([(1, .ptr 1 0 []), (3, .d true (.sl (.sl .int)) out_1), (4, .d true .int r_1)], [(1, .box false tCt x.1)]) (Eq.mpr (by kernel_rfl) hb)) (fun r_1 out_2 i_2 next_2 hb => hC [1, 1, 0, 1, 0, 0, 1, 0, 0, 1, 0, 1, 0] ([(1, .ptr 1 0 []), (3, .d true (.sl (.sl .int)) out_2), (4, .d true .int r_1), (5, .own 5 0), (6, .d true .int i_2)], [(1, .box false tCt x.1), (5, .sl true (.sl .int) next_2)]) (Eq.mpr (by kernel_rfl) hb)) (fun i_2 r_1 out_3 n_3 next_3 hb => hC [1, 1, 0, 1, 0, 0, 1, 0, 0, 1, 0, 1, 0, 0, 1, 0, 0, 1, 0] ([(1, .ptr 1 0 []), (3, .d true (.sl (.sl .int)) out_3), (4, .d true .int r_1), (5, .own 5 0), (6, .d true .int i_2), (7, .d false .int n_3)], [(1, .box false tCt x.1), (5, .sl true (.sl .int) next_3)]) (Eq.mpr (by kernel_rfl) hb))
  exact Eq.mpr (by kernel_rfl) h0
theorem cStatesR_ok : ConOK Go.Proofs.Try.prog 96 cStatesR := by
  refine cStatesR_law ?_
  intro c hw hp Λ1 Λ2 Λ3 h1 h2 h3
  unfold cStatesR_0
  have hb := (isCtr_box (validC_ok hp).1).1
  have v1 := validS_len hb.1
  have v2 := validS_len hb.2.1
  show Λ1 (statesL ((rngs c).take 0)) ((0 : Nat) : Int)
  refine upto (n := 4) (Q := fun r => Λ1 (statesL ((rngs c).take r)) (r : Int)) ?_ ?_ 0 (Nat.zero_le _)
  · apply h1; unfold cStatesR_1
    rw [if_neg (by simp), List.take_of_length_le (by rw [rngs_len hb]; omega)]
    exact ⟨rfl, trivial⟩
  · intro r hr ih
    apply h1; unfold cStatesR_1
    rw [if_pos (by simp; omega)]
    have w := boxC_wid hb hr
    have hn := states_size hp (r := r + 1) (by omega)
    rw [rngs_next hb hr, statesL_snoc] at ih hn
    have hol : ∀ s ∈ statesL ((rngs c).take r), s.length ≤ 4 := by
      intro s hs
      rw [statesL_mem_len _ _ hs, List.length_take]; omega
    generalize statesL ((rngs c).take r) = O at ih hn hol
    generalize hl : c.1.getD r 0 = l at ih hn w
    generalize hh : c.2.1.getD r 0 = h at ih hn w
    generalize hW : (h - l + 1).toNat = W at ih hn
    have hWc : l + (W : Int) = h + 1 := by rw [← hW]; omega
    rw [flatMap_len _ W _ fun a _ => by rw [List.length_map, exts_len]] at hn
    have key := upto (n := O.length) (Q := fun i => Λ2 (r : Int) O (i : Int) ((O.take i).flatMap fun s => (exts l W).map fun n => s ++ [n])) ?_ ?_ 0 (Nat.zero_le _)
    · exact key
    · apply h2; unfold cStatesR_2
      rw [if_neg (by simp)]
      refine ⟨by unfold inI; omega, ?_⟩
      rw [List.take_length]
      exact ih
    · intro i hi ih2
      apply h2; unfold cStatesR_2
      rw [if_pos (by simpa using hi), Int.toNat_natCast, hl]
      refine ⟨idx_nat (by omega), ?_⟩
      have hi4 := hol _ (mem_getD (d := []) hi)
      have hlen : ((O.take i).flatMap fun s => (exts l W).map fun n => s ++ [n]).length = i * W := by
        rw [flatMap_len _ W _ fun a _ => by rw [List.length_map, exts_len], List.length_take, Nat.min_eq_left (by omega)]
      have hmul : (i + 1) * W ≤ O.length * W := Nat.mul_le_mul_right _ hi
      rw [Nat.add_mul, Nat.one_mul] at hmul
      have key := upto (n := W) (Q := fun d => Λ3 (i : Int) (r : Int) O (l + (d : Int)) (((O.take i).flatMap fun s => (exts l W).map fun n => s ++ [n]) ++ (exts l d).map fun n => O.getD i [] ++ [n])) ?_ ?_ 0 (Nat.zero_le _)
      · have e : l + ((0 : Nat) : Int) = l := by omega
        rw [e] at key
        simpa [exts] using key
      · apply h3; unfold cStatesR_3
        rw [Int.toNat_natCast, hh]
        refine ⟨idx_nat (by omega), ?_⟩
        rw [if_neg (by simp; omega)]
        have hW1 : 1 ≤ W := by omega
        have hOl : O.length * 1 ≤ O.length * W := Nat.mul_le_mul_left _ hW1
        refine ⟨by unfold inI; omega, ?_⟩
        have e : O.take (i + 1) = O.take i ++ [O.getD i []] := by
          rw [List.take_add_one, List.getElem?_eq_getElem hi, List.getD_eq_getElem?_getD, List.getElem?_eq_getElem hi]; rfl
        rw [e, List.flatMap_append] at ih2
        simpa using ih2
      · intro d hd ih3
        apply h3; unfold cStatesR_3
        rw [Int.toNat_natCast, hh]
        refine ⟨idx_nat (by omega), ?_⟩
        rw [if_pos (by simp; omega), Int.toNat_natCast]
        refine ⟨idx_nat hi, ?_, ?_, ?_, by unfold inI; omega, ?_⟩
        · simp only [List.length_nil]; omega
        · simp only [List.nil_append, List.length_cons, List.length_nil]; omega
        · rw [List.length_append, hlen, List.length_map, exts_len]
          simp only [List.length_cons, List.length_nil]; omega
        · rw [exts_snoc, List.map_append, ← List.append_assoc] at ih3
          have e : l + ((d + 1 : Nat) : Int) = l + (d : Int) + 1 := by omega
          rw [e] at ih3
          simpa using ih3
abbrev cBadLR : Con := { A := (.cons (.sl tL) (.cons tCt .nil)), R := (.cons (.sl (.sl .int)) .nil), pre := fun x => validP x.1 = 0 ∧ validC x.2.1 = 0, F := fun x => (badL x.1 x.2.1, ()), al := true }
def cBadLR_0 (Λ1 : Int → (List (List Int)) → Prop) (p : (List Lin)) (c : Ctr) (y0 : (List (List Int))) : Prop :=
  validC c = 0 ∧ Λ1 (0 : Int) ([] : List (List Int))
def cBadLR_1 (Λ1 : Int → (List (List Int)) → Prop) (p : (List Lin)) (c : Ctr) (y0 : (List (List Int)))  (i_1 : Int) (out_1 : (List (List Int))) : Prop :=
  if (decide (i_1 < (List.length (statesC c) : Int))) = true then (idx i_1 (List.length (statesC c) : Int) ∧ ((validP p = 0 ∧ validS (List.getD (statesC c) (Int.toNat i_1) ([] : List Int)) = true ∧ 0 ≤ c.2.2.1 ∧ c.2.2.1 ≤ 3) ∧ (True ∧ (if (!(within (Rg (runS p (List.getD (statesC c) (Int.toNat i_1) ([] : List Int))) c.2.2.1) c.2.2.2.1 c.2.2.2.2.1)) = true then (idx i_1 (List.length (statesC c) : Int) ∧ (List.length out_1 + List.length ([(List.getD (statesC c) (Int.toNat i_1) ([] : List Int))]) ≤ 4294967296 ∧ (inI (i_1 + (1 : Int)) ∧ Λ1 (i_1 + (1 : Int)) (out_1 ++ [(List.getD (statesC c) (Int.toNat i_1) ([] : List Int))])))) else (inI (i_1 + (1 : Int)) ∧ Λ1 (i_1 + (1 : Int)) out_1))))) else (out_1 = y0 ∧ True)
theorem cBadLR_law (h : ∀ (p : (List Lin)) (c : Ctr), cBadLR.A.wf (p, c, ()) → (validP p = 0 ∧ validC c = 0) → ∀ (Λ1 : Int → (List (List Int)) → Prop), (∀ (i_1 : Int) (out_1 : (List (List Int))), cBadLR_1 Λ1 p c (badL p c) i_1 out_1 → Λ1 i_1 out_1) → cBadLR_0 Λ1 p c (badL p c)) : ConOK Go.Proofs.Try.prog 99 cBadLR := by
  refine lawL (Γ := [(72, cMade), (96, cStatesR), (69, cWithinR2)]) (Θ := Th) (n := 38) [([1, 1, 1, 0, 1, 0], ⟨[(0, false), (3, true), (5, true), (6, false), (7, true)], [(3, false), (5, false)]⟩)] ⟨cMade_ok, cStatesR_ok, cWithinR2_ok, trivial⟩ (by kernel_rfl) th_ok mix_ok Go.Proofs.Try.func99 (by kernel_rfl) ?_
  intro x hw hp Λ hC
  have h0 := h x.1 x.2.1 hw hp (fun i_1 out_1 => Λ [1, 1, 1, 0, 1, 0] ([(0, .d false (.sl tL) x.1), (3, .ptr 3 0 []), (5, .own 5 0), (6, .d false (.sl (.sl .int)) (statesC x.2.1)), (7, .d true .int i_1)], [(3, .box false tCt x.2.1), (5, .sl false (.sl .int) out_1)])) (fun i_1 out_1 hb => hC [1, 1, 1, 0, 1, 0] ([(0, .d false (.sl tL) x.1), (3, .ptr 3 0 []), (5, .own 5 0), (6, .d false (.sl (.sl .int)) (statesC x.2.1)), (7, .d true .int i_1)], [(3, .box false tCt x.2.1), (5, .sl false (.sl .int) out_1)]) (Eq.mpr (by kernel_rfl) hb))
  exact Eq.mpr (by kernel_rfl) h0
theorem cBadLR_ok : ConOK Go.Proofs.Try.prog 99 cBadLR := by
  refine cBadLR_law ?_
  intro p c hw hp Λ1 h1
  unfold cBadLR_0
  obtain ⟨g1, g2⟩ := hp
  obtain ⟨g3, g4⟩ := validC_ok g2
  obtain ⟨hb, ho, _⟩ := isCtr_box g3
  have hlen := statesC_len hb
  refine ⟨g2, ?_⟩
  have key := upto (n := (statesC c).length) (Q := fun i => Λ1 (i : Int) (((statesC c).take i).filter fun s => !keepS p c s)) ?_ ?_ 0 (Nat.zero_le _)
  · exact key
  · apply h1; unfold cBadLR_1
    rw [if_neg (by simp), List.take_length]
    exact ⟨rfl, trivial⟩
  · intro i hi ih
    apply h1; unfold cBadLR_1
    rw [if_pos (by simpa using hi), Int.toNat_natCast]
    have hm : (statesC c).getD i [] ∈ statesC c := mem_getD hi
    refine ⟨idx_nat hi, ⟨g1, stateC_valid hb hm, ho.1, ho.2⟩, trivial, ?_⟩
    have e : (statesC c).take (i + 1) = (statesC c).take i ++ [(statesC c).getD i []] := by
      rw [List.take_add_one, List.getElem?_eq_getElem hi, List.getD_eq_getElem?_getD, List.getElem?_eq_getElem hi]; rfl
    have one : [(statesC c).getD i []].filter (fun s => !keepS p c s) = if keepS p c ((statesC c).getD i []) = true then [] else [(statesC c).getD i []] := by
      rw [List.filter_cons, List.filter_nil]
      cases keepS p c ((statesC c).getD i []) <;> rfl
    rw [e, List.filter_append, one] at ih
    have hle : (((statesC c).take i).filter fun s => !keepS p c s).length ≤ (statesC c).length := Nat.le_trans (List.length_filter_le _ _) (by rw [List.length_take]; omega)
    cases hs : keepS p c ((statesC c).getD i [])
    · rw [if_pos (by show (!keepS p c ((statesC c).getD i [])) = true; rw [hs]; rfl)]
      refine ⟨idx_nat hi, by simp only [List.length_cons, List.length_nil]; omega, inI_succ hi (by omega), ?_⟩
      rw [if_neg (by rw [hs]; simp)] at ih
      exact ih
    · rw [if_neg (by show ¬ (!keepS p c ((statesC c).getD i [])) = true; rw [hs]; simp)]
      refine ⟨inI_succ hi (by omega), ?_⟩
      rw [if_pos hs, List.append_nil] at ih
      exact ih
abbrev cKeepsR : Con := { A := (.cons (.sl tL) (.cons tCt .nil)), R := (.cons .bool (.cons .int .nil)), pre := fun x => True, F := fun x => ((cErr x.1 x.2.1 == 0 && (badL x.1 x.2.1).isEmpty), cErr x.1 x.2.1, ()) }
def cKeepsR_0  (p : (List Lin)) (c : Ctr) (y0 : Bool) (y1 : Int) : Prop :=
  True ∧ (if ((cErr p c) != (0 : Int)) = true then (false = y0 ∧ (cErr p c) = y1 ∧ True) else ((validP p = 0 ∧ validC c = 0) ∧ (((List.length (badL p c) : Int) == (0 : Int)) = y0 ∧ (0 : Int) = y1 ∧ True)))
theorem cKeepsR_law (h : ∀ (p : (List Lin)) (c : Ctr), cKeepsR.A.wf (p, c, ()) → cKeepsR_0  p c (cErr p c == 0 && (badL p c).isEmpty) (cErr p c)) : ConOK Go.Proofs.Try.prog 54 cKeepsR := by
  refine lawL (Γ := [(99, cBadLR), (95, cContractedR)]) (Θ := Th) (n := 18) [] ⟨cBadLR_ok, cContractedR_ok, trivial⟩ (by kernel_rfl) th_ok mix_ok Go.Proofs.Try.func54 (by kernel_rfl) ?_
  intro x hw hp Λ hC
  have h0 := h x.1 x.2.1 hw  
  exact Eq.mpr (by kernel_rfl) h0
theorem cKeepsR_ok : ConOK Go.Proofs.Try.prog 54 cKeepsR := by
  refine cKeepsR_law ?_
  intro p c hw
  unfold cKeepsR_0
  refine ⟨trivial, ?_⟩
  by_cases g : cErr p c = 0
  · rw [if_neg (by simp [g]), g]
    refine ⟨cErr_ok g, ?_, rfl, trivial⟩
    cases badL p c
    · rfl
    · simp; omega
  · rw [if_pos (by simpa using g)]
    refine ⟨?_, rfl, trivial⟩
    rw [show (cErr p c == 0) = false by simpa using g]; rfl
abbrev cBadR : Con := { A := (.cons (.sl tL) (.cons tCt .nil)), R := (.cons .int (.cons .int .nil)), pre := fun x => True, F := fun x => ((if cErr x.1 x.2.1 = 0 then ((badL x.1 x.2.1).length : Int) else 0), cErr x.1 x.2.1, ()) }
def cBadR_0  (p : (List Lin)) (c : Ctr) (y0 : Int) (y1 : Int) : Prop :=
  True ∧ (if ((cErr p c) != (0 : Int)) = true then ((0 : Int) = y0 ∧ (cErr p c) = y1 ∧ True) else ((validP p = 0 ∧ validC c = 0) ∧ ((List.length (badL p c) : Int) = y0 ∧ (0 : Int) = y1 ∧ True)))
theorem cBadR_law (h : ∀ (p : (List Lin)) (c : Ctr), cBadR.A.wf (p, c, ()) → cBadR_0  p c (if cErr p c = 0 then ((badL p c).length : Int) else 0) (cErr p c)) : ConOK Go.Proofs.Try.prog 56 cBadR := by
  refine lawL (Γ := [(99, cBadLR), (95, cContractedR)]) (Θ := Th) (n := 17) [] ⟨cBadLR_ok, cContractedR_ok, trivial⟩ (by kernel_rfl) th_ok mix_ok Go.Proofs.Try.func56 (by kernel_rfl) ?_
  intro x hw hp Λ hC
  have h0 := h x.1 x.2.1 hw  
  exact Eq.mpr (by kernel_rfl) h0
theorem cBadR_ok : ConOK Go.Proofs.Try.prog 56 cBadR := by
  refine cBadR_law ?_
  intro p c hw
  unfold cBadR_0
  refine ⟨trivial, ?_⟩
  by_cases g : cErr p c = 0
  · rw [if_neg (by simp [g]), if_pos g, g]
    exact ⟨cErr_ok g, rfl, rfl, trivial⟩
  · rw [if_pos (by simpa using g), if_neg g]
    exact ⟨rfl, rfl, trivial⟩
abbrev cFirstR : Con := { A := (.cons (.sl tL) (.cons tCt .nil)), R := (.cons (.sl .int) (.cons .bool (.cons .int .nil))), pre := fun x => True, F := fun x => ((if cErr x.1 x.2.1 = 0 then (badL x.1 x.2.1).headD [] else []), (cErr x.1 x.2.1 == 0 && !(badL x.1 x.2.1).isEmpty), cErr x.1 x.2.1, ()), al := true }
def cFirstR_0  (p : (List Lin)) (c : Ctr) (y0 : (List Int)) (y1 : Bool) (y2 : Int) : Prop :=
  True ∧ (if ((cErr p c) != (0 : Int)) = true then (([] : List Int) = y0 ∧ false = y1 ∧ (cErr p c) = y2 ∧ True) else ((validP p = 0 ∧ validC c = 0) ∧ (if ((List.length (badL p c) : Int) == (0 : Int)) = true then (([] : List Int) = y0 ∧ false = y1 ∧ (0 : Int) = y2 ∧ True) else (idx (0 : Int) (List.length (badL p c) : Int) ∧ ((List.getD (badL p c) (Int.toNat (0 : Int)) ([] : List Int)) = y0 ∧ true = y1 ∧ (0 : Int) = y2 ∧ True)))))
theorem cFirstR_law (h : ∀ (p : (List Lin)) (c : Ctr), cFirstR.A.wf (p, c, ()) → cFirstR_0  p c (if cErr p c = 0 then (badL p c).headD [] else []) (cErr p c == 0 && !(badL p c).isEmpty) (cErr p c)) : ConOK Go.Proofs.Try.prog 50 cFirstR := by
  refine lawL (Γ := [(99, cBadLR), (95, cContractedR)]) (Θ := Th) (n := 24) [] ⟨cBadLR_ok, cContractedR_ok, trivial⟩ (by kernel_rfl) th_ok mix_ok Go.Proofs.Try.func50 (by kernel_rfl) ?_
  intro x hw hp Λ hC
  have h0 := h x.1 x.2.1 hw  
  exact Eq.mpr (by kernel_rfl) h0
theorem cFirstR_ok : ConOK Go.Proofs.Try.prog 50 cFirstR := by
  refine cFirstR_law ?_
  intro p c hw
  unfold cFirstR_0
  refine ⟨trivial, ?_⟩
  by_cases g : cErr p c = 0
  · rw [if_neg (by simp [g]), if_pos g, g]
    refine ⟨cErr_ok g, ?_⟩
    cases badL p c with
    | nil => exact ⟨rfl, rfl, rfl, trivial⟩
    | cons a t =>
      rw [if_neg (by simp; omega)]
      exact ⟨⟨by omega, by simp⟩, rfl, rfl, rfl, trivial⟩
  · rw [if_pos (by simpa using g), if_neg g]
    refine ⟨rfl, ?_, rfl, trivial⟩
    rw [show (cErr p c == 0) = false by simpa using g]; rfl
end Go.Tk
/- The extremes, and the first state in which two programs differ (layer 2). -/
set_option linter.unusedSimpArgs false
set_option linter.unusedVariables false
namespace Go.Tk
open Go Go.RowKit

theorem take_getD {α : Type} (d : α) {l : List α} {i : Nat} (hi : i < l.length) : l.take (i + 1) = l.take i ++ [l.getD i d] := by
  rw [List.take_add_one, List.getElem?_eq_getElem hi, List.getD_eq_getElem?_getD, List.getElem?_eq_getElem hi]; rfl
theorem firstErr_two (p q : List Lin) : firstErr [p, q] = if validP p = 0 then validP q else validP p := by
  show (if validP p = 0 then firstErr [q] else validP p) = _
  rw [firstErr_one]
theorem cErr2_eq (p q : List Lin) (c : Ctr) : (if firstErr [p, q] = 0 then validC c else firstErr [p, q]) = cErr2 p q c := by
  rw [firstErr_two]
  unfold cErr2 cErr
  by_cases g : validP p = 0
  · rw [if_pos g, if_pos g]
  · rw [if_neg g, if_neg g, if_neg g]
theorem cErr2_ok {p q : List Lin} {c : Ctr} (h : cErr2 p q c = 0) : validP p = 0 ∧ validP q = 0 ∧ validC c = 0 := by
  unfold cErr2 at h
  by_cases g : validP p = 0
  · rw [if_pos g] at h; exact ⟨g, cErr_ok h⟩
  · rw [if_neg g] at h; exact absurd h g

abbrev cExtremes : Con := { A := (.cons (.sl tL) (.cons tCt .nil)), R := (.cons .int (.cons .int (.cons .int .nil))), pre := fun x => True, F := fun x => (minE x.1 x.2.1, maxE x.1 x.2.1, cErr x.1 x.2.1, ()) }
def cExtremes_0 (Λ1 : Int → Int → Nat → Prop) (p : (List Lin)) (c : Ctr) (y0 : Int) (y1 : Int) (y2 : Int) : Prop :=
  True ∧ (if (((if firstErr [p] = 0 then validC c else firstErr [p])) != (0 : Int)) = true then ((0 : Int) = y0 ∧ (0 : Int) = y1 ∧ ((if firstErr [p] = 0 then validC c else firstErr [p])) = y2 ∧ True) else (True ∧ (((boxC c, seqC c)).1 ∧ Λ1 999 (-999) 0)))
def cExtremes_1 (Λ1 : Int → Int → Nat → Prop) (p : (List Lin)) (c : Ctr) (y0 : Int) (y1 : Int) (y2 : Int)  (least_1 : Int) (most_1 : Int) (k_1 : Nat) : Prop :=
  (∀ e1 : ((List Int) × Unit), (((boxC c, seqC c)).2)[k_1]? = some e1 → ((validP p = 0 ∧ validS e1.1 = true ∧ 0 ≤ c.2.2.1 ∧ c.2.2.1 ≤ 3) ∧ Λ1 (min least_1 (Rg (runS p e1.1) c.2.2.1)) (max most_1 (Rg (runS p e1.1) c.2.2.1)) (k_1 + 1))) ∧ (List.length (((boxC c, seqC c)).2) ≤ k_1 → (least_1 = y0 ∧ most_1 = y1 ∧ (0 : Int) = y2 ∧ True))
theorem cExtremes_law (h : ∀ (p : (List Lin)) (c : Ctr), cExtremes.A.wf (p, c, ()) → ∀ (Λ1 : Int → Int → Nat → Prop), (∀ (least_1 : Int) (most_1 : Int) (k_1 : Nat), cExtremes_1 Λ1 p c (minE p c) (maxE p c) (cErr p c) least_1 most_1 k_1 → Λ1 least_1 most_1 k_1) → cExtremes_0 Λ1 p c (minE p c) (maxE p c) (cErr p c)) : ConOK Go.Proofs.Try.prog 52 cExtremes := by
  refine lawL (Γ := [(92, cContracted), (75, cEnd), (100, cStates)]) (Θ := Th) (n := 35) [([1, 1, 1, 0, 1, 0], ⟨[(2, true), (3, true), (4, true), (5, true), (6, true), (8, true), (9, true)], [(2, false), (3, false), (8, true), (9, true), (4000000, true)]⟩)] ⟨cContracted_ok, cEnd_ok, cStates_ok, trivial⟩ (by kernel_rfl) th_ok mix_ok Go.Proofs.Try.func52 (by kernel_rfl) ?_
  intro x hw hp Λ hC
  have h0 := h x.1 x.2.1 hw (fun least_1 most_1 k_1 => Λ [1, 1, 1, 0, 1, 0] ([(2, .ptr 2 0 []), (3, .ptr 3 0 []), (4, .d true .int 0), (5, .d true .int 0), (6, .d true .int 0), (8, .ptr 8 0 []), (9, .ptr 9 0 [])], [(2, .box false (.sl tL) x.1), (3, .box false tCt x.2.1), (8, .box true .int least_1), (9, .box true .int most_1), (4000000, .rg true (.cons (.sl .int) .nil) (((boxC x.2.1, seqC x.2.1)).2) k_1)])) (fun least_1 most_1 k_1 hb => hC [1, 1, 1, 0, 1, 0] ([(2, .ptr 2 0 []), (3, .ptr 3 0 []), (4, .d true .int 0), (5, .d true .int 0), (6, .d true .int 0), (8, .ptr 8 0 []), (9, .ptr 9 0 [])], [(2, .box false (.sl tL) x.1), (3, .box false tCt x.2.1), (8, .box true .int least_1), (9, .box true .int most_1), (4000000, .rg true (.cons (.sl .int) .nil) (((boxC x.2.1, seqC x.2.1)).2) k_1)]) (Eq.mpr (by kernel_rfl) hb))
  exact Eq.mpr (by kernel_rfl) h0
theorem cExtremes_ok : ConOK Go.Proofs.Try.prog 52 cExtremes := by
  refine cExtremes_law ?_
  intro p c hw Λ1 h1
  unfold cExtremes_0
  rw [firstErr_one]
  refine ⟨trivial, ?_⟩
  by_cases g : cErr p c = 0
  · rw [if_neg (by simpa [cErr] using g)]
    obtain ⟨g1, g2⟩ := cErr_ok g
    obtain ⟨g3, g4⟩ := validC_ok g2
    obtain ⟨hb, ho, _⟩ := isCtr_box g3
    refine ⟨trivial, hb, ?_⟩
    have key : ∀ n k, n + k = (statesC c).length → Λ1 (((statesC c).take k).foldl (fun a s => min a (Rg (runS p s) c.2.2.1)) 999) (((statesC c).take k).foldl (fun a s => max a (Rg (runS p s) c.2.2.1)) (-999)) k := by
      intro n
      induction n with
      | zero =>
        intro k hk
        apply h1; unfold cExtremes_1
        refine ⟨fun e1 he => ?_, fun _ => ?_⟩
        · rw [List.getElem?_eq_none (by rw [seqC_len]; omega)] at he
          cases he
        · rw [List.take_of_length_le (by omega)]
          unfold minE maxE
          rw [if_pos g, if_pos g]
          exact ⟨rfl, rfl, g.symm, trivial⟩
      | succ n ih =>
        intro k hk
        apply h1; unfold cExtremes_1
        refine ⟨fun e1 he => ?_, fun h => absurd h (by rw [seqC_len]; omega)⟩
        obtain ⟨s, u⟩ := e1
        have he' := seqC_get.1 he
        have hv := stateC_valid hb (List.mem_of_getElem? he')
        refine ⟨⟨g1, hv, ho.1, ho.2⟩, ?_⟩
        have := ih (k + 1) (by omega)
        rw [List.take_add_one, he', List.foldl_append, List.foldl_append] at this
        exact this
    exact key _ 0 (Nat.add_zero _)
  · have g' : ¬ (if validP p = 0 then validC c else validP p) = 0 := g
    rw [if_pos (by simpa using g')]
    unfold minE maxE
    rw [if_neg g, if_neg g]
    exact ⟨rfl, rfl, rfl, trivial⟩
abbrev cDiffer1 : Con := { A := (.cons (.sl .int) (.cons (.ref (.sl tL)) (.cons (.ref tCt) (.cons (.ref (.sl tL)) .nil)))), R := (.cons .bool .nil), pre := fun x => validP x.2.1 = 0 ∧ validP x.2.2.2.1 = 0 ∧ validS x.1 = true ∧ 0 ≤ x.2.2.1.2.2.1 ∧ x.2.2.1.2.2.1 ≤ 3, F := fun x => (decide (Rg (runS x.2.1 x.1) x.2.2.1.2.2.1 ≠ Rg (runS x.2.2.2.1 x.1) x.2.2.1.2.2.1), ()) }
def cDiffer1_0  (in_ : (List Int)) (c0 : (List Lin)) (c1 : Ctr) (c2 : (List Lin)) (y0 : Bool) : Prop :=
  (validP c0 = 0 ∧ validS in_ = true ∧ 0 ≤ c1.2.2.1 ∧ c1.2.2.1 ≤ 3) ∧ ((validP c2 = 0 ∧ validS in_ = true ∧ 0 ≤ c1.2.2.1 ∧ c1.2.2.1 ≤ 3) ∧ (((Rg (runS c0 in_) c1.2.2.1) != (Rg (runS c2 in_) c1.2.2.1)) = y0 ∧ True))
theorem cDiffer1_law (h : ∀ (in_ : (List Int)) (c0 : (List Lin)) (c1 : Ctr) (c2 : (List Lin)), cDiffer1.A.wf (in_, c0, c1, c2, ()) → (validP c0 = 0 ∧ validP c2 = 0 ∧ validS in_ = true ∧ 0 ≤ c1.2.2.1 ∧ c1.2.2.1 ≤ 3) → cDiffer1_0  in_ c0 c1 c2 (decide (Rg (runS c0 in_) c1.2.2.1 ≠ Rg (runS c2 in_) c1.2.2.1))) : ConOK Go.Proofs.Try.prog 94 cDiffer1 := by
  refine lawL (Γ := [(75, cEnd)]) (Θ := Th) (n := 17) [] ⟨cEnd_ok, trivial⟩ (by kernel_rfl) th_ok mix_ok Go.Proofs.Try.func94 (by kernel_rfl) ?_
  intro x hw hp Λ hC
  have h0 := h x.1 x.2.1 x.2.2.1 x.2.2.2.1 hw hp  
  exact Eq.mpr (by kernel_rfl) h0
theorem cDiffer1_ok : ConOK Go.Proofs.Try.prog 94 cDiffer1 := by
  refine cDiffer1_law ?_
  intro in_ c0 c1 c2 hw hp
  unfold cDiffer1_0
  obtain ⟨p1, p2, p3⟩ := hp
  refine ⟨⟨p1, p3⟩, ⟨p2, p3⟩, ?_, trivial⟩
  rw [Bool.eq_iff_iff]; simp
abbrev cDiffer : Con := { A := (.cons (.sl tL) (.cons (.sl tL) (.cons tCt .nil))), R := (.cons (.sl .int) (.cons .bool (.cons .int .nil))), pre := fun x => True, F := fun x => ((if cErr2 x.1 x.2.1 x.2.2.1 = 0 then (difL x.1 x.2.1 x.2.2.1).headD [] else []), (cErr2 x.1 x.2.1 x.2.2.1 == 0 && !(difL x.1 x.2.1 x.2.2.1).isEmpty), cErr2 x.1 x.2.1 x.2.2.1, ()) }
def cDiffer_0  (p : (List Lin)) (q : (List Lin)) (c : Ctr) (y0 : (List Int)) (y1 : Bool) (y2 : Int) : Prop :=
  True ∧ (if (((if firstErr [p, q] = 0 then validC c else firstErr [p, q])) != (0 : Int)) = true then (([] : List Int) = y0 ∧ false = y1 ∧ ((if firstErr [p, q] = 0 then validC c else firstErr [p, q])) = y2 ∧ True) else ((boxC c ∧ ∀ s' ∈ statesC c, (fun (xx : ((List Int) × Unit)) => validP p = 0 ∧ validP q = 0 ∧ validS xx.1 = true ∧ 0 ≤ c.2.2.1 ∧ c.2.2.1 ≤ 3, fun (xx : ((List Int) × Unit)) => (decide (Rg (runS p xx.1) c.2.2.1 ≠ Rg (runS q xx.1) c.2.2.1), ())).1 (s', ())) ∧ (((((statesC c).filter (fun s' => ((fun (xx : ((List Int) × Unit)) => validP p = 0 ∧ validP q = 0 ∧ validS xx.1 = true ∧ 0 ≤ c.2.2.1 ∧ c.2.2.1 ≤ 3, fun (xx : ((List Int) × Unit)) => (decide (Rg (runS p xx.1) c.2.2.1 ≠ Rg (runS q xx.1) c.2.2.1), ())).2 (s', ())).1)).headD [])) = y0 ∧ ((!((statesC c).filter (fun s' => ((fun (xx : ((List Int) × Unit)) => validP p = 0 ∧ validP q = 0 ∧ validS xx.1 = true ∧ 0 ≤ c.2.2.1 ∧ c.2.2.1 ≤ 3, fun (xx : ((List Int) × Unit)) => (decide (Rg (runS p xx.1) c.2.2.1 ≠ Rg (runS q xx.1) c.2.2.1), ())).2 (s', ())).1)).isEmpty)) = y1 ∧ (0 : Int) = y2 ∧ True)))
theorem cDiffer_law (h : ∀ (p : (List Lin)) (q : (List Lin)) (c : Ctr), cDiffer.A.wf (p, q, c, ()) → cDiffer_0  p q c (if cErr2 p q c = 0 then (difL p q c).headD [] else []) (cErr2 p q c == 0 && !(difL p q c).isEmpty) (cErr2 p q c)) : ConOK Go.Proofs.Try.prog 47 cDiffer := by
  refine lawX (X := { subs := [], frz := [3, 4, 5], U := [], mul := [], nst := [], nls := [], itf := none, inp := [], arrs := [] }) (hX := xok0 _ trivial) (Γ := [(92, cContracted), (94, cDiffer1), (93, cFirst0)]) (Θ := Th) (n := 28) [] ⟨cContracted_ok, cDiffer1_ok, cFirst0_ok, trivial⟩ (by kernel_rfl) th_ok mix_ok Go.Proofs.Try.func47 (by kernel_rfl) ?_
  intro x hw hp Λ hC
  have h0 := h x.1 x.2.1 x.2.2.1 hw  
  exact Eq.mpr (by kernel_rfl) h0
theorem cDiffer_ok : ConOK Go.Proofs.Try.prog 47 cDiffer := by
  refine cDiffer_law ?_
  intro p q c hw
  unfold cDiffer_0
  rw [cErr2_eq]
  refine ⟨trivial, ?_⟩
  by_cases g : cErr2 p q c = 0
  · rw [if_neg (by simp [g])]
    obtain ⟨g1, g1', g2⟩ := cErr2_ok g
    obtain ⟨g3, g4⟩ := validC_ok g2
    obtain ⟨hb, ho, _⟩ := isCtr_box g3
    refine ⟨⟨hb, fun s' hs => ⟨g1, g1', stateC_valid hb hs, ho.1, ho.2⟩⟩, ?_, ?_, g.symm, trivial⟩
    · rw [if_pos g]; rfl
    · rw [g]; rfl
  · rw [if_pos (by simpa using g), if_neg g]
    refine ⟨rfl, ?_, rfl, trivial⟩
    rw [show (cErr2 p q c == 0) = false by simpa using g]; rfl
abbrev cExtremesR : Con := { A := (.cons (.sl tL) (.cons tCt .nil)), R := (.cons .int (.cons .int (.cons .int .nil))), pre := fun x => True, F := fun x => (minE x.1 x.2.1, maxE x.1 x.2.1, cErr x.1 x.2.1, ()) }
def cExtremesR_0 (Λ1 : Int → Int → Int → Prop) (p : (List Lin)) (c : Ctr) (y0 : Int) (y1 : Int) (y2 : Int) : Prop :=
  True ∧ (if ((cErr p c) != (0 : Int)) = true then ((0 : Int) = y0 ∧ (0 : Int) = y1 ∧ (cErr p c) = y2 ∧ True) else (validC c = 0 ∧ Λ1 (999 : Int) (-999 : Int) (0 : Int)))
def cExtremesR_1 (Λ1 : Int → Int → Int → Prop) (p : (List Lin)) (c : Ctr) (y0 : Int) (y1 : Int) (y2 : Int)  (lo_1 : Int) (hi_1 : Int) (i_1 : Int) : Prop :=
  if (decide (i_1 < (List.length (statesC c) : Int))) = true then (idx i_1 (List.length (statesC c) : Int) ∧ ((validP p = 0 ∧ validS (List.getD (statesC c) (Int.toNat i_1) ([] : List Int)) = true ∧ 0 ≤ c.2.2.1 ∧ c.2.2.1 ≤ 3) ∧ (inI (i_1 + (1 : Int)) ∧ Λ1 (min lo_1 (Rg (runS p (List.getD (statesC c) (Int.toNat i_1) ([] : List Int))) c.2.2.1)) (max hi_1 (Rg (runS p (List.getD (statesC c) (Int.toNat i_1) ([] : List Int))) c.2.2.1)) (i_1 + (1 : Int))))) else (lo_1 = y0 ∧ hi_1 = y1 ∧ (0 : Int) = y2 ∧ True)
theorem cExtremesR_law (h : ∀ (p : (List Lin)) (c : Ctr), cExtremesR.A.wf (p, c, ()) → ∀ (Λ1 : Int → Int → Int → Prop), (∀ (lo_1 : Int) (hi_1 : Int) (i_1 : Int), cExtremesR_1 Λ1 p c (minE p c) (maxE p c) (cErr p c) lo_1 hi_1 i_1 → Λ1 lo_1 hi_1 i_1) → cExtremesR_0 Λ1 p c (minE p c) (maxE p c) (cErr p c)) : ConOK Go.Proofs.Try.prog 53 cExtremesR := by
  refine lawL (Γ := [(95, cContractedR), (72, cMade), (96, cStatesR)]) (Θ := Th) (n := 43) [([1, 1, 1, 1, 0, 1, 0], ⟨[(0, false), (3, true), (8, true), (9, true), (10, false), (11, true)], [(3, false)]⟩)] ⟨cContractedR_ok, cMade_ok, cStatesR_ok, trivial⟩ (by kernel_rfl) th_ok mix_ok Go.Proofs.Try.func53 (by kernel_rfl) ?_
  intro x hw hp Λ hC
  have h0 := h x.1 x.2.1 hw (fun lo_1 hi_1 i_1 => Λ [1, 1, 1, 1, 0, 1, 0] ([(0, .d false (.sl tL) x.1), (3, .ptr 3 0 []), (8, .d true .int lo_1), (9, .d true .int hi_1), (10, .d false (.sl (.sl .int)) (statesC x.2.1)), (11, .d true .int i_1)], [(3, .box false tCt x.2.1)])) (fun lo_1 hi_1 i_1 hb => hC [1, 1, 1, 1, 0, 1, 0] ([(0, .d false (.sl tL) x.1), (3, .ptr 3 0 []), (8, .d true .int lo_1), (9, .d true .int hi_1), (10, .d false (.sl (.sl .int)) (statesC x.2.1)), (11, .d true .int i_1)], [(3, .box false tCt x.2.1)]) (Eq.mpr (by kernel_rfl) hb))
  exact Eq.mpr (by kernel_rfl) h0
theorem cExtremesR_ok : ConOK Go.Proofs.Try.prog 53 cExtremesR := by
  refine cExtremesR_law ?_
  intro p c hw Λ1 h1
  unfold cExtremesR_0
  refine ⟨trivial, ?_⟩
  unfold minE maxE at h1 ⊢
  by_cases g : cErr p c = 0
  · rw [if_neg (by simp [g])]
    obtain ⟨g1, g2⟩ := cErr_ok g
    obtain ⟨g3, g4⟩ := validC_ok g2
    obtain ⟨hb, ho, _⟩ := isCtr_box g3
    have hlen := statesC_len hb
    refine ⟨g2, ?_⟩
    rw [if_pos g, if_pos g] at h1
    have key := upto (n := (statesC c).length) (Q := fun i => Λ1 (((statesC c).take i).foldl (fun a s => min a (Rg (runS p s) c.2.2.1)) 999) (((statesC c).take i).foldl (fun a s => max a (Rg (runS p s) c.2.2.1)) (-999)) (i : Int)) ?_ ?_ 0 (Nat.zero_le _)
    · exact key
    · apply h1; unfold cExtremesR_1
      rw [if_neg (by simp), List.take_length]
      exact ⟨rfl, rfl, g.symm, trivial⟩
    · intro i hi ih
      apply h1; unfold cExtremesR_1
      rw [if_pos (by simpa using hi), Int.toNat_natCast]
      have hm : (statesC c).getD i [] ∈ statesC c := mem_getD hi
      refine ⟨idx_nat hi, ⟨g1, stateC_valid hb hm, ho.1, ho.2⟩, inI_succ hi (by omega), ?_⟩
      rw [take_getD [] hi, List.foldl_append, List.foldl_append] at ih
      exact ih
  · rw [if_pos (by simpa using g), if_neg g, if_neg g]
    exact ⟨rfl, rfl, rfl, trivial⟩
abbrev cDifferR : Con := { A := (.cons (.sl tL) (.cons (.sl tL) (.cons tCt .nil))), R := (.cons (.sl .int) (.cons .bool (.cons .int .nil))), pre := fun x => True, F := fun x => ((if cErr2 x.1 x.2.1 x.2.2.1 = 0 then (difL x.1 x.2.1 x.2.2.1).headD [] else []), (cErr2 x.1 x.2.1 x.2.2.1 == 0 && !(difL x.1 x.2.1 x.2.2.1).isEmpty), cErr2 x.1 x.2.1 x.2.2.1, ()), al := true }
def cDifferR_0 (Λ1 : Int → Prop) (p : (List Lin)) (q : (List Lin)) (c : Ctr) (y0 : (List Int)) (y1 : Bool) (y2 : Int) : Prop :=
  True ∧ (if ((validP p) != (0 : Int)) = true then (([] : List Int) = y0 ∧ false = y1 ∧ (validP p) = y2 ∧ True) else (True ∧ (if ((cErr q c) != (0 : Int)) = true then (([] : List Int) = y0 ∧ false = y1 ∧ (cErr q c) = y2 ∧ True) else (validC c = 0 ∧ Λ1 (0 : Int)))))
def cDifferR_1 (Λ1 : Int → Prop) (p : (List Lin)) (q : (List Lin)) (c : Ctr) (y0 : (List Int)) (y1 : Bool) (y2 : Int)  (i_1 : Int) : Prop :=
  if (decide (i_1 < (List.length (statesC c) : Int))) = true then (idx i_1 (List.length (statesC c) : Int) ∧ ((validP p = 0 ∧ validS (List.getD (statesC c) (Int.toNat i_1) ([] : List Int)) = true ∧ 0 ≤ c.2.2.1 ∧ c.2.2.1 ≤ 3) ∧ (idx i_1 (List.length (statesC c) : Int) ∧ ((validP q = 0 ∧ validS (List.getD (statesC c) (Int.toNat i_1) ([] : List Int)) = true ∧ 0 ≤ c.2.2.1 ∧ c.2.2.1 ≤ 3) ∧ (if ((Rg (runS p (List.getD (statesC c) (Int.toNat i_1) ([] : List Int))) c.2.2.1) != (Rg (runS q (List.getD (statesC c) (Int.toNat i_1) ([] : List Int))) c.2.2.1)) = true then (idx i_1 (List.length (statesC c) : Int) ∧ ((List.getD (statesC c) (Int.toNat i_1) ([] : List Int)) = y0 ∧ true = y1 ∧ (0 : Int) = y2 ∧ True)) else (inI (i_1 + (1 : Int)) ∧ Λ1 (i_1 + (1 : Int)))))))) else (([] : List Int) = y0 ∧ false = y1 ∧ (0 : Int) = y2 ∧ True)
theorem cDifferR_law (h : ∀ (p : (List Lin)) (q : (List Lin)) (c : Ctr), cDifferR.A.wf (p, q, c, ()) → ∀ (Λ1 : Int → Prop), (∀ (i_1 : Int), cDifferR_1 Λ1 p q c (if cErr2 p q c = 0 then (difL p q c).headD [] else []) (cErr2 p q c == 0 && !(difL p q c).isEmpty) (cErr2 p q c) i_1 → Λ1 i_1) → cDifferR_0 Λ1 p q c (if cErr2 p q c = 0 then (difL p q c).headD [] else []) (cErr2 p q c == 0 && !(difL p q c).isEmpty) (cErr2 p q c)) : ConOK Go.Proofs.Try.prog 48 cDifferR := by
  refine lawL (Γ := [(95, cContractedR), (72, cMade), (96, cStatesR), (76, cValPR)]) (Θ := Th) (n := 53) [([1, 1, 1, 1, 0, 1, 0], ⟨[(0, false), (1, false), (5, true), (11, false), (12, true)], [(5, false)]⟩)] ⟨cContractedR_ok, cMade_ok, cStatesR_ok, cValPR_ok, trivial⟩ (by kernel_rfl) th_ok mix_ok Go.Proofs.Try.func48 (by kernel_rfl) ?_
  intro x hw hp Λ hC
  have h0 := h x.1 x.2.1 x.2.2.1 hw (fun i_1 => Λ [1, 1, 1, 1, 0, 1, 0] ([(0, .d false (.sl tL) x.1), (1, .d false (.sl tL) x.2.1), (5, .ptr 5 0 []), (11, .d false (.sl (.sl .int)) (statesC x.2.2.1)), (12, .d true .int i_1)], [(5, .box false tCt x.2.2.1)])) (fun i_1 hb => hC [1, 1, 1, 1, 0, 1, 0] ([(0, .d false (.sl tL) x.1), (1, .d false (.sl tL) x.2.1), (5, .ptr 5 0 []), (11, .d false (.sl (.sl .int)) (statesC x.2.2.1)), (12, .d true .int i_1)], [(5, .box false tCt x.2.2.1)]) (Eq.mpr (by kernel_rfl) hb))
  exact Eq.mpr (by kernel_rfl) h0
theorem cDifferR_ok : ConOK Go.Proofs.Try.prog 48 cDifferR := by
  refine cDifferR_law ?_
  intro p q c hw Λ1 h1
  unfold cDifferR_0
  refine ⟨trivial, ?_⟩
  by_cases g1 : validP p = 0
  · rw [if_neg (by simp [g1])]
    have e2 : cErr2 p q c = cErr q c := by unfold cErr2; rw [if_pos g1]
    refine ⟨trivial, ?_⟩
    by_cases g : cErr q c = 0
    · rw [if_neg (by simp [g])]
      obtain ⟨g1', g2⟩ := cErr_ok g
      obtain ⟨g3, g4⟩ := validC_ok g2
      obtain ⟨hb, ho, _⟩ := isCtr_box g3
      have hlen := statesC_len hb
      refine ⟨g2, ?_⟩
      have ee : cErr2 p q c = 0 := by rw [e2]; exact g
      refine upto (n := (statesC c).length) (Q := fun i => ((statesC c).take i).find? (fun s => decide (Rg (runS p s) c.2.2.1 ≠ Rg (runS q s) c.2.2.1)) = none → Λ1 (i : Int)) ?_ ?_ 0 (Nat.zero_le _) rfl
      · intro hn
        apply h1; unfold cDifferR_1
        rw [List.take_length] at hn
        rw [if_neg (by simp), if_pos ee, ee]
        unfold difL
        rw [← find_head, ← find_some, hn]
        exact ⟨rfl, rfl, rfl, trivial⟩
      · intro i hi ih hn
        apply h1; unfold cDifferR_1
        have hm : (statesC c).getD i [] ∈ statesC c := mem_getD hi
        have hs : (statesC c)[i]? = some ((statesC c).getD i []) := by
          rw [List.getD_eq_getElem?_getD, List.getElem?_eq_getElem hi]; rfl
        rw [if_pos (by simpa using hi), Int.toNat_natCast]
        refine ⟨idx_nat hi, ⟨g1, stateC_valid hb hm, ho.1, ho.2⟩, idx_nat hi, ⟨g1', stateC_valid hb hm, ho.1, ho.2⟩, ?_⟩
        by_cases hd : Rg (runS p ((statesC c).getD i [])) c.2.2.1 = Rg (runS q ((statesC c).getD i [])) c.2.2.1
        · rw [if_neg (by simpa using hd)]
          exact ⟨inI_succ hi (by omega), ih (find_next hn hs (by simpa using hd))⟩
        · rw [if_pos (by simpa using hd), if_pos ee, ee]
          unfold difL
          rw [← find_head, ← find_some, find_at hn hs (by simpa using hd)]
          exact ⟨idx_nat hi, rfl, rfl, rfl, trivial⟩
    · rw [if_pos (by simpa using g)]
      have ee : ¬ cErr2 p q c = 0 := by rw [e2]; exact g
      rw [if_neg ee, e2]
      refine ⟨rfl, ?_, rfl, trivial⟩
      rw [show (cErr q c == 0) = false by simpa using g]; rfl
  · rw [if_pos (by simpa using g1)]
    have e2 : cErr2 p q c = validP p := by unfold cErr2; rw [if_neg g1]
    have ee : ¬ cErr2 p q c = 0 := by rw [e2]; exact g1
    rw [if_neg ee, e2]
    refine ⟨rfl, ?_, rfl, trivial⟩
    rw [show (validP p == 0) = false by simpa using g1]; rfl
theorem fold_min_le (f : List Int → Int) (m : Int) : ∀ (l : List (List Int)) (a : Int), (m ≤ l.foldl (fun a s => min a (f s)) a) ↔ m ≤ a ∧ ∀ s ∈ l, m ≤ f s
  | [], a => by simp
  | x :: l, a => by
    rw [List.foldl_cons, fold_min_le f m l]
    simp only [List.mem_cons, forall_eq_or_imp]
    rw [Int.le_min, and_assoc]
theorem fold_le_max (f : List Int → Int) (m : Int) : ∀ (l : List (List Int)) (a : Int), (l.foldl (fun a s => max a (f s)) a ≤ m) ↔ a ≤ m ∧ ∀ s ∈ l, f s ≤ m
  | [], a => by simp
  | x :: l, a => by
    rw [List.foldl_cons, fold_le_max f m l]
    simp only [List.mem_cons, forall_eq_or_imp]
    rw [Int.max_le, and_assoc]
theorem min_le_max {p : List Lin} {c : Ctr} (e : cErr p c = 0) : minE p c ≤ maxE p c := by
  have hb := (isCtr_box (validC_ok (cErr_ok e).2).1).1
  have hm : c.1 ∈ statesC c := List.mem_of_getElem? (stateC_head hb)
  unfold minE maxE
  rw [if_pos e, if_pos e]
  have h1 := ((fold_min_le (fun s => Rg (runS p s) c.2.2.1) _ (statesC c) 999).1 (Int.le_refl _)).2 _ hm
  have h2 := ((fold_le_max (fun s => Rg (runS p s) c.2.2.1) _ (statesC c) (-999)).1 (Int.le_refl _)).2 _ hm
  exact Int.le_trans h1 h2
theorem keeps_ext {p : List Lin} {c : Ctr} (e : cErr p c = 0) : (badL p c).isEmpty = (decide (c.2.2.2.1 ≤ minE p c) && decide (maxE p c ≤ c.2.2.2.2.1)) := by
  obtain ⟨hb, ho, hm⟩ := isCtr_box (validC_ok (cErr_ok e).2).1
  unfold minE maxE badL
  rw [if_pos e, if_pos e, Bool.eq_iff_iff, Bool.and_eq_true, decide_eq_true_eq, decide_eq_true_eq, fold_min_le, fold_le_max, List.isEmpty_iff, List.filter_eq_nil_iff]
  constructor
  · intro h
    have w : ∀ s ∈ statesC c, c.2.2.2.1 ≤ Rg (runS p s) c.2.2.1 ∧ Rg (runS p s) c.2.2.1 ≤ c.2.2.2.2.1 := by
      intro s hs
      have := h s hs
      unfold keepS within at this
      simpa using this
    exact ⟨⟨by omega, fun s hs => (w s hs).1⟩, ⟨by omega, fun s hs => (w s hs).2⟩⟩
  · rintro ⟨⟨_, h1⟩, ⟨_, h2⟩⟩ s hs
    have a := h1 s hs
    have b := h2 s hs
    unfold keepS within
    simp [a, b]
theorem difL_self (p : List Lin) (c : Ctr) : difL p p c = [] := by
  unfold difL
  rw [List.filter_eq_nil_iff]
  simp
theorem cErr2_self (p : List Lin) (c : Ctr) : cErr2 p p c = cErr p c := by
  unfold cErr2
  by_cases g : validP p = 0
  · rw [if_pos g]
  · rw [if_neg g]; unfold cErr; rw [if_neg g]
abbrev cExtremesL : Con := { A := (.cons (.sl tL) (.cons tCt .nil)), R := (.cons .bool .nil), pre := fun x => True, F := fun x => (true, ()) }
def cExtremesL_0  (p : (List Lin)) (c : Ctr) (y0 : Bool) : Prop :=
  True ∧ (if (decide (100 < p.length)) = true then (true = true ∧ (True ∧ (true = y0 ∧ True))) else (True ∧ (True ∧ (if (bif false then true else (decide (100 < c.1.length ∨ 100 < c.2.1.length))) = true then (True ∧ (true = y0 ∧ True)) else (True ∧ (True ∧ (if ((minE p c) != (minE p c)) = true then (true = true ∧ (true = true ∧ (false = y0 ∧ True))) else (True ∧ (if (bif false then true else ((maxE p c) != (maxE p c))) = true then (true = true ∧ (false = y0 ∧ True)) else (True ∧ (if (bif false then true else ((cErr p c) != (cErr p c))) = true then (false = y0 ∧ True) else (True ∧ (if ((cErr p c) != (0 : Int)) = true then (true = true ∧ (True ∧ (True ∧ ((bif true then true else false) = y0 ∧ True)))) else (if ((cErr p c) == (0 : Int)) = true then (True ∧ (if (bif true then (decide ((minE p c) ≤ (maxE p c))) else false) = true then (if (decide ((minE p c) ≥ c.2.2.2.1)) = true then (True ∧ (True ∧ (True ∧ (if (bif false then true else (bif true then (((cErr p c == 0 && (badL p c).isEmpty)) == (bif true then (decide ((maxE p c) ≤ c.2.2.2.2.1)) else false)) else false)) = true then (True ∧ (True ∧ ((bif true then true else false) = y0 ∧ True))) else (false = false ∧ (false = y0 ∧ True)))))) else (false = false ∧ (True ∧ (True ∧ (if (bif false then true else (bif true then (((cErr p c == 0 && (badL p c).isEmpty)) == false) else false)) = true then (True ∧ (True ∧ ((bif true then true else false) = y0 ∧ True))) else (false = false ∧ (false = y0 ∧ True))))))) else (false = false ∧ (True ∧ (if (bif false then true else false) = true then (True ∧ (True ∧ ((bif true then true else false) = y0 ∧ True))) else (false = false ∧ (false = y0 ∧ True))))))) else (false = false ∧ (false = false ∧ (True ∧ (if (bif false then true else false) = true then (True ∧ (True ∧ ((bif true then true else false) = y0 ∧ True))) else (false = false ∧ (false = y0 ∧ True))))))))))))))))))))
theorem cExtremesL_law (h : ∀ (p : (List Lin)) (c : Ctr), cExtremesL.A.wf (p, c, ()) → cExtremesL_0  p c true) : ConOK Go.Proofs.Try.prog 13 cExtremesL := by
  refine lawL (Γ := [(52, cExtremes), (53, cExtremesR), (51, cKeeps), (18, cKnown2), (16, cLongL), (22, cWide)]) (Θ := Th) (n := 81) [] ⟨cExtremes_ok, cExtremesR_ok, cKeeps_ok, cKnown2_ok, cLongL_ok, cWide_ok, trivial⟩ (by kernel_rfl) th_ok mix_ok Go.Proofs.Try.func13 (by kernel_rfl) ?_
  intro x hw hp Λ hC
  have h0 := h x.1 x.2.1 hw  
  exact Eq.mpr (by kernel_rfl) h0
theorem cExtremesL_ok : ConOK Go.Proofs.Try.prog 13 cExtremesL := by
  refine cExtremesL_law ?_
  intro p c hw
  unfold cExtremesL_0
  by_cases c1 : 100 < p.length
  · simp [c1]
  by_cases c2 : 100 < c.1.length ∨ 100 < c.2.1.length
  · simp [c1, c2]
  by_cases e : cErr p c = 0
  · have h1' := min_le_max e
    have h2' := keeps_ext e
    by_cases g : c.2.2.2.1 ≤ minE p c
    · simp [c1, c2, e, h1', h2', g]
    · simp [c1, c2, e, h1', h2', g]
  · simp [c1, c2, e]
abbrev cDiffersL : Con := { A := (.cons (.sl tL) (.cons (.sl tL) (.cons tCt .nil))), R := (.cons .bool .nil), pre := fun x => True, F := fun x => (true, ()) }
def cDiffersL_0  (p : (List Lin)) (q : (List Lin)) (c : Ctr) (y0 : Bool) : Prop :=
  True ∧ (if (decide (100 < p.length)) = true then (true = true ∧ (true = true ∧ (True ∧ (true = y0 ∧ True)))) else (True ∧ (True ∧ (if (bif false then true else (decide (100 < q.length))) = true then (true = true ∧ (True ∧ (true = y0 ∧ True))) else (True ∧ (True ∧ (if (bif false then true else (decide (100 < c.1.length ∨ 100 < c.2.1.length))) = true then (True ∧ (true = y0 ∧ True)) else (True ∧ (True ∧ (((if cErr2 p q c = 0 then (difL p q c).headD [] else [])).length ≤ 1000000 ∧ (if (!(decide (((if cErr2 p q c = 0 then (difL p q c).headD [] else [])) = ((if cErr2 p q c = 0 then (difL p q c).headD [] else []))))) = true then (true = true ∧ (true = true ∧ (false = y0 ∧ True))) else (True ∧ (if (bif false then true else (!(((cErr2 p q c == 0 && !(difL p q c).isEmpty)) == ((cErr2 p q c == 0 && !(difL p q c).isEmpty))))) = true then (true = true ∧ (false = y0 ∧ True)) else (True ∧ (if (bif false then true else ((cErr2 p q c) != (cErr2 p q c))) = true then (false = y0 ∧ True) else (True ∧ (if ((cErr2 p q c) != (0 : Int)) = true then (true = true ∧ (True ∧ (True ∧ ((bif true then true else false) = y0 ∧ True)))) else (if ((cErr2 p p c) == (0 : Int)) = true then (True ∧ (True ∧ (if (bif false then true else (bif true then (!((cErr2 p p c == 0 && !(difL p p c).isEmpty))) else false)) = true then (True ∧ (True ∧ ((bif true then true else false) = y0 ∧ True))) else (false = false ∧ (false = y0 ∧ True))))) else (false = false ∧ (True ∧ (if (bif false then true else false) = true then (True ∧ (True ∧ ((bif true then true else false) = y0 ∧ True))) else (false = false ∧ (false = y0 ∧ True)))))))))))))))))))))))
theorem cDiffersL_law (h : ∀ (p : (List Lin)) (q : (List Lin)) (c : Ctr), cDiffersL.A.wf (p, q, c, ()) → cDiffersL_0  p q c true) : ConOK Go.Proofs.Try.prog 10 cDiffersL := by
  refine lawL (Γ := [(47, cDiffer), (48, cDifferR), (18, cKnown2), (16, cLongL), (32, cSameIntsR), (22, cWide)]) (Θ := Th) (n := 78) [] ⟨cDiffer_ok, cDifferR_ok, cKnown2_ok, cLongL_ok, cSameIntsR_ok, cWide_ok, trivial⟩ (by kernel_rfl) th_ok mix_ok Go.Proofs.Try.func10 (by kernel_rfl) ?_
  intro x hw hp Λ hC
  have h0 := h x.1 x.2.1 x.2.2.1 hw  
  exact Eq.mpr (by kernel_rfl) h0
theorem cDiffersL_ok : ConOK Go.Proofs.Try.prog 10 cDiffersL := by
  refine cDiffersL_law ?_
  intro p q c hw
  unfold cDiffersL_0
  by_cases c1 : 100 < p.length
  · simp [c1]
  by_cases c1' : 100 < q.length
  · simp [c1, c1']
  by_cases c2 : 100 < c.1.length ∨ 100 < c.2.1.length
  · simp [c1, c1', c2]
  by_cases e : cErr2 p q c = 0
  · obtain ⟨g1, g1', g2⟩ := cErr2_ok e
    have es : cErr p c = 0 := by unfold cErr; rw [if_pos g1]; exact g2
    have hl : ((difL p q c).headD []).length ≤ 1000000 := by
      cases hb : difL p q c with
      | nil => simp
      | cons a t =>
        have hm : a ∈ statesC c := (List.mem_filter.1 (show a ∈ difL p q c by rw [hb]; exact List.mem_cons_self ..)).1
        have := ((stateC_iff (isCtr_box (validC_ok g2).1).1).1 hm).1
        show a.length ≤ 1000000
        omega
    have hl' : (if cErr2 p q c = 0 then (difL p q c).headD [] else []).length ≤ 1000000 := by rw [if_pos e]; exact hl
    generalize (difL p q c).headD [] = H at hl hl'
    simp [c1, c1', c2, e, hl, cErr2_self, es, difL_self]
  · simp [c1, c1', c2, e]
end Go.Tk
/- A test that a program makes, as data; the law of the witness (layer 2). -/
set_option linter.unusedSimpArgs false
set_option linter.unusedVariables false
namespace Go.Tk
open Go Go.RowKit

def makeErr (p : List Lin) (s : List Int) (o : Int) : Int := if validP p = 0 then argErr (validS s && isReg o) else validP p
theorem argErr_ok {b : Bool} (h : b = true) : argErr b = 0 := by rw [h]; rfl
theorem argErr_no {b : Bool} (h : b = false) : argErr b = 1 := by rw [h]; rfl
theorem isReg_ok {o : Int} (h : isReg o = true) : 0 ≤ o ∧ o ≤ 3 := within_iff.1 h
abbrev cMake : Con := { A := (.cons (.sl tL) (.cons (.sl .int) (.cons .int .nil))), R := (.cons tTs (.cons .int .nil)), pre := fun x => True, F := fun x => ((if makeErr x.1 x.2.1 x.2.2.1 = 0 then (x.2.1, x.2.2.1, Rg (runS x.1 x.2.1) x.2.2.1, ()) else (([] : List Int), 0, 0, ())), makeErr x.1 x.2.1 x.2.2.1, ()) }
def cMake_0  (p : (List Lin)) (in_ : (List Int)) (out : Int) (y0 : Tst) (y1 : Int) : Prop :=
  True ∧ (if ((validP p) != (0 : Int)) = true then ((([] : List Int), 0, 0, ()) = y0 ∧ (validP p) = y1 ∧ True) else (True ∧ (if (!(validS in_)) = true then (true = true ∧ ((([] : List Int), 0, 0, ()) = y0 ∧ (1 : Int) = y1 ∧ True)) else (True ∧ (True ∧ (if (bif false then true else (!(isReg out))) = true then ((([] : List Int), 0, 0, ()) = y0 ∧ (1 : Int) = y1 ∧ True) else (in_.length ≤ 1000000 ∧ ((validP p = 0 ∧ validS in_ = true ∧ 0 ≤ out ∧ out ≤ 3) ∧ ((in_, out, (Rg (runS p in_) out), ()) = y0 ∧ (0 : Int) = y1 ∧ True)))))))))
theorem cMake_law (h : ∀ (p : (List Lin)) (in_ : (List Int)) (out : Int), cMake.A.wf (p, in_, out, ()) → cMake_0  p in_ out (if makeErr p in_ out = 0 then (in_, out, Rg (runS p in_) out, ()) else (([] : List Int), 0, 0, ())) (makeErr p in_ out)) : ConOK Go.Proofs.Try.prog 44 cMake := by
  refine lawL (Γ := [(91, cCloneS), (75, cEnd), (90, cIsReg2), (89, cIsState), (88, cValP)]) (Θ := Th) (n := 32) [] ⟨cCloneS_ok, cEnd_ok, cIsReg2_ok, cIsState_ok, cValP_ok, trivial⟩ (by kernel_rfl) th_ok mix_ok Go.Proofs.Try.func44 (by kernel_rfl) ?_
  intro x hw hp Λ hC
  have h0 := h x.1 x.2.1 x.2.2.1 hw  
  exact Eq.mpr (by kernel_rfl) h0
theorem cMake_ok : ConOK Go.Proofs.Try.prog 44 cMake := by
  refine cMake_law ?_
  intro p in_ out hw
  unfold cMake_0
  refine ⟨trivial, ?_⟩
  by_cases g1 : validP p = 0
  · rw [if_neg (by simp [g1])]
    refine ⟨trivial, ?_⟩
    cases g2 : validS in_
    · have e : makeErr p in_ out = 1 := by unfold makeErr; rw [if_pos g1, g2]; exact argErr_no rfl
      rw [if_pos (by rfl), e]
      exact ⟨rfl, rfl, rfl, trivial⟩
    · rw [if_neg (by simp)]
      refine ⟨trivial, trivial, ?_⟩
      cases g3 : isReg out
      · have e : makeErr p in_ out = 1 := by unfold makeErr; rw [if_pos g1, g2, g3]; exact argErr_no rfl
        rw [if_pos (by rfl), e]
        exact ⟨rfl, rfl, trivial⟩
      · have e : makeErr p in_ out = 0 := by unfold makeErr; rw [if_pos g1, g2, g3]; exact argErr_ok rfl
        have l := validS_len g2
        rw [if_neg (by simp), e]
        refine ⟨by omega, ⟨g1, rfl, isReg_ok g3⟩, ?_, rfl, trivial⟩
        rw [if_pos rfl]
  · have e : makeErr p in_ out = validP p := by unfold makeErr; rw [if_neg g1]
    rw [if_pos (by simpa using g1), e, if_neg g1]
    exact ⟨rfl, rfl, trivial⟩
abbrev cWitnessL : Con := { A := (.cons (.sl tL) (.cons tCt (.cons (.sl .int) .nil))), R := (.cons .bool .nil), pre := fun x => True, F := fun x => (true, ()) }
def cWitnessL_0 (Λ1 : Int → Prop) (p : (List Lin)) (c : Ctr) (in_ : (List Int)) (y0 : Bool) : Prop :=
  True ∧ (if (decide (100 < p.length)) = true then (true = true ∧ (true = true ∧ (True ∧ (true = y0 ∧ True)))) else (True ∧ (True ∧ (if (bif false then true else (decide (100 < c.1.length ∨ 100 < c.2.1.length))) = true then (true = true ∧ (True ∧ (true = y0 ∧ True))) else (True ∧ (True ∧ (if (bif false then true else (decide (100 < in_.length))) = true then (True ∧ (true = y0 ∧ True)) else (True ∧ (True ∧ (if ((makeErr p in_ c.2.2.1) != (0 : Int)) = true then (true = true ∧ (true = true ∧ (true = true ∧ (True ∧ (true = y0 ∧ True))))) else (True ∧ (if (bif false then true else ((cErr p c) != (0 : Int))) = true then (true = true ∧ (true = true ∧ (True ∧ (true = y0 ∧ True)))) else (True ∧ (if (bif false then true else ((List.length c.1 : Int) != (List.length in_ : Int))) = true then (true = true ∧ (True ∧ (true = y0 ∧ True))) else (True ∧ (if (bif false then true else ((List.length c.2.1 : Int) != (List.length in_ : Int))) = true then (True ∧ (true = y0 ∧ True)) else Λ1 (0 : Int)))))))))))))))))
def cWitnessL_1 (Λ1 : Int → Prop) (p : (List Lin)) (c : Ctr) (in_ : (List Int)) (y0 : Bool)  (i_1 : Int) : Prop :=
  if (decide (i_1 < (List.length in_ : Int))) = true then (idx i_1 (List.length in_ : Int) ∧ (idx i_1 (List.length c.1 : Int) ∧ (if (decide ((List.getD in_ (Int.toNat i_1) 0) < (List.getD c.1 (Int.toNat i_1) 0))) = true then (true = true ∧ (True ∧ (true = y0 ∧ True))) else (idx i_1 (List.length in_ : Int) ∧ (idx i_1 (List.length c.2.1 : Int) ∧ (True ∧ (if (bif false then true else (decide ((List.getD in_ (Int.toNat i_1) 0) > (List.getD c.2.1 (Int.toNat i_1) 0)))) = true then (True ∧ (true = y0 ∧ True)) else (inI (i_1 + (1 : Int)) ∧ Λ1 (i_1 + (1 : Int)))))))))) else (if (!((cErr p c == 0 && (badL p c).isEmpty))) = true then (true = true ∧ (True ∧ (True ∧ ((bif true then true else false) = y0 ∧ True)))) else (if (decide (((if makeErr p in_ c.2.2.1 = 0 then (in_, c.2.2.1, Rg (runS p in_) c.2.2.1, ()) else (([] : List Int), 0, 0, ()))).2.2.1 ≥ c.2.2.2.1)) = true then (True ∧ (True ∧ (if (bif false then true else (bif true then (decide (((if makeErr p in_ c.2.2.1 = 0 then (in_, c.2.2.1, Rg (runS p in_) c.2.2.1, ()) else (([] : List Int), 0, 0, ()))).2.2.1 ≤ c.2.2.2.2.1)) else false)) = true then (True ∧ (True ∧ ((bif true then true else false) = y0 ∧ True))) else (false = false ∧ (false = y0 ∧ True))))) else (false = false ∧ (True ∧ (if (bif false then true else false) = true then (True ∧ (True ∧ ((bif true then true else false) = y0 ∧ True))) else (false = false ∧ (false = y0 ∧ True)))))))
theorem cWitnessL_law (h : ∀ (p : (List Lin)) (c : Ctr) (in_ : (List Int)), cWitnessL.A.wf (p, c, in_, ()) → ∀ (Λ1 : Int → Prop), (∀ (i_1 : Int), cWitnessL_1 Λ1 p c in_ true i_1 → Λ1 i_1) → cWitnessL_0 Λ1 p c in_ true) : ConOK Go.Proofs.Try.prog 12 cWitnessL := by
  refine lawL (Γ := [(51, cKeeps), (18, cKnown2), (27, cLarge2), (16, cLongL), (44, cMake), (22, cWide)]) (Θ := Th) (n := 108) [([1, 1, 1, 1, 1, 0, 1, 0], ⟨[(2, false), (4, true), (7, true), (9, true), (11, true)], [(4, false), (7, true)]⟩)] ⟨cKeeps_ok, cKnown2_ok, cLarge2_ok, cLongL_ok, cMake_ok, cWide_ok, trivial⟩ (by kernel_rfl) th_ok mix_ok Go.Proofs.Try.func12 (by kernel_rfl) ?_
  intro x hw hp Λ hC
  have h0 := h x.1 x.2.1 x.2.2.1 hw (fun i_1 => Λ [1, 1, 1, 1, 1, 0, 1, 0] ([(2, .d false (.sl .int) x.2.2.1), (4, .ptr 4 0 []), (7, .ptr 7 0 []), (9, .d true .bool ((cErr x.1 x.2.1 == 0 && (badL x.1 x.2.1).isEmpty))), (11, .d true .int i_1)], [(4, .box false tCt x.2.1), (7, .box true tTs ((if makeErr x.1 x.2.2.1 x.2.1.2.2.1 = 0 then (x.2.2.1, x.2.1.2.2.1, Rg (runS x.1 x.2.2.1) x.2.1.2.2.1, ()) else (([] : List Int), 0, 0, ()))))])) (fun i_1 hb => hC [1, 1, 1, 1, 1, 0, 1, 0] ([(2, .d false (.sl .int) x.2.2.1), (4, .ptr 4 0 []), (7, .ptr 7 0 []), (9, .d true .bool ((cErr x.1 x.2.1 == 0 && (badL x.1 x.2.1).isEmpty))), (11, .d true .int i_1)], [(4, .box false tCt x.2.1), (7, .box true tTs ((if makeErr x.1 x.2.2.1 x.2.1.2.2.1 = 0 then (x.2.2.1, x.2.1.2.2.1, Rg (runS x.1 x.2.2.1) x.2.1.2.2.1, ()) else (([] : List Int), 0, 0, ()))))]) (Eq.mpr (by kernel_rfl) hb))
  exact Eq.mpr (by kernel_rfl) h0
theorem cWitnessL_ok : ConOK Go.Proofs.Try.prog 12 cWitnessL := by
  refine cWitnessL_law ?_
  intro p c in_ hw Λ1 h1
  unfold cWitnessL_0
  by_cases c1 : 100 < p.length
  · simp [c1]
  by_cases c2 : 100 < c.1.length ∨ 100 < c.2.1.length
  · simp [c1, c2]
  by_cases c3 : 100 < in_.length
  · simp [c1, c2, c3]
  by_cases e1 : makeErr p in_ c.2.2.1 = 0
  · by_cases e2 : cErr p c = 0
    · by_cases e3 : c.1.length = in_.length
      · by_cases e4 : c.2.1.length = in_.length
        · have hb := (isCtr_box (validC_ok (cErr_ok e2).2).1).1
          have l1 := validS_len hb.1
          have hl : Λ1 (0 : Int) := by
            refine upto (n := in_.length) (Q := fun i => (∀ j, j < i → c.1.getD j 0 ≤ in_.getD j 0 ∧ in_.getD j 0 ≤ c.2.1.getD j 0) → Λ1 (i : Int)) ?_ ?_ 0 (Nat.zero_le _) (fun j hj => absurd hj (Nat.not_lt_zero _))
            · intro hj
              have hm : in_ ∈ statesC c := (stateC_iff hb).2 ⟨by omega, fun i hi => hj i (by omega)⟩
              apply h1; unfold cWitnessL_1
              rw [if_neg (by simp)]
              cases hk : (badL p c).isEmpty
              · rw [if_pos (by simp [e2])]
                exact ⟨rfl, trivial, trivial, rfl, trivial⟩
              · rw [if_neg (by simp [e2])]
                rw [if_pos e1]
                unfold badL at hk
                rw [List.isEmpty_iff, List.filter_eq_nil_iff] at hk
                have := hk in_ hm
                unfold keepS within at this
                have w : c.2.2.2.1 ≤ Rg (runS p in_) c.2.2.1 ∧ Rg (runS p in_) c.2.2.1 ≤ c.2.2.2.2.1 := by simpa using this
                simp [w.1, w.2]
            · intro i hi ih hj
              apply h1; unfold cWitnessL_1
              rw [if_pos (by simpa using hi), Int.toNat_natCast]
              refine ⟨idx_nat hi, idx_nat (by omega), ?_⟩
              by_cases g : in_.getD i 0 < c.1.getD i 0
              · rw [if_pos (by simpa using g)]
                exact ⟨rfl, trivial, rfl, trivial⟩
              · rw [if_neg (by simpa using g)]
                refine ⟨idx_nat hi, idx_nat (by omega), trivial, ?_⟩
                by_cases g' : in_.getD i 0 > c.2.1.getD i 0
                · rw [if_pos (by simpa using g')]
                  exact ⟨trivial, rfl, trivial⟩
                · rw [if_neg (by simpa using g')]
                  refine ⟨inI_succ hi (by omega), ih ?_⟩
                  intro j hj'
                  by_cases q : j = i
                  · subst q; omega
                  · exact hj j (by omega)
          simp [c1, c2, c3, e1, e2, e3, e4, hl]
        · have : ¬ ((c.2.1.length : Int) = in_.length) := by omega
          simp [c1, c2, c3, e1, e2, e3, e4, this]
      · have : ¬ ((c.1.length : Int) = in_.length) := by omega
        simp [c1, c2, c3, e1, e2, e3, this]
    · simp [c1, c2, c3, e1, e2]
  · simp [c1, c2, c3, e1]
end Go.Tk
/- The engine, part X: walks by hand, with stretches of the run. No conditions. -/
set_option linter.unusedSimpArgs false
set_option linter.unusedVariables false
namespace Go.Tk
open Go Go.RowKit

section
variable {P : Program} {B : Bs} {G : Nat → Gh} {m : Mem} {w w' w0 : World}

/-- As MRel.re, where no one ranges. -/
theorem MRel.re2 (hm : MRel P B G m w w0) (hit : ∀ k g l, m k = some (g, l) → l.isIt = false) {fo kb : Nat → Prop} {tv : Nat → Option Obj} {kv : Nat → Option Value} {ro : Option Nat} {lb : Nat} (hlb : lb ≤ w'.heap.size) (hos : w'.os = w.os) (htp : w'.tape = w.tape) (hout : w'.output = w.output) (hsz : w.heap.size ≤ w'.heap.size)
    (hc : ∀ b, isC w b → ¬ B.fo b → w'.heap[b]? = w.heap[b]?) (hl : ∀ b, b < B.n → w'.heap[b]? = w.heap[b]?) (hfo : ∀ b, b < w.heap.size → fo b → B.fo b) (hp : ∀ b, fo b ∨ kb b → b < w'.heap.size ∧ w'.heap[b]? = tv b)
    (ho : ∀ b, fo b ∨ kb b → b < w.heap.size → (B.fo b ∨ B.kb b) ∨ ∀ k g l, m k = some (g, l) → l.mut = true → ¬ ownL (G k) l b) :
    MRel P (B.wi fo kb tv kv ro lb) G m w' w0 ∧ ∀ {V : V} {v : Value}, ERep P B G m w V v → ERep P (B.wi fo kb tv kv ro lb) G m w' V v := by
  have hdS : ∀ f b, b < w.heap.size → dS B G m f b → dS (B.wi fo kb tv kv ro lb) G m f b := fun f b hlt h => ⟨h.1, h.2.1, fun hT => h.2.2 (hfo b hlt hT)⟩
  have hK : ∀ f, Keep (dS B G m f) w w' := fun f => ⟨hsz, fun b hb hS => hc b hb hS.2.2⟩
  have hcc : ∀ {t : T} {f : Bool} {y : t.den} {cs : List Value}, (reps P t).c w (dS B G m f) y cs → (reps P t).c w' (dS (B.wi fo kb tv kv ro lb) G m f) y cs := fun h => c_keep _ h (hK _) (hdS _)
  have hvv : ∀ {t : T} {y : t.den} {cs : List Value}, (reps P t).v w (dS B G m false) y cs [] → (reps P t).v w' (dS (B.wi fo kb tv kv ro lb) G m false) y cs [] := fun h => v_keep _ h (hK _) (hdS _)
  have hown : ∀ k g l b, m k = some (g, l) → l.mut = true → ownL (G k) l b → w'.heap[b]? = w.heap[b]? := by
    intro k g l b hk hmut e
    refine hc b ?_ fun hT => hm.frn.2 k g l b hk hmut e (.inl hT)
    rcases (hm.loc k g l hk).own_isC hmut e with h | ⟨A, ys, i, rfl⟩ | rfl
    · exact h
    · have := hit k g _ hk; cases this
    · have := hit k g _ hk; cases this
  refine ⟨⟨fun hlo => ?_, Nat.le_trans hm.base hsz, ?_, hm.inj, ⟨hp, ?_⟩, hlb⟩, ?_⟩
  · have := hm.low hlo
    exact ⟨hos.trans this.os, htp.trans this.tape, hout.trans this.output, Nat.le_trans this.size hsz, fun i hi => (hl i hi).trans (this.block i hi)⟩
  · intro k g l hk
    have hl := hm.loc k g l hk
    have hb := hown k g l
    cases l with
    | box f t x =>
      obtain ⟨b, cur, e, h1, h2, h3, h4, h5⟩ := hl
      exact ⟨b, cur, e, h1, h2, h3, (hb b hk rfl ⟨0, h1⟩).trans h4, hcc h5⟩
    | sl f t xs =>
      unfold LRep at hl ⊢
      exact hl.ext (fun b o e => hb b hk rfl ⟨o, e⟩) fun _ _ h' => hcc h'
    | fz f t xs =>
      unfold LRep at hl ⊢
      exact hcc hl
    | fb f t x =>
      obtain ⟨b, h1, h2⟩ := hl
      exact ⟨b, h1, hcc (t := .ref t) h2⟩
    | nl f t xss hh hole =>
      obtain ⟨vs, h1, h2, h3, h4, h5, h6, h7⟩ := hl
      exact ⟨vs, h1.ext (fun b o e => hb b hk rfl (.inl ⟨o, e⟩)) fun _ _ h => h, h2, h3, fun n xs hn hh => (h4 n xs hn hh).ext (fun b o e => hb b hk rfl (.inr ⟨n, o, e⟩)) fun _ _ h' => hcc h', h5, h6, h7⟩
    | mv => trivial
    | rg fr A ys i => trivial
    | it A ys i => have := hit k g _ hk; cases this
    | itx => have := hit k g _ hk; cases this
  · intro k g l b hk hmut e hb
    have hlt := ((hm.loc k g l hk).own_lt hmut e).1
    rcases ho b hb hlt with h | h
    · exact hm.frn.2 k g l b hk hmut e h
    · exact h k g l hk hmut e
  · intro V
    induction V with
    | any => intro v _; trivial
    | d f t x => rintro v ⟨cs, e, h⟩; exact ⟨cs, e, hcc h⟩
    | c v0 => intro v e; exact e
    | ptr k g p => intro v h; exact h
    | own k g => intro v h; exact h
    | sub k g lo hi => intro v h; exact h
    | inn k g h n => intro v h; exact h
    | ipt k g h n p => intro v h; exact h
    | ept f t x =>
      rintro v ⟨b, o, cs, e, h1, h2, h3, h4⟩
      exact ⟨b, o, cs, e, hdS f b h2 h1, Nat.lt_of_lt_of_le h2 hsz, h3.keep (fun hb => hc b hb h1.2.2), hcc h4⟩
    | fnc g t x => rintro v ⟨caps, e, hv⟩; exact ⟨caps, e, hvv hv⟩
    | bnd g t x => rintro v ⟨caps, e, hv⟩; exact ⟨caps, e, hvv hv⟩
    | ub p q => intro v h; exact h
    | yld => intro v h; exact h
    | tup n l ih => rintro v ⟨vs, e, hn, hv⟩; exact ⟨vs, e, hn, fun i u hu => ih i (hv i u hu)⟩

/-- The bounds of a walk by hand: kb: blocks that no one changes, as they are now. -/
abbrev hB (n : Nat) (S : Nat → Prop) (kv : Nat → Option Value) (kb : Nat → Prop) (tv : Nat → Option Obj) : Bs := { n := n, S := S, j := some dJ, kv := kv, kb := kb, tv := tv }

theorem Rel.re {n0 n : Nat} {S : Nat → Prop} {kv kv' : Nat → Option Value} {kb kb' : Nat → Prop} {tv : Nat → Option Obj} {st : St} {a : Act} (hR : Rel P (hB n0 S kv kb tv) w0 n st a w) (hit : ∀ k g l, st.loc k = some (g, l) → l.isIt = false)
    (hos : w'.os = w.os) (htp : w'.tape = w.tape) (hout : w'.output = w.output) (hsz : w.heap.size ≤ w'.heap.size) (hc : ∀ b, isC w b → w'.heap[b]? = w.heap[b]?) (hl : ∀ b, b < n0 → w'.heap[b]? = w.heap[b]?)
    (hkb : ∀ b, kb' b → b < w'.heap.size) (hk2 : ∀ b, kb' b → b < w.heap.size → kb b ∨ ¬ isC w b) (hkp : ∀ t v, kv' t = some v → a.tmps.getD t undef = v) : Rel P (hB n0 S kv' kb' fun b => w'.heap[b]?) w0 n st a w' := by
  obtain ⟨G, hm, he⟩ := hR.ex
  obtain ⟨r1, r2⟩ := hm.re2 (w' := w') hit (fo := fun _ => False) (kb := kb') (tv := fun b => w'.heap[b]?) (kv := kv') (ro := none) (lb := 0) (Nat.zero_le _) hos htp hout hsz (fun b hb _ => hc b hb) hl (fun _ _ h => h) (fun b h => by
    rcases h with h | h
    · exact h.elim
    · exact ⟨hkb b h, rfl⟩) (fun b h hlt => by
    rcases h with h | h
    · exact h.elim
    · rcases hk2 b h hlt with h | h
      · exact .inl (.inr h)
      · refine .inr fun k g l hk hmut e => h ?_
        rcases (hm.loc k g l hk).own_isC hmut e with h | ⟨A, ys, i, rfl⟩ | rfl
        · exact h
        · have := hit k g _ hk; cases this
        · have := hit k g _ hk; cases this)
  have hd := hR.nd.2 rfl
  exact ⟨⟨G, r1, fun t => r2 (he t)⟩, hR.sz, by rw [hd]; exact ⟨Marks.nil _ _, fun _ => rfl⟩, hkp⟩

theorem Rel.kept {n0 n : Nat} {S : Nat → Prop} {kv : Nat → Option Value} {kb : Nat → Prop} {tv : Nat → Option Obj} {st : St} {a : Act} (hR : Rel P (hB n0 S kv kb tv) w0 n st a w) {b : Nat} (hb : kb b) : w.heap[b]? = tv b := by
  obtain ⟨G, hm, he⟩ := hR.ex
  exact (hm.frn.1 b (.inr hb)).2
theorem Rel.kept_lt {n0 n : Nat} {S : Nat → Prop} {kv : Nat → Option Value} {kb : Nat → Prop} {tv : Nat → Option Obj} {st : St} {a : Act} (hR : Rel P (hB n0 S kv kb tv) w0 n st a w) {b : Nat} (hb : kb b) : b < w.heap.size := by
  obtain ⟨G, hm, he⟩ := hR.ex
  exact (hm.frn.1 b (.inr hb)).1
/-- As the world is now. -/
theorem Rel.now {n0 n : Nat} {S : Nat → Prop} {kv : Nat → Option Value} {kb : Nat → Prop} {tv : Nat → Option Obj} {st : St} {a : Act} (hR : Rel P (hB n0 S kv kb tv) w0 n st a w) (hit : ∀ k g l, st.loc k = some (g, l) → l.isIt = false) : Rel P (hB n0 S kv kb fun b => w.heap[b]?) w0 n st a w :=
  hR.re hit rfl rfl rfl (Nat.le_refl _) (fun _ _ => rfl) (fun _ _ => rfl) (fun _ h => hR.kept_lt h) (fun _ h _ => .inl h) hR.kp
theorem Rel.low {n0 n : Nat} {S : Nat → Prop} {kv : Nat → Option Value} {kb : Nat → Prop} {tv : Nat → Option Obj} {st : St} {a : Act} (hR : Rel P (hB n0 S kv kb tv) w0 n st a w) : Below n0 w0 w := by
  obtain ⟨G, hm, he⟩ := hR.ex
  exact hm.low rfl

/-- Other temporaries. -/
theorem rel_env {n0 n : Nat} {S : Nat → Prop} {kv kv' : Nat → Option Value} {kb : Nat → Prop} {tv : Nat → Option Obj} {E E' : List (Nat × V)} {M : List (Nat × Tk.L)} {a a' : Act} (hR : Rel P (hB n0 S kv kb tv) w0 n (mkSt (E, M)) a w) (hsz : a'.tmps.size = n) (hd : a'.defers = [])
    (hkp : ∀ t v, kv' t = some v → a'.tmps.getD t undef = v)
    (hE : ∀ t U, lk E' t = some U → (lk E t = some U ∧ a'.tmps.getD t undef = a.tmps.getD t undef) ∨ ∀ G, MRel P (hB n0 S kv' kb tv) G (mkLoc M) w w0 → ERep P (hB n0 S kv' kb tv) G (mkLoc M) w U (a'.tmps.getD t undef)) :
    Rel P (hB n0 S kv' kb tv) w0 n (mkSt (E', M)) a' w := by
  obtain ⟨G, hm, he⟩ := hR.ex
  have hm' : MRel P (hB n0 S kv' kb tv) G (mkLoc M) w w0 := ⟨hm.low, hm.base, fun k g l hk => by
    have := hm.loc k g l hk
    cases l <;> exact this, hm.inj, hm.frn, hm.lbd⟩
  refine ⟨⟨G, hm', fun t => ?_⟩, hsz, by rw [hd]; exact ⟨Marks.nil _ _, fun _ => rfl⟩, hkp⟩
  show ERep P _ G (mkLoc M) w (match lk E' t with | some v => v | none => .any) _
  cases hl : lk E' t with
  | none => trivial
  | some U =>
    rcases hE t U hl with ⟨h1, h2⟩ | h
    · have h3 := he t
      have h4 : (mkSt (E, M)).env t = U := by
        show (match lk E t with | some v => v | none => .any) = U
        rw [h1]
      rw [h4] at h3
      rw [h2]
      have key : ∀ (U : Tk.V) (v : Value), ERep P (hB n0 S kv kb tv) G (mkLoc M) w U v → ERep P (hB n0 S kv' kb tv) G (mkLoc M) w U v := by
        intro U
        induction U with
        | tup n l ih => rintro v ⟨vs, e, hn, hv⟩; exact ⟨vs, e, hn, fun i u hu => ih i _ (hv i u hu)⟩
        | _ => intro v h; exact h
      exact key U _ h3
    · exact h G hm'

/-- A new variable, that is written to no more. -/
theorem rel_box {n0 n : Nat} {S : Nat → Prop} {kv : Nat → Option Value} {kb : Nat → Prop} {tv : Nat → Option Obj} {E E' : List (Nat × Tk.V)} {M : List (Nat × Tk.L)} {a a' : Act} (hR : Rel P (hB n0 S kv kb tv) w0 n (mkSt (E, M)) a w) (hit : ∀ k g l, (mkSt (E, M)).loc k = some (g, l) → l.isIt = false)
    {d : Nat} {t : T} {x : t.den} {cs : List Value} {ty : TypeId} (hcs : ∀ W S', (reps P t).c W S' x cs) (hsz : a'.tmps.size = n) (hd : a'.defers = []) (hkp : ∀ t v, kv t = some v → a'.tmps.getD t undef = v) (hdv : a'.tmps.getD d undef = .pointer (some ⟨w.heap.size, 0, none⟩))
    (hE : ∀ t' U, lk E' t' = some U → (lk E t' = some U ∧ a'.tmps.getD t' undef = a.tmps.getD t' undef) ∨ (t' = d ∧ U = .ept true t x) ∨ ∀ B G m w, ERep P B G m w U (a'.tmps.getD t' undef)) :
    Rel P (hB n0 S kv kb fun b => (w.alloc (.cells cs.toArray ty)).heap[b]?) w0 n (mkSt (E', M)) a' (w.alloc (.cells cs.toArray ty)) := by
  have hkv := hR.kp
  obtain ⟨G, hm, he⟩ := hR.ex
  have hbel : Below w.heap.size w (w.alloc (.cells cs.toArray ty)) := (Below.refl _ w).alloc (Nat.le_refl _) _
  obtain ⟨r1, r2⟩ := hm.re2 (w' := w.alloc (.cells cs.toArray ty)) hit (fo := fun _ => False) (kb := kb) (tv := fun b => (w.alloc (.cells cs.toArray ty)).heap[b]?) (kv := kv) (ro := none) (lb := 0) (Nat.zero_le _) rfl rfl rfl (by simp) (fun b hb _ => hbel.block b hb.lt) (fun b hb => hbel.block b (Nat.lt_of_lt_of_le hb hm.base)) (fun _ _ h => h) (fun b h => by
    rcases h with h | h
    · exact h.elim
    · have := (hm.frn.1 b (.inr h)).1
      exact ⟨by simp; omega, rfl⟩) (fun b h hlt => by
    rcases h with h | h
    · exact h.elim
    · exact .inl (.inr h))
  refine ⟨⟨G, r1, fun t' => ?_⟩, hsz, by rw [hd]; exact ⟨Marks.nil _ _, fun _ => rfl⟩, hkp⟩
  show ERep P _ G (mkLoc M) _ (match lk E' t' with | some v => v | none => .any) _
  cases hl : lk E' t' with
  | none => trivial
  | some U =>
    rcases hE t' U hl with ⟨h1, h2⟩ | ⟨rfl, rfl⟩ | h
    · have h3 := he t'
      have h4 : (mkSt (E, M)).env t' = U := by
        show (match lk E t' with | some v => v | none => .any) = U
        rw [h1]
      rw [h4] at h3
      rw [h2]
      exact r2 h3
    · rw [hdv]
      refine ⟨w.heap.size, 0, cs, rfl, ⟨⟨fun _ => hm.base, .inl hm.base⟩, fun k g l hk hmut e => ?_, fun h => h⟩, by simp, ?_, hcs _ _⟩
      · have := ((hm.loc k g l hk).own_lt hmut e).1
        omega
      · intro j v hj
        simp only [World.cell?, heap_alloc_new]
        simpa using hj
    · exact h _ _ _ _

/-- Behind calls and new variables: what was known, and what lies in new blocks. -/
theorem rel_new {n0 n : Nat} {S : Nat → Prop} {kv kv' : Nat → Option Value} {kb : Nat → Prop} {tv : Nat → Option Obj} {E E' : List (Nat × Tk.V)} {M : List (Nat × Tk.L)} {a a' : Act} (hR : Rel P (hB n0 S kv kb tv) w0 n (mkSt (E, M)) a w) (hit : ∀ k g l, (mkSt (E, M)).loc k = some (g, l) → l.isIt = false)
    (hbel : Below w.heap.size w w') (hsz : a'.tmps.size = n) (hd : a'.defers = []) (hkp : ∀ t v, kv' t = some v → a'.tmps.getD t undef = v)
    (hE : ∀ t U, lk E' t = some U → (∃ t2, lk E t2 = some U ∧ a'.tmps.getD t undef = a.tmps.getD t2 undef) ∨ ∀ G, (∀ b, w.heap.size ≤ b → dS (hB n0 S kv' kb fun b => w'.heap[b]?) G (mkLoc M) true b) → ERep P (hB n0 S kv' kb fun b => w'.heap[b]?) G (mkLoc M) w' U (a'.tmps.getD t undef)) :
    Rel P (hB n0 S kv' kb fun b => w'.heap[b]?) w0 n (mkSt (E', M)) a' w' := by
  obtain ⟨G, hm, he⟩ := hR.ex
  obtain ⟨r1, r2⟩ := hm.re2 (w' := w') hit (fo := fun _ => False) (kb := kb) (tv := fun b => w'.heap[b]?) (kv := kv') (ro := none) (lb := 0) (Nat.zero_le _) hbel.os hbel.tape hbel.output hbel.size (fun b hb _ => hbel.block b hb.lt) (fun b hb => hbel.block b (Nat.lt_of_lt_of_le hb hm.base)) (fun _ _ h => h) (fun b h => by
    rcases h with h | h
    · exact h.elim
    · exact ⟨Nat.lt_of_lt_of_le (hm.frn.1 b (.inr h)).1 hbel.size, rfl⟩) (fun b h hlt => by
    rcases h with h | h
    · exact h.elim
    · exact .inl (.inr h))
  refine ⟨⟨G, r1, fun t' => ?_⟩, hsz, by rw [hd]; exact ⟨Marks.nil _ _, fun _ => rfl⟩, hkp⟩
  show ERep P _ G (mkLoc M) _ (match lk E' t' with | some v => v | none => .any) _
  cases hl : lk E' t' with
  | none => trivial
  | some U =>
    rcases hE t' U hl with ⟨t2, h1, h2⟩ | h
    · have h3 := he t2
      have h4 : (mkSt (E, M)).env t2 = U := by
        show (match lk E t2 with | some v => v | none => .any) = U
        rw [h1]
      rw [h4] at h3
      rw [h2]
      exact r2 h3
    · refine h G fun b hb => ⟨⟨fun _ => Nat.le_trans hm.base hb, .inl (Nat.le_trans hm.base hb)⟩, fun k g l hk hmut e => ?_, fun h => h⟩
      have := ((hm.loc k g l hk).own_lt hmut e).1
      omega
/-- Nothing is known. -/
theorem rel_zero {n : Nat} {S : Nat → Prop} {kv : Nat → Option Value} {kb : Nat → Prop} {a : Act} (hsz : a.tmps.size = n) (hd : a.defers = []) (hkp : ∀ t v, kv t = some v → a.tmps.getD t undef = v) (hkb : ∀ b, kb b → b < w.heap.size) :
    Rel P (hB w.heap.size S kv kb fun b => w.heap[b]?) w n (mkSt ([], [])) a w :=
  ⟨⟨fun _ => gh undef none, ⟨fun _ => Below.refl _ _, Nat.le_refl _, fun k g l hk => (by cases hk), fun k k' g g' l l' b hk => (by cases hk), ⟨fun b h => by
    rcases h with h | h
    · exact h.elim
    · exact ⟨hkb b h, rfl⟩, fun k g l b hk => (by cases hk)⟩, Nat.zero_le _⟩, fun t => trivial⟩, hsz, by rw [hd]; exact ⟨Marks.nil _ _, fun _ => rfl⟩, hkp⟩
/-- A datum's value. -/
theorem rel_d {n0 n : Nat} {S : Nat → Prop} {kv : Nat → Option Value} {kb : Nat → Prop} {tv : Nat → Option Obj} {E : List (Nat × Tk.V)} {M : List (Nat × Tk.L)} {a : Act} (hR : Rel P (hB n0 S kv kb tv) w0 n (mkSt (E, M)) a w) {d : Nat} {f : Bool} {t : T} {x : t.den} (h : lk E d = some (.d f t x)) :
    ∃ (cs : List Value) (S' : Nat → Prop), a.tmps.getD d undef = mkV t cs ∧ (reps P t).c w S' x cs := by
  obtain ⟨G, hm, he⟩ := hR.ex
  have h3 := he d
  have h4 : (mkSt (E, M)).env d = .d f t x := by
    show (match lk E d with | some v => v | none => .any) = _
    rw [h]
  rw [h4] at h3
  obtain ⟨cs, e, hc⟩ := h3
  exact ⟨cs, _, e, hc⟩
theorem rel_int {n0 n : Nat} {S : Nat → Prop} {kv : Nat → Option Value} {kb : Nat → Prop} {tv : Nat → Option Obj} {E : List (Nat × Tk.V)} {M : List (Nat × Tk.L)} {a : Act} (hR : Rel P (hB n0 S kv kb tv) w0 n (mkSt (E, M)) a w) {d : Nat} {f : Bool} {x : Int} (h : lk E d = some (.d f .int x)) : a.tmps.getD d undef = .int .i64 x ∧ inI x := by
  obtain ⟨cs, S', e, hc, hi⟩ := rel_d hR h
  subst hc
  exact ⟨e, hi⟩
theorem rel_bool {n0 n : Nat} {S : Nat → Prop} {kv : Nat → Option Value} {kb : Nat → Prop} {tv : Nat → Option Obj} {E : List (Nat × Tk.V)} {M : List (Nat × Tk.L)} {a : Act} (hR : Rel P (hB n0 S kv kb tv) w0 n (mkSt (E, M)) a w) {d : Nat} {f : Bool} {x : Bool} (h : lk E d = some (.d f .bool x)) : a.eval (.tmp d) = .bool x := by
  obtain ⟨cs, S', e, hc⟩ := rel_d hR h
  have hc : cs = [.bool x] := hc
  subst hc
  exact e

/-- The beginning of a function. -/
theorem rel_start {A : T} {x : A.den} {vs : List Value} {S : Nat → Prop} {n : Nat} (hA : (isTup A && Nat.ble (arity A) n) = true) (hv : (reps P A).v w S x vs []) :
    Rel P (hB w.heap.size S (fun _ => none) (fun _ => False) fun b => w.heap[b]?) w n (mkSt (argE A x 0, [])) { tmps := vs.toArray ++ Array.replicate (n - vs.toArray.size) undef, defers := [] } w := by
  rw [Bool.and_eq_true] at hA
  have hle := Nat.le_of_ble_eq_true hA.2
  let G : Nat → Gh := fun _ => gh undef none
  obtain ⟨i1, i2, i3⟩ := argE_ok (S' := dS (hB w.heap.size S (fun _ => none) (fun _ => False) fun b => w.heap[b]?) G (mkLoc []) false) (fun b hb => ⟨⟨fun e => (by cases e), .inr hb⟩, fun k g l hk => by simp [mkLoc, lk] at hk, fun h => h⟩) A x vs 0 hA.1 hv
  refine ⟨⟨G, ⟨fun _ => Below.refl _ _, Nat.le_refl _, fun k g l hk => by simp [mkSt, mkLoc, lk] at hk, fun k k' g g' l l' b hk => by simp [mkSt, mkLoc, lk] at hk, ⟨fun b h => by rcases h with h | h <;> exact h.elim, fun k g l b hk => by simp [mkSt, mkLoc, lk] at hk⟩, Nat.zero_le _⟩, fun t => ?_⟩, by simp; omega, ⟨Marks.nil _ _, fun _ => rfl⟩, fun t v e => by cases e⟩
  show ERep P _ G (mkLoc []) w (match lk (argE A x 0) t with | some v => v | none => .any) _
  split
  · rename_i V e
    obtain ⟨_, v, f', a, y, cs, j1, rfl, rfl, j4, rfl⟩ := i3 t V e
    refine ⟨cs, ?_, j4⟩
    have hlt : t < vs.length := (List.getElem?_eq_some_iff.1 j1).1
    have j1 : vs[t]? = some (mkV a cs) := j1
    have e1 : (vs.toArray ++ Array.replicate (n - vs.toArray.size) undef)[t]? = some (mkV a cs) := by
      rw [Array.getElem?_append_left (by simpa using hlt)]
      simpa using j1
    simp only [Array.getD_eq_getD_getElem?, e1, Option.getD_some]
  · trivial

/-- The run from here to a label; what follows is by hand. -/
theorem eng_to {cx : Cx} (hk : Cok P cx) (hmix : P.follows .mixedOrders = true) (hx : cx.X.itf = none) (hpn : cx.X.pan = none) {code : Code} {n0 : Nat} {S : Nat → Prop} {kv : Nat → Option Value} {kb : Nat → Prop} {tv : Nat → Option Obj} {st : St} {a : Act} {Q : Exit → Act → World → Prop} (ly : List (Pth × Lay))
    (hR : Rel P (hB n0 S kv kb tv) w0 cx.n st a w) (hok : (okC cx.n code && noRF code) = true) (hkv : ∀ t ∈ wrs code, kv t = none)
    (h : ∀ Λ : Pth → Lst → Prop, Λ = Sem P (hB n0 S kv kb tv) w0 cx.n code Q → Wl cx (LyL ly) Λ code (fun _ _ => False) st) : code.wpIn (Fw none) 0 P Q a w := by
  rw [Bool.and_eq_true] at hok
  have := (sound hk hmix code (hB n0 S kv kb tv) w0 (LyL ly) (fun _ _ => False) Q hok.1 ⟨hkv, .inl hok.2, fun fr e => (by rw [hx] at e; cases e), .inl hpn⟩ (fun e st a w h => h.elim) fun p hp => by rw [hpn] at hp; cases hp).1 st a w (h _ rfl) hR
  exact this
/-- The run through a stretch of code without loops. -/
theorem eng_thru {cx : Cx} (hk : Cok P cx) (hmix : P.follows .mixedOrders = true) (hx : cx.X.itf = none) (hpn : cx.X.pan = none) {code : Code} {n0 : Nat} {S : Nat → Prop} {kv : Nat → Option Value} {kb : Nat → Prop} {tv : Nat → Option Obj} {st : St} {a : Act} {Q : Exit → Act → World → Prop} (ly : Lay) (x : Lst)
    (hR : Rel P (hB n0 S kv kb tv) w0 cx.n st a w) (hok : (okC cx.n code && noRF code) = true) (hkv : ∀ t ∈ wrs code, kv t = none)
    (h : Wl cx (fun _ => none) (fun _ _ => False) code (fun e st => match e with | .normal => canK ly (fun y => y = x) st | _ => False) st) (hQ : ∀ a w, Rel P (hB n0 S kv kb tv) w0 cx.n (mkSt x) a w → Q .normal a w) : code.wpIn (Fw none) 0 P Q a w := by
  rw [Bool.and_eq_true] at hok
  have hs := sound hk hmix code (hB n0 S kv kb tv) w0 (fun _ => none) (fun e st => match e with | .normal => canK ly (fun y => y = x) st | _ => False) Q hok.1 ⟨hkv, .inl hok.2, fun fr e => (by rw [hx] at e; cases e), .inl hpn⟩ (fun e st a w h hR => by
    cases e <;> first | exact h.elim | skip
    obtain ⟨y, rfl, hR2⟩ := canK_ok h hR
    exact hQ a w hR2) fun p hp => by rw [hpn] at hp; cases hp
  refine hs.1 st a w ?_ hR
  exact Wl_mono _ _ _ _ _ _ _ (fun _ _ h => h.elim) (fun _ _ h => h) h

/-- An own slice, for a result. -/
theorem rel_own {n0 n : Nat} {S : Nat → Prop} {kv : Nat → Option Value} {kb : Nat → Prop} {tv : Nat → Option Obj} {E : List (Nat × V)} {M : List (Nat × Tk.L)} {a : Act} (hR : Rel P (hB n0 S kv kb tv) w0 n (mkSt (E, M)) a w) {d k : Nat} {t : T} {xs : List t.den}
    (hE : lk E d = some (.own k 0)) (hM : lk M k = some (.sl true t xs)) : ∃ ob : Option (Nat × Nat), repOwn ((reps P t).c w fun b => n0 ≤ b ∧ ¬ b ∈ (ob.map (·.1)).toList) t.csize w (fun _ => True) xs (a.tmps.getD d undef) ob ∧ ∀ b ∈ (ob.map (·.1)).toList, n0 ≤ b := by
  obtain ⟨G, hm, he⟩ := hR.ex
  have hl : mkLoc M k = some (0, .sl true t xs) := by
    show (match lk M k with | some l => some (0, l) | none => none) = _
    rw [hM]
  have h1 := he d
  have h2 : (mkSt (E, M)).env d = .own k 0 := by
    show (match lk E d with | some v => v | none => .any) = _
    rw [hE]
  rw [h2] at h1
  obtain ⟨g', l, q1, _, q2⟩ := h1
  have q1 : mkLoc M k = some (g', l) := q1
  rw [hl] at q1
  cases q1
  have h3 : a.tmps.getD d undef = (G k).hdr := q2 rfl
  have h4 : repOwn ((reps P t).c w (dS (hB n0 S kv kb tv) G (mkLoc M) true)) t.csize w (fun b => n0 ≤ b) xs (G k).hdr (G k).blk := hm.loc k 0 _ hl
  rw [h3]
  refine ⟨(G k).blk, ?_, ?_⟩
  · rcases h4 with h4 | ⟨b, off, cap, cur, e, g1, g2, g3, g4, g5, g6, g7, g8⟩
    · exact .inl h4
    · refine .inr ⟨b, off, cap, cur, e, g1, g2, trivial, g4, g5, g6, g7, repL_mono (fun _ _ h => c_mono _ h fun b' _ hb => ⟨hb.1.1 rfl, fun hin => ?_⟩) _ _ g8⟩
      rw [g1] at hin
      simp at hin
      exact hb.2.1 k 0 _ hl rfl ⟨off, by rw [g1, hin]⟩
  · intro b hb
    rcases h4 with ⟨_, _, h4⟩ | ⟨b', off, cap, cur, e, g1, g2, g3, g4, g5, g6, g7, g8⟩
    · rw [h4] at hb; simp at hb
    · rw [g1] at hb
      simp at hb
      rw [hb]; exact g3

/-! ### A region's operations, in their order -/
variable {ops : Array Oper} {Q : Exit → Act → World → Prop} {rest : List Nat} {a : Act}
theorem sp_val {k : Nat} {o : Oper} {v : Value} {w1 : World} (ho : ops[k]? = some o) (hg : o.guard = none) (hr : (execOp a.eval o).run P w = .ok (.value v) w1) (h : wpOpsIn (Fw none) 0 P ops Q rest (a.put o.dst v) w1) :
    wpOpsIn (Fw none) 0 P ops Q (k :: rest) a w := by
  rw [wpOpsIn_cons]
  have hw : Region.wanted o (yielded ops a.tmps) = true := by unfold Region.wanted; rw [hg]
  unfold wpOpIn
  rw [ho]
  simp only [hw, if_true]
  refine ⟨fun _ _ => trivial, ?_⟩
  show Oper.uponIn (Fw none) 0 P o a _ Q ((o.semAt none a.eval).run P w)
  rw [Oper.semAt_none, hr]
  exact upon_in h
theorem sp_call {k : Nat} {o : Oper} {f : FuncId} {args : Array Value} (ho : ops[k]? = some o) (hg : o.guard = none) (hr : (execOp a.eval o).run P w = .ok (.enter f args) w)
    (h : Calls P f args w fun e w1 => ∃ v, e = .returned v ∧ wpOpsIn (Fw none) 0 P ops Q rest (a.put o.dst v) w1) : wpOpsIn (Fw none) 0 P ops Q (k :: rest) a w := by
  rw [wpOpsIn_cons]
  have hw : Region.wanted o (yielded ops a.tmps) = true := by unfold Region.wanted; rw [hg]
  unfold wpOpIn
  rw [ho]
  simp only [hw, if_true]
  refine ⟨fun _ _ => trivial, ?_⟩
  show Oper.uponIn (Fw none) 0 P o a _ Q ((o.semAt none a.eval).run P w)
  rw [Oper.semAt_none, hr]
  refine upon_in (r := .ok (.enter f args) w) ?_
  refine Calls.mono h ?_
  rintro e w1 ⟨v, rfl, h⟩
  exact h

/-- A stretch of a region by the run. -/
theorem stretch_wp {cx : Cx} (hk : Cok P cx) {st : St} (hR : Rel P B w0 cx.n st a w) (hro : B.ro = none) (k c : Nat) (hkv : ∀ o ∈ (ops.toList.drop k).take c, ∀ d, o.dst = some d → B.kv d = none) (hd : dstsOK cx.n ((ops.toList.drop k).take c) = true) (hlen : ((ops.toList.drop k).take c).length = c)
    {Φ : St → Prop} (h : runG cx ops.toList ((ops.toList.drop k).take c) st [] fun st _ => Φ st) (hQ : ∀ st a w, Φ st → Rel P B w0 cx.n st a w → wpOpsIn (Fw none) 0 P ops Q rest a w) : wpOpsIn (Fw none) 0 P ops Q (List.range' k c ++ rest) a w := by
  obtain ⟨τ, _, h⟩ := runL_lex (R := Real P B w0 cx.n) (Pd := fun o => ∀ d, o.dst = some d → B.kv d = none) (fun st o e tu hp => real_yop hk hp) _ st [] 0 (fun _ => ([], [])) hkv ⟨a, w, hR⟩ hd rfl (runL_of_runG _ _ _ _ h)
  have key : ∀ (l : List Oper) (k : Nat) (st : St) (a : Act) (w : World), (∀ o ∈ l, ∀ d, o.dst = some d → B.kv d = none) → (∀ j, j < l.length → l[j]? = ops.toList[k + j]?) → Rel P B w0 cx.n st a w → lexA cx ops.toList τ (fun st => Φ st) l (0 + (k - k)) st ∨ True → True := fun _ _ _ _ _ _ _ _ _ => trivial
  clear key
  have key : ∀ (l : List Oper) (k i : Nat) (st : St) (a : Act) (w : World), (∀ o ∈ l, ∀ d, o.dst = some d → B.kv d = none) → (∀ j, j < l.length → l[j]? = ops.toList[k + j]?) → Rel P B w0 cx.n st a w → lexA cx ops.toList τ (fun st => Φ st) l i st → wpOpsIn (Fw none) 0 P ops Q (List.range' k l.length ++ rest) a w := by
    intro l
    induction l with
    | nil => intro k i st a w _ _ hR h; exact hQ _ _ _ h hR
    | cons o l ih =>
      intro k i st a w hkv hl hR h
      obtain ⟨e, hy, h⟩ := h
      rw [List.length_cons, List.range'_succ, List.cons_append, wpOpsIn_cons]
      have ho : ops.toList[k]? = some o := by simpa using (hl 0 (by simp)).symm
      have ho2 : ops.toList.toArray[k]? = some o := by simpa using ho
      have := yop_wp hk (Q := Q) (hkv o (by simp)) hR hy ho2 (K := fun a w => wpOpsIn (Fw none) 0 P ops Q (List.range' (k + 1) l.length ++ rest) a w) fun a' w' hR' => ih (k + 1) (i + 1) _ _ _ (fun o ho => hkv o (by simp [ho])) (fun j hj => by
        have := hl (j + 1) (by simp; omega)
        simpa [Nat.add_assoc, Nat.add_comm 1 j] using this) hR' h
      rw [hro] at this
      simpa using this
  have := key ((ops.toList.drop k).take c) k 0 st a w hkv (fun j hj => by
    rw [List.getElem?_take, List.getElem?_drop]
    rw [hlen] at hj
    rw [if_pos hj]) hR h
  rw [hlen] at this
  exact this

/-! ### Loops -/
theorem loop_upX {F : Fence} {c : Code} {n : Nat} (A : Nat → Act → World → Prop) (last : ∀ a W, A n a W → c.wpIn F 0 P (Exit.then (fun _ _ => False) Q) a W)
    (step : ∀ m a W, m < n → A m a W → c.wpIn F 0 P (Exit.then (A (m + 1)) Q) a W) : ∀ m, m ≤ n → ∀ a W, A m a W → LoopAt F P c Q a W := by
  have key : ∀ d m, m + d = n → ∀ a W, A m a W → LoopAt F P c Q a W := by
    intro d
    induction d with
    | zero =>
      intro m hm a W h
      obtain rfl : m = n := by omega
      refine loopAt_round (wpIn_mono (last a W h) fun e a' W' he => ?_)
      cases e <;> first | exact he.elim | exact he
    | succ d ih =>
      intro m hm a W h
      refine loopAt_round (wpIn_mono (step m a W (by omega) h) fun e a' W' he => ?_)
      cases e <;> first | exact ih (m + 1) (by omega) _ _ he | exact he
  exact fun m hm a W h => key (n - m) m (by omega) a W h
theorem loop_downX {F : Fence} {c : Code} (A : Nat → Act → World → Prop) (step : ∀ m a W, A m a W → c.wpIn F 0 P (Exit.then (fun a W => ∃ m', m' < m ∧ A m' a W) Q) a W) : ∀ m a W, A m a W → LoopAt F P c Q a W := by
  intro m
  induction m using Nat.strongRecOn with
  | ind m ih =>
    intro a W h
    refine loopAt_round (wpIn_mono (step m a W h) fun e a' W' he => ?_)
    cases e <;> first | (obtain ⟨m', h1, h2⟩ := he; exact ih m' h1 _ _ h2) | exact he
/-! ### Regions, one operation after another, by hand -/
def ql (P : Program) : List Oper → (Act → World → Prop) → (Exit → Act → World → Prop) → Act → World → Prop
  | [], K, _, a, w => K a w
  | o :: l, K, Q, a, w => o.upon P a (fun a' w' => ql P l K Q a' w') Q ((execOp a.eval o).run P w)
theorem ql_mono {P : Program} {o : Oper} {a : Act} {K K' : Act → World → Prop} {Q : Exit → Act → World → Prop} {r : Result Next} (h : ∀ a w, K a w → K' a w) (hr : o.upon P a K Q r) : o.upon P a K' Q r := by
  cases r with
  | halt x w => cases x <;> exact hr
  | ok x w =>
    cases x <;> simp only [Oper.upon] at hr ⊢
    case value v => exact h _ _ hr
    case skip => exact h _ _ hr
    case defer d => exact h _ _ hr
    case enter f args =>
      refine hr.mono ?_
      intro e w' he
      cases e with
      | returned v => exact h _ _ he
      | panicked c => exact he
      | outgrown => exact he
    case row row args =>
      intro c cs
      obtain ⟨v, w', hv, hs⟩ := hr c cs
      exact ⟨v, w', h _ _ hv, hs⟩
theorem ql_ops {P : Program} {ops : List Oper} {Q : Exit → Act → World → Prop} : ∀ (l : List Oper) (k : Nat) (a : Act) (w : World), (∀ j, l[j]? = ops[k + j]?) → (∀ o ∈ l, o.guard = none) → ql P l (Q .normal) Q a w →
    wpOpsIn (Fw none) 0 P ops.toArray Q (List.range' k l.length) a w
  | [], k, a, w, _, _, h => by
    have h : Q .normal a w := h
    simpa [wpOpsIn] using h
  | o :: l, k, a, w, hl, hg, h => by
    rw [List.length_cons, List.range'_succ, wpOpsIn_cons]
    have ho : ops[k]? = some o := by simpa using (hl 0).symm
    have hl' : ∀ j, l[j]? = ops[k + 1 + j]? := fun j => by have := hl (j + 1); simpa [Nat.add_assoc, Nat.add_comm 1 j] using this
    have hw : Region.wanted o (yielded ops.toArray a.tmps) = true := by unfold Region.wanted; rw [hg o (by simp)]
    unfold wpOpIn
    rw [show ops.toArray[k]? = some o by simpa using ho]
    simp only [hw, if_true]
    refine ⟨fun _ _ => trivial, ?_⟩
    show Oper.uponIn (Fw none) 0 P o a _ Q ((o.semAt none a.eval).run P w)
    rw [Oper.semAt_none]
    exact upon_in (ql_mono (fun a' w' h' => ql_ops l (k + 1) a' w' hl' (fun q hq => hg q (by simp [hq])) h') h)
theorem ql_region {P : Program} {ops : Array Oper} {id : Nat} {Q : Exit → Act → World → Prop} {a : Act} {w : World} (hg : (ops.toList.all fun o => o.guard.isNone) = true) (h : ql P ops.toList (Q .normal) Q a w) : (Code.region id ops false).wpIn (Fw none) 0 P Q a w := by
  refine wpIn_region ?_
  have := ql_ops (P := P) (ops := ops.toList) (Q := Q) ops.toList 0 a w (by simp) (fun o ho => by simpa using List.all_eq_true.1 hg o ho) h
  simpa [List.range_eq_range'] using this


/-- The first operations by hand, the others as wpOpsIn. -/
theorem ql_pre {P : Program} {ops : Array Oper} {id : Nat} {Q : Exit → Act → World → Prop} {a : Act} {w : World} (c : Nat) (hc : c ≤ ops.size) (hg : ((ops.toList.take c).all fun o => o.guard.isNone) = true) (h : ql P (ops.toList.take c) (fun a w => wpOpsIn (Fw none) 0 P ops Q (List.range' c (ops.size - c)) a w) Q a w) : (Code.region id ops false).wpIn (Fw none) 0 P Q a w := by
  refine wpIn_region ?_
  have key : ∀ (l : List Oper) (k : Nat) (a : Act) (w : World), k + l.length = c → (∀ j, j < l.length → l[j]? = ops[k + j]?) → (∀ o ∈ l, o.guard = none) → ql P l (fun a w => wpOpsIn (Fw none) 0 P ops Q (List.range' c (ops.size - c)) a w) Q a w →
      wpOpsIn (Fw none) 0 P ops Q (List.range' k l.length ++ List.range' c (ops.size - c)) a w := by
    intro l
    induction l with
    | nil => intro k a w _ _ _ h; exact h
    | cons o l ih =>
      intro k a w hk hl hg h
      rw [List.length_cons, List.range'_succ, List.cons_append, wpOpsIn_cons]
      have ho : ops[k]? = some o := by simpa using (hl 0 (by simp)).symm
      have hw : Region.wanted o (yielded ops a.tmps) = true := by unfold Region.wanted; rw [hg o (by simp)]
      unfold wpOpIn
      rw [ho]
      simp only [hw, if_true]
      refine ⟨fun _ _ => trivial, ?_⟩
      show Oper.uponIn (Fw none) 0 P o a _ Q ((o.semAt none a.eval).run P w)
      rw [Oper.semAt_none]
      exact upon_in (ql_mono (fun a' w' h' => ih (k + 1) a' w' (by simp only [List.length_cons] at hk; omega) (fun j hj => by
        have := hl (j + 1) (by simp; omega)
        simpa [Nat.add_assoc, Nat.add_comm 1 j] using this) (fun q hq => hg q (by simp [hq])) h') h)
  have hlen : (ops.toList.take c).length = c := by rw [List.length_take, Array.length_toList]; exact Nat.min_eq_left hc
  have := key (ops.toList.take c) 0 a w (by omega) (fun j hj => by
    rw [hlen] at hj
    rw [List.getElem?_take, if_pos hj]
    simp) (fun o ho => by simpa using List.all_eq_true.1 hg o ho) h
  rw [hlen] at this
  have e : List.range' 0 c ++ List.range' c (ops.size - c) = List.range ops.size := by
    rw [List.range_eq_range']
    have := List.range'_append_1 (s := 0) (m := c) (n := ops.size - c)
    rw [Nat.zero_add] at this
    rw [this]
    congr 1
    omega
  rw [e] at this
  exact this
end
end Go.Tk
/- CheckMakes: check.Make by hand, and calls. -/
set_option linter.unusedSimpArgs false
set_option linter.unusedVariables false
set_option linter.unnecessarySimpa false
set_option maxRecDepth 10000
set_option maxHeartbeats 1000000
namespace Go.Tk
open Go Go.RowKit
def makeV (p : List Lin) (s : List Int) (o : Int) : Tst := if makeErr p s o = 0 then (s, o, Rg (runS p s) o, ()) else (([] : List Int), 0, 0, ())
abbrev tP : T := .sl tL
abbrev tI : T := .sl .int
theorem arg3 {w : World} {S : Nat → Prop} {p : List Lin} {s : List Int} {o : Int} {pv sv : Value} (hp : (reps Go.Proofs.Try.prog tP).c w S p [pv]) (hs : (reps Go.Proofs.Try.prog tI).c w S s [sv]) (ho : inI o) :
    (reps Go.Proofs.Try.prog (.cons tP (.cons tI (.cons .int .nil)))).v w S (p, s, o, ()) [pv, sv, .int .i64 o] [] :=
  ⟨pv, [sv, .int .i64 o], [], [], rfl, rfl, ⟨rfl, [pv], rfl, hp⟩, sv, [.int .i64 o], [], [], rfl, rfl, ⟨rfl, [sv], rfl, hs⟩, .int .i64 o, [], [], [], rfl, rfl, ⟨rfl, [.int .i64 o], rfl, rfl, ho⟩, rfl, rfl⟩
theorem valP_call {w : World} {S : Nat → Prop} {p : List Lin} {pv : Value} (hx : (reps Go.Proofs.Try.prog tP).c w S p [pv]) :
    Calls Go.Proofs.Try.prog 88 #[pv] w fun e w' => e = .returned (.int .i64 (validP p)) ∧ inI (validP p) ∧ Below w.heap.size w w' := by
  refine ((cValP_ok.1 rfl) w S (p, ()) [pv] ⟨pv, [], [], [], rfl, rfl, ⟨rfl, [pv], rfl, hx⟩, rfl, rfl⟩ trivial).mono ?_
  rintro e w' ⟨rs, bs, rfl, ⟨u, us, _, _, rfl, _, ⟨_, cs, rfl, rfl, hi⟩, rfl, _⟩, _, _, hb⟩
  exact ⟨rfl, hi, hb⟩
theorem isS_call {w : World} {S : Nat → Prop} {s : List Int} {sv : Value} (hx : (reps Go.Proofs.Try.prog tI).c w S s [sv]) :
    Calls Go.Proofs.Try.prog 89 #[sv] w fun e w' => e = .returned (.bool (validS s)) ∧ Below w.heap.size w w' := by
  refine ((cIsState_ok.1 rfl) w S (s, ()) [sv] ⟨sv, [], [], [], rfl, rfl, ⟨rfl, [sv], rfl, hx⟩, rfl, rfl⟩ trivial).mono ?_
  rintro e w' ⟨rs, bs, rfl, ⟨u, us, _, _, rfl, _, ⟨_, cs, rfl, rfl⟩, rfl, _⟩, _, _, hb⟩
  exact ⟨rfl, hb⟩
theorem isR_call {w : World} {o : Int} (ho : inI o) :
    Calls Go.Proofs.Try.prog 90 #[.int .i64 o] w fun e w' => e = .returned (.bool (isReg o)) ∧ Below w.heap.size w w' := by
  refine ((cIsReg2_ok.1 rfl) w (fun _ => True) (o, ()) [.int .i64 o] ⟨.int .i64 o, [], [], [], rfl, rfl, ⟨rfl, [.int .i64 o], rfl, rfl, ho⟩, rfl, rfl⟩ trivial).mono ?_
  rintro e w' ⟨rs, bs, rfl, ⟨u, us, _, _, rfl, _, ⟨_, cs, rfl, rfl⟩, rfl, _⟩, _, _, hb⟩
  exact ⟨rfl, hb⟩
/-! ### Regions with guards, by hand -/
def qlg (P : Program) (ops : Array Oper) : List Oper → (Act → World → Prop) → (Exit → Act → World → Prop) → Act → World → Prop
  | [], K, _, a, w => K a w
  | o :: l, K, Q, a, w => if Region.wanted o (yielded ops a.tmps) = true then o.upon P a (fun a' w' => qlg P ops l K Q a' w') Q ((execOp a.eval o).run P w) else qlg P ops l K Q (a.put o.dst undef) w
theorem qlg_ops {P : Program} {ops : Array Oper} {Q : Exit → Act → World → Prop} : ∀ (l : List Oper) (k : Nat) (a : Act) (w : World), (∀ j, l[j]? = ops[k + j]?) → qlg P ops l (Q .normal) Q a w →
    wpOpsIn (Fw none) 0 P ops Q (List.range' k l.length) a w
  | [], k, a, w, _, h => by
    have h : Q .normal a w := h
    simpa [wpOpsIn] using h
  | o :: l, k, a, w, hl, h => by
    rw [List.length_cons, List.range'_succ, wpOpsIn_cons]
    have ho : ops[k]? = some o := by simpa using (hl 0).symm
    have hl' : ∀ j, l[j]? = ops[k + 1 + j]? := fun j => by have := hl (j + 1); simpa [Nat.add_assoc, Nat.add_comm 1 j] using this
    unfold wpOpIn
    rw [ho]
    simp only [qlg] at h
    split at h
    · rename_i hw
      simp only [hw, if_true]
      refine ⟨fun _ _ => trivial, ?_⟩
      show Oper.uponIn (Fw none) 0 P o a _ Q ((o.semAt none a.eval).run P w)
      rw [Oper.semAt_none]
      exact upon_in (ql_mono (fun a' w' h' => qlg_ops l (k + 1) a' w' hl' h') h)
    · rename_i hw
      simp only [hw]
      exact ⟨fun _ _ => trivial, qlg_ops l (k + 1) _ w hl' h⟩
theorem qlg_region {P : Program} {ops : Array Oper} {id : Nat} {Q : Exit → Act → World → Prop} {a : Act} {w : World} (h : qlg P ops ops.toList (Q .normal) Q a w) : (Code.region id ops false).wpIn (Fw none) 0 P Q a w := by
  refine wpIn_region ?_
  have := qlg_ops (P := P) (ops := ops) (Q := Q) ops.toList 0 a w (by simp) h
  simpa [List.range_eq_range'] using this
theorem end_call {w : World} {S : Nat → Prop} {p : List Lin} {s : List Int} {o : Int} {pv sv : Value} (hp : (reps Go.Proofs.Try.prog tP).c w S p [pv]) (hs : (reps Go.Proofs.Try.prog tI).c w S s [sv]) (ho : inI o) (h : validP p = 0 ∧ validS s = true ∧ 0 ≤ o ∧ o ≤ 3) :
    Calls Go.Proofs.Try.prog 75 #[pv, sv, .int .i64 o] w fun e w' => e = .returned (.int .i64 (Rg (runS p s) o)) ∧ inI (Rg (runS p s) o) ∧ Below w.heap.size w w' := by
  refine ((cEnd_ok.1 rfl) w S (p, s, o, ()) _ (arg3 hp hs ho) h).mono ?_
  rintro e w' ⟨rs, bs, rfl, ⟨u, us, _, _, rfl, _, ⟨_, cs, rfl, rfl, hi⟩, rfl, _⟩, _, _, hb⟩
  exact ⟨rfl, hi, hb⟩
theorem clone_call {w : World} {S : Nat → Prop} {s : List Int} {sv : Value} (hs : (reps Go.Proofs.Try.prog tI).c w S s [sv]) (hl : s.length ≤ 1000000) :
    Calls Go.Proofs.Try.prog 91 #[sv] w fun e w' => ∃ v ob, e = .returned v ∧ repOwn ((reps Go.Proofs.Try.prog .int).c w' fun b => w.heap.size ≤ b ∧ ¬ b ∈ (ob.map (·.1)).toList) 1 w' (fun _ => True) s v ob ∧ (∀ b ∈ (ob.map (·.1)).toList, w.heap.size ≤ b) ∧ Below w.heap.size w w' := by
  refine ((cCloneS_ok.1 rfl) w S (s, ()) [sv] ⟨sv, [], [], [], rfl, rfl, ⟨rfl, [sv], rfl, hs⟩, rfl, rfl⟩ hl).mono ?_
  rintro e w' ⟨rs, bs, rfl, ⟨u, us, b1, b2, rfl, hbs, ⟨ob, h1, h2⟩, rfl, hb2⟩, _, h3, hb⟩
  have hb2 : b2 = [] := hb2
  subst hb2
  rw [List.append_nil] at hbs
  subst hbs
  subst h2
  exact ⟨u, ob, rfl, h1, h3, hb⟩
theorem heap_self (w : World) (o : Obj) : (w.alloc o).heap[w.heap.size]? = some o := by show (w.heap.push o)[w.heap.size]? = some o; simp
theorem arr32 (x : Array Value) (h : x.size = 32) : ∃ x0 x1 x2 x3 x4 x5 x6 x7 x8 x9 x10 x11 x12 x13 x14 x15 x16 x17 x18 x19 x20 x21 x22 x23 x24 x25 x26 x27 x28 x29 x30 x31 : Value, x = #[x0, x1, x2, x3, x4, x5, x6, x7, x8, x9, x10, x11, x12, x13, x14, x15, x16, x17, x18, x19, x20, x21, x22, x23, x24, x25, x26, x27, x28, x29, x30, x31] := by
  obtain ⟨l⟩ := x
  match l, h with
  | x0 :: x1 :: x2 :: x3 :: x4 :: x5 :: x6 :: x7 :: x8 :: x9 :: x10 :: x11 :: x12 :: x13 :: x14 :: x15 :: x16 :: x17 :: x18 :: x19 :: x20 :: x21 :: x22 :: x23 :: x24 :: x25 :: x26 :: x27 :: x28 :: x29 :: x30 :: x31 :: [], _ => exact ⟨_, _, _, _, _, _, _, _, _, _, _, _, _, _, _, _, _, _, _, _, _, _, _, _, _, _, _, _, _, _, _, _, rfl⟩
/-- The temporaries by what they hold. -/
theorem act_gen {P : Program} {F : Fence} {c : Code} {Q : Exit → Act → World → Prop} {a : Act} {w : World} (h : ∀ tm : Array Value, tm.size = a.tmps.size → (∀ i, tm.getD i undef = a.tmps.getD i undef) → Code.wpIn F 0 P c Q ⟨tm, a.defers⟩ w) : Code.wpIn F 0 P c Q a w := h a.tmps rfl fun _ => rfl
def makePost (w : World) (p : List Lin) (s : List Int) (o : Int) : Ending → World → Prop := fun e w' => ∃ b off cap cur et, e = .returned (.tuple #[.agg #[.slice (some ⟨b, off, none⟩) s.length cap, .int .i64 o, .int .i64 (Rg (runS p s) o)], .int .i64 0]) ∧ inI (Rg (runS p s) o) ∧
      w.heap.size ≤ b ∧ w'.heap[b]? = some (.cells cur et (0, 0)) ∧ s.length ≤ cap ∧ off + cap ≤ cur.size ∧ (reps Go.Proofs.Try.prog tI).c w' (fun _ => True) s [.slice (some ⟨b, off, none⟩) s.length cap] ∧ Below w.heap.size w w'
theorem row_cell {w : World} {b k : Nat} {cur : Array Value} {e : TypeId} (h : w.heap[b]? = some (.cells cur e (0, 0))) : w.cell? ⟨b, k, none⟩ = cur[k]? := by
  simp [World.cell?, h]
theorem row_warm {w : World} {b k : Nat} {cur : Array Value} {e : TypeId} (h : w.heap[b]? = some (.cells cur e (0, 0))) : w.frozen? ⟨b, k, none⟩ = false := by
  unfold World.frozen?
  rw [h]
  simp
theorem set3 {w : World} {b : Nat} {e : TypeId} {x0 x1 x2 y0 y1 y2 : Value} (h : w.heap[b]? = some (.cells #[x0, x1, x2] e (0, 0))) : ((w.setCell ⟨b, 0, none⟩ y0).setCell ⟨b, 1, none⟩ y1).setCell ⟨b, 2, none⟩ y2 = w.setRow b #[y0, y1, y2] := by
  rw [setCell_eq_setRow w b 0 _ e (0, 0) y0 h]
  have h1 := setRow_heap w b _ (#[x0, x1, x2].setIfInBounds 0 y0) e (0, 0) h
  rw [setCell_eq_setRow _ b 1 _ e (0, 0) y1 h1, setRow_setRow]
  have h2 := setRow_heap w b _ ((#[x0, x1, x2].setIfInBounds 0 y0).setIfInBounds 1 y1) e (0, 0) h
  rw [setCell_eq_setRow _ b 2 _ e (0, 0) y2 h2, setRow_setRow]
  rfl
theorem make_ok {w : World} {S : Nat → Prop} {p : List Lin} {s : List Int} {o : Int} {pv sv : Value} (hp : (reps Go.Proofs.Try.prog tP).c w S p [pv]) (hs : (reps Go.Proofs.Try.prog tI).c w S s [sv]) (ho : inI o) (h0 : makeErr p s o = 0) :
    Calls Go.Proofs.Try.prog 44 #[pv, sv, .int .i64 o] w (makePost w p s o) := by
  have keepP : ∀ {W : World}, Below w.heap.size w W → (reps Go.Proofs.Try.prog tP).c W S p [pv] := fun hb => c_keep tP hp ⟨hb.size, fun b hb' _ => hb.block b hb'.lt⟩ fun _ _ h => h
  have keepS : ∀ {W : World}, Below w.heap.size w W → (reps Go.Proofs.Try.prog tI).c W S s [sv] := fun hb => c_keep tI hs ⟨hb.size, fun b hb' _ => hb.block b hb'.lt⟩ fun _ _ h => h
  have hv : validP p = 0 ∧ validS s = true ∧ isReg o = true := by
    unfold makeErr at h0
    split at h0
    · rename_i g
      have := argErr_zero.1 h0
      rw [Bool.and_eq_true] at this
      exact ⟨g, this⟩
    · rename_i g; exact absurd h0 g
  obtain ⟨v1, v2, v3⟩ := hv
  have v4 := isReg_ok v3
  have l4 := validS_len v2
  refine calls_of_wp Go.Proofs.Try.func44 rfl ?_
  rw [Go.Proofs.Try.ntmps44]
  refine (wpIn_wide (n := 0)).1 ?_
  show Code.wpIn (Fw none) 0 _ _ _ _ _
  refine wpIn_seq (ql_region rfl ?_)
  simp [ql, go_sem, Exit.then]
  generalize hW1 : w.alloc (.cells _ _) = W1
  have hb1 : Below w.heap.size w W1 := by rw [← hW1]; exact (Below.refl _ w).alloc (Nat.le_refl _) _
  have hc1 := heap_self w (.cells #[.slice none 0 0, .int .i64 0, .int .i64 0] 43)
  rw [hW1] at hc1
  refine wpIn_seq (wpIn_seq (ql_region rfl ?_))
  simp [ql, go_sem, Exit.then]
  refine (valP_call (keepP hb1)).mono ?_
  rintro e W2 ⟨rfl, _, hb2⟩
  simp [ql, go_sem, Exit.then, v1]
  refine wpIn_seq (ql_region rfl ?_)
  simp [ql, go_sem, Exit.then]
  refine wpIn_cond_false (by simp [Act.eval]) (wpIn_skip ?_)
  simp only [Exit.then]
  have hb02 := hb1.trans (hb2.mono hb1.size)
  refine wpIn_seq (wpIn_seq (qlg_region ?_))
  simp [qlg, Region.wanted, yielded, go_sem, Exit.then]
  refine (isS_call (keepS hb02)).mono ?_
  rintro e W3 ⟨rfl, hb3⟩
  simp [qlg, Region.wanted, yielded, go_sem, Exit.then, v2]
  refine (isR_call ho).mono ?_
  rintro e W4 ⟨rfl, hb4⟩
  simp [qlg, Region.wanted, yielded, go_sem, Exit.then, v3]
  refine wpIn_cond_false (by simp [Act.eval]) (wpIn_skip ?_)
  simp only [Exit.then]
  have hb03 := hb02.trans (hb3.mono hb02.size)
  have hb04 := hb03.trans (hb4.mono hb03.size)
  refine act_gen fun tm hsz hg => ?_
  have g0 := hg 0
  have g1 := hg 1
  have g2 := hg 2
  have g6 := hg 6
  simp at g0 g1 g2 g6 hsz
  obtain ⟨x0, x1, x2, x3, x4, x5, x6, x7, x8, x9, x10, x11, x12, x13, x14, x15, x16, x17, x18, x19, x20, x21, x22, x23, x24, x25, x26, x27, x28, x29, x30, x31, rfl⟩ := arr32 tm hsz
  simp at g0 g1 g2 g6
  subst g0; subst g1; subst g2; subst g6
  clear hg hsz
  refine wpIn_seq (ql_region rfl ?_)
  simp [ql, go_sem, Exit.then]
  refine (clone_call (keepS hb04) (by omega)).mono ?_
  rintro e W5 ⟨nv, ob, rfl, hown, hob, hb5⟩
  have hb05 := hb04.trans (hb5.mono hb04.size)
  rcases hown with ⟨_, g, _⟩ | ⟨b, off, cap, cur, et, rfl, rfl, _, k1, k2, k3, k4, k5⟩
  · rw [g] at l4; simp at l4
  have hgb : W4.heap.size ≤ b := hob b (by simp)
  simp [ql, go_sem, Exit.then]
  refine (end_call (keepP hb05) (keepS hb05) ho ⟨v1, v2, v4⟩).mono ?_
  rintro e W6 ⟨rfl, hiR, hb6⟩
  have hb06 := hb05.trans (hb6.mono hb05.size)
  have hbox : W6.heap[w.heap.size]? = some (.cells #[.slice none 0 0, .int .i64 0, .int .i64 0] 43) := by
    have s1 : w.heap.size < W1.heap.size := by rw [← hW1]; show w.heap.size < (w.heap.push _).size; rw [Array.size_push]; omega
    have s2 := hb2.size
    have s3 := hb3.size
    have s4 := hb4.size
    have s5 := hb5.size
    rw [hb6.block _ (by omega), hb5.block _ (by omega), hb4.block _ (by omega), hb3.block _ (by omega), hb2.block _ (by omega)]
    exact hc1
  have hown6 : repOwn ((reps Go.Proofs.Try.prog .int).c W6 fun b' => W4.heap.size ≤ b' ∧ ¬ b' ∈ [b]) 1 W6 (fun _ => True) s (.slice (some ⟨b, off, none⟩) s.length cap) (some (b, off)) :=
    .inr ⟨b, off, cap, cur, et, rfl, rfl, trivial, (hb6.block b (Array.getElem?_eq_some_iff.1 k1).1).trans k1, k2, k3, k4, repL_mono (fun _ _ h => h) _ _ k5⟩
  have hsl : (reps Go.Proofs.Try.prog tI).c W6 (fun _ => True) s [.slice (some ⟨b, off, none⟩) s.length cap] := ⟨_, rfl, repSl_of_own hown6 (fun _ _ _ => trivial) fun _ _ h => h⟩
  have htest : (reps Go.Proofs.Try.prog tTs).c W6 (fun _ => True) (s, o, Rg (runS p s) o, ()) [.slice (some ⟨b, off, none⟩) s.length cap, .int .i64 o, .int .i64 (Rg (runS p s) o)] :=
    ⟨[_], [_, _], rfl, hsl, [_], [_], rfl, ⟨rfl, ho⟩, [_], [], rfl, ⟨rfl, hiR⟩, rfl⟩
  have c0 : W6.cell? ⟨w.heap.size, 0, none⟩ = some (.slice none 0 0) := by rw [row_cell hbox]; rfl
  have c1 : W6.cell? ⟨w.heap.size, 1, none⟩ = some (.int .i64 0) := by rw [row_cell hbox]; rfl
  have c2 : W6.cell? ⟨w.heap.size, 2, none⟩ = some (.int .i64 0) := by rw [row_cell hbox]; rfl
  have f0 : ∀ k, W6.frozen? ⟨w.heap.size, k, none⟩ = false := fun k => row_warm hbox
  simp [ql, go_sem, Exit.then, c0, c1, c2, f0, World.cell?_setCell_other]
  rw [set3 hbox]
  have hrow := setRow_heap W6 w.heap.size _ #[.slice (some ⟨b, off, none⟩) s.length cap, .int .i64 o, .int .i64 (Rg (runS p s) o)] _ _ hbox
  generalize hW7 : W6.setRow w.heap.size _ = W7 at hrow
  have d0 : W7.cell? ⟨w.heap.size, 0, none⟩ = some (.slice (some ⟨b, off, none⟩) s.length cap) := by rw [row_cell hrow]; rfl
  have d1 : W7.cell? ⟨w.heap.size, 1, none⟩ = some (.int .i64 o) := by rw [row_cell hrow]; rfl
  have d2 : W7.cell? ⟨w.heap.size, 2, none⟩ = some (.int .i64 (Rg (runS p s) o)) := by rw [row_cell hrow]; rfl
  have s1 : w.heap.size < W1.heap.size := by rw [← hW1]; show w.heap.size < (w.heap.push _).size; rw [Array.size_push]; omega
  have s2 := hb2.size
  have s3 := hb3.size
  have s4 := hb4.size
  have s5 := hb5.size
  have hne : b ≠ w.heap.size := by omega
  have hB7 : Below w.heap.size w W7 := by
    rw [← hW7]
    exact ⟨hb06.os, hb06.tape, hb06.output, by rw [setRow_size]; exact hb06.size, fun i hi => by rw [setRow_other _ _ _ _ (by omega)]; exact hb06.block i hi⟩
  have hkeep : ∀ i, i ≠ w.heap.size → W7.heap[i]? = W6.heap[i]? := fun i hi => by rw [← hW7]; exact setRow_other _ _ _ _ hi
  have k16 := (hb6.block b (Array.getElem?_eq_some_iff.1 k1).1).trans k1
  refine wpIn_ret ?_
  refine ⟨rfl, _, ?_, b, off, cap, cur, et, rfl, hiR, by omega, (hkeep b hne).trans k16, k2, ?_, ?_, hB7⟩
  · simp [results, Go.Proofs.Try.results44, go_sem, d0, d1, d2]
  · simpa using k4
  · have hown7 : repOwn ((reps Go.Proofs.Try.prog .int).c W7 fun _ => True) 1 W7 (fun _ => True) s (.slice (some ⟨b, off, none⟩) s.length cap) (some (b, off)) :=
      .inr ⟨b, off, cap, cur, et, rfl, rfl, trivial, (hkeep b hne).trans k16, k2, k3, k4, repL_mono (fun _ _ h => h) _ _ k5⟩
    exact ⟨_, rfl, repSl_of_own hown7 (fun _ _ _ => trivial) fun _ _ h => h⟩
theorem makeV_ok {p : List Lin} {s : List Int} {o : Int} (h : makeErr p s o = 0) : makeV p s o = (s, o, Rg (runS p s) o, ()) := by unfold makeV; rw [if_pos h]
theorem makeV_no {p : List Lin} {s : List Int} {o : Int} (h : ¬ makeErr p s o = 0) : makeV p s o = ([], 0, 0, ()) := by unfold makeV; rw [if_neg h]
theorem make_call {w : World} {S : Nat → Prop} {p : List Lin} {s : List Int} {o : Int} {pv sv : Value} (hp : (reps Go.Proofs.Try.prog tP).c w S p [pv]) (hs : (reps Go.Proofs.Try.prog tI).c w S s [sv]) (ho : inI o) :
    Calls Go.Proofs.Try.prog 44 #[pv, sv, .int .i64 o] w fun e w' => ∃ nv, e = .returned (.tuple #[.agg #[nv, .int .i64 (makeV p s o).2.1, .int .i64 (makeV p s o).2.2.1], .int .i64 (makeErr p s o)]) ∧ inI (makeErr p s o) ∧ inI (makeV p s o).2.1 ∧ inI (makeV p s o).2.2.1 ∧
      (reps Go.Proofs.Try.prog tI).c w' (fun _ => True) (makeV p s o).1 [nv] ∧ ((makeV p s o).1 ≠ [] → ∃ b off cap cur et, nv = .slice (some ⟨b, off, none⟩) (makeV p s o).1.length cap ∧ w.heap.size ≤ b ∧ w'.heap[b]? = some (.cells cur et (0, 0)) ∧ (makeV p s o).1.length ≤ cap ∧ off + cap ≤ cur.size) ∧ Below w.heap.size w w' := by
  by_cases h0 : makeErr p s o = 0
  · rw [makeV_ok h0, h0]
    refine (make_ok hp hs ho h0).mono ?_
    rintro e w' ⟨b, off, cap, cur, et, rfl, h1, h2, h3, h4, h5, h6, h7⟩
    exact ⟨_, rfl, by unfold inI; omega, ho, h1, h6, fun _ => ⟨b, off, cap, cur, et, rfl, h2, h3, h4, h5⟩, h7⟩
  · rw [makeV_no h0]
    refine ((cMake_ok.1 rfl) w S (p, s, o, ()) _ (arg3 hp hs ho) trivial).mono ?_
    rintro e w' ⟨rs, bs, rfl, hr, _, _, hb⟩
    dsimp only [cMake] at hr
    rw [if_neg h0] at hr
    obtain ⟨u, us, _, _, rfl, _, ⟨_, cs, rfl, d1, d2, rfl, hd1, d3, d4, rfl, ⟨rfl, hi1⟩, d5, d6, rfl, ⟨rfl, hi2⟩, hd6⟩, u2, us2, _, _, rfl, _, ⟨_, cs2, rfl, rfl, hi3⟩, rfl, _⟩ := hr
    have hd6 : d6 = [] := hd6
    subst hd6
    obtain ⟨nv, rfl, hsl⟩ := hd1
    exact ⟨nv, rfl, hi3, hi1, hi2, c_mono tI ⟨nv, rfl, hsl⟩ (fun _ _ _ => trivial), fun h => absurd rfl h, hb⟩
theorem arr84 (x : Array Value) (h : x.size = 84) : ∃ x0 x1 x2 x3 x4 x5 x6 x7 x8 x9 x10 x11 x12 x13 x14 x15 x16 x17 x18 x19 x20 x21 x22 x23 x24 x25 x26 x27 x28 x29 x30 x31 x32 x33 x34 x35 x36 x37 x38 x39 x40 x41 x42 x43 x44 x45 x46 x47 x48 x49 x50 x51 x52 x53 x54 x55 x56 x57 x58 x59 x60 x61 x62 x63 x64 x65 x66 x67 x68 x69 x70 x71 x72 x73 x74 x75 x76 x77 x78 x79 x80 x81 x82 x83 : Value, x = #[x0, x1, x2, x3, x4, x5, x6, x7, x8, x9, x10, x11, x12, x13, x14, x15, x16, x17, x18, x19, x20, x21, x22, x23, x24, x25, x26, x27, x28, x29, x30, x31, x32, x33, x34, x35, x36, x37, x38, x39, x40, x41, x42, x43, x44, x45, x46, x47, x48, x49, x50, x51, x52, x53, x54, x55, x56, x57, x58, x59, x60, x61, x62, x63, x64, x65, x66, x67, x68, x69, x70, x71, x72, x73, x74, x75, x76, x77, x78, x79, x80, x81, x82, x83] := by
  obtain ⟨l⟩ := x
  match l, h with
  | x0 :: x1 :: x2 :: x3 :: x4 :: x5 :: x6 :: x7 :: x8 :: x9 :: x10 :: x11 :: x12 :: x13 :: x14 :: x15 :: x16 :: x17 :: x18 :: x19 :: x20 :: x21 :: x22 :: x23 :: x24 :: x25 :: x26 :: x27 :: x28 :: x29 :: x30 :: x31 :: x32 :: x33 :: x34 :: x35 :: x36 :: x37 :: x38 :: x39 :: x40 :: x41 :: x42 :: x43 :: x44 :: x45 :: x46 :: x47 :: x48 :: x49 :: x50 :: x51 :: x52 :: x53 :: x54 :: x55 :: x56 :: x57 :: x58 :: x59 :: x60 :: x61 :: x62 :: x63 :: x64 :: x65 :: x66 :: x67 :: x68 :: x69 :: x70 :: x71 :: x72 :: x73 :: x74 :: x75 :: x76 :: x77 :: x78 :: x79 :: x80 :: x81 :: x82 :: x83 :: [], _ => exact ⟨_, _, _, _, _, _, _, _, _, _, _, _, _, _, _, _, _, _, _, _, _, _, _, _, _, _, _, _, _, _, _, _, _, _, _, _, _, _, _, _, _, _, _, _, _, _, _, _, _, _, _, _, _, _, _, _, _, _, _, _, _, _, _, _, _, _, _, _, _, _, _, _, _, _, _, _, _, _, _, _, _, _, _, _, rfl⟩
abbrev cMakeR : Con := { A := (.cons (.sl tL) (.cons (.sl .int) (.cons .int .nil))), R := (.cons tTs (.cons .int .nil)), pre := fun x => True, F := fun x => (makeV x.1 x.2.1 x.2.2.1, makeErr x.1 x.2.1 x.2.2.1, ()) }
def cMakeR_0  (p : (List Lin)) (in_ : (List Int)) (out : Int) (y0 : Tst) (y1 : Int) : Prop :=
  True ∧ (if ((validP p) != (0 : Int)) = true then ((([] : List Int), 0, 0, ()) = y0 ∧ (validP p) = y1 ∧ True) else (True ∧ (if ((argErr (validS in_)) != (0 : Int)) = true then (true = true ∧ ((([] : List Int), 0, 0, ()) = y0 ∧ (1 : Int) = y1 ∧ True)) else (True ∧ (True ∧ (if (bif false then true else (!(within out (0 : Int) (3 : Int)))) = true then ((([] : List Int), 0, 0, ()) = y0 ∧ (1 : Int) = y1 ∧ True) else (List.length ([] : List Int) + List.length in_ ≤ 4294967296 ∧ ((validP p = 0 ∧ validS in_ = true ∧ 0 ≤ out ∧ out ≤ 3) ∧ (((([] : List Int) ++ in_), out, (Rg (runS p in_) out), ()) = y0 ∧ (0 : Int) = y1 ∧ True)))))))))
theorem cMakeR_law (h : ∀ (p : (List Lin)) (in_ : (List Int)) (out : Int), cMakeR.A.wf (p, in_, out, ()) → cMakeR_0  p in_ out (makeV p in_ out) (makeErr p in_ out)) : ConOK Go.Proofs.Try.prog 45 cMakeR := by
  refine lawL (Γ := [(72, cMade), (76, cValPR), (68, cValSR), (69, cWithinR2)]) (Θ := Th) (n := 33) [] ⟨cMade_ok, cValPR_ok, cValSR_ok, cWithinR2_ok, trivial⟩ (by kernel_rfl) th_ok mix_ok Go.Proofs.Try.func45 (by kernel_rfl) ?_
  intro x hw hp Λ hC
  have h0 := h x.1 x.2.1 x.2.2.1 hw  
  exact Eq.mpr (by kernel_rfl) h0
theorem cMakeR_ok : ConOK Go.Proofs.Try.prog 45 cMakeR := by
  refine cMakeR_law ?_
  intro p in_ out hw
  unfold cMakeR_0
  refine ⟨trivial, ?_⟩
  by_cases g1 : validP p = 0
  · rw [if_neg (by simp [g1])]
    refine ⟨trivial, ?_⟩
    cases g2 : validS in_
    · have e : makeErr p in_ out = 1 := by unfold makeErr; rw [if_pos g1, g2]; exact argErr_no rfl
      rw [if_pos (by rfl), e, makeV_no (by omega)]
      exact ⟨rfl, rfl, rfl, trivial⟩
    · rw [if_neg (by simp [argErr])]
      refine ⟨trivial, trivial, ?_⟩
      have hw3 : within out 0 3 = isReg out := rfl
      rw [hw3]
      cases g3 : isReg out
      · have e : makeErr p in_ out = 1 := by unfold makeErr; rw [if_pos g1, g2, g3]; exact argErr_no rfl
        rw [if_pos (by rfl), e, makeV_no (by omega)]
        exact ⟨rfl, rfl, trivial⟩
      · have e : makeErr p in_ out = 0 := by unfold makeErr; rw [if_pos g1, g2, g3]; exact argErr_ok rfl
        have l := validS_len g2
        have e1 : err1 p in_ = 0 := by unfold err1; rw [if_pos g1, g2]; rfl
        rw [if_neg (by simp), makeV_ok e, e, List.nil_append]
        refine ⟨by simp only [List.length_nil]; omega, ⟨g1, rfl, isReg_ok g3⟩, rfl, rfl, trivial⟩
  · have e : makeErr p in_ out = validP p := by unfold makeErr; rw [if_neg g1]
    rw [if_pos (by simpa using g1), makeV_no (by rw [e]; exact g1), e]
    exact ⟨rfl, rfl, trivial⟩
abbrev cSameTst : Con := { A := (.cons tTs (.cons tTs .nil)), R := (.cons .bool .nil), pre := fun x => x.1.1.length ≤ 1000000, F := fun x => (decide (x.1 = x.2.1), ()) }
def cSameTst_0  (a : Tst) (b : Tst) (y0 : Bool) : Prop :=
  a.1.length ≤ 1000000 ∧ (if (decide (a.1 = b.1)) = true then (True ∧ (if (bif true then (a.2.1 == b.2.1) else false) = true then (True ∧ ((bif true then (a.2.2.1 == b.2.2.1) else false) = y0 ∧ True)) else (false = false ∧ (false = y0 ∧ True)))) else (false = false ∧ (false = false ∧ (false = y0 ∧ True))))
theorem cSameTst_law (h : ∀ (a : Tst) (b : Tst), cSameTst.A.wf (a, b, ()) → (a.1.length ≤ 1000000) → cSameTst_0  a b (decide (a = b))) : ConOK Go.Proofs.Try.prog 46 cSameTst := by
  refine lawL (Γ := [(32, cSameIntsR)]) (Θ := Th) (n := 24) [] ⟨cSameIntsR_ok, trivial⟩ (by kernel_rfl) th_ok mix_ok Go.Proofs.Try.func46 (by kernel_rfl) ?_
  intro x hw hp Λ hC
  have h0 := h x.1 x.2.1 hw hp  
  exact Eq.mpr (by kernel_rfl) h0
theorem cSameTst_ok : ConOK Go.Proofs.Try.prog 46 cSameTst := by
  refine cSameTst_law ?_
  intro a b hw hp
  unfold cSameTst_0
  refine ⟨hp, ?_⟩
  obtain ⟨a1, a2, a3, ⟨⟩⟩ := a
  obtain ⟨b1, b2, b3, ⟨⟩⟩ := b
  dsimp only
  by_cases c1 : a1 = b1
  · subst c1
    rw [if_pos (by simp)]
    refine ⟨trivial, ?_⟩
    by_cases c2 : a2 = b2
    · subst c2
      rw [if_pos (by simp)]
      refine ⟨trivial, ?_, trivial⟩
      rw [Bool.eq_iff_iff]; simp
    · rw [if_neg (by simpa using c2)]
      refine ⟨rfl, ?_, trivial⟩
      rw [eq_comm, decide_eq_false_iff_not]; simp [c2]
  · rw [if_neg (by simpa using c1)]
    refine ⟨rfl, rfl, ?_, trivial⟩
    rw [eq_comm, decide_eq_false_iff_not]; simp [c1]
theorem eng_toR {P : Program} {w0 w : World} {cx : Cx} (hk : Cok P cx) (hmix : P.follows .mixedOrders = true) (hx : cx.X.itf = none) (hpn : cx.X.pan = none) {code : Code} {n0 : Nat} {S : Nat → Prop} {kv : Nat → Option Value} {kb : Nat → Prop} {tv : Nat → Option Obj} {st : St} {a : Act} {Q : Exit → Act → World → Prop} (ly : List (Pth × Lay)) (Fin : St → Prop)
    (hR : Rel P (hB n0 S kv kb tv) w0 cx.n st a w) (hok : (okC cx.n code && noRF code) = true) (hkv : ∀ t ∈ wrs code, kv t = none) (hQ : ∀ st a w, Fin st → Rel P (hB n0 S kv kb tv) w0 cx.n st a w → Q .ret a w)
    (h : ∀ Λ : Pth → Lst → Prop, Λ = Sem P (hB n0 S kv kb tv) w0 cx.n code Q → Wl cx (LyL ly) Λ code (fun e st => match e with | .ret => Fin st | _ => False) st) : code.wpIn (Fw none) 0 P Q a w := by
  rw [Bool.and_eq_true] at hok
  have := (sound hk hmix code (hB n0 S kv kb tv) w0 (LyL ly) (fun e st => match e with | .ret => Fin st | _ => False) Q hok.1 ⟨hkv, .inl hok.2, fun fr e => (by rw [hx] at e; cases e), .inl hpn⟩ (fun e st a w h hR => by
    cases e <;> first | exact h.elim | skip
    exact hQ st a w h hR) fun p hp => by rw [hpn] at hp; cases hp).1 st a w (h _ rfl) hR
  exact this
def finB (t : Nat) (st : St) : Prop := match st.env t with
  | .d _ .bool x => x = true ∧ True
  | _ => False
theorem long_call {w : World} {S : Nat → Prop} {p : List Lin} {pv : Value} (hx : (reps Go.Proofs.Try.prog tP).c w S p [pv]) :
    Calls Go.Proofs.Try.prog 16 #[pv] w fun e w' => e = .returned (.bool (decide (100 < p.length))) ∧ Below w.heap.size w w' := by
  refine ((cLongL_ok.1 rfl) w S (p, ()) [pv] ⟨pv, [], [], [], rfl, rfl, ⟨rfl, [pv], rfl, hx⟩, rfl, rfl⟩ trivial).mono ?_
  rintro e w' ⟨rs, bs, rfl, ⟨u, us, _, _, rfl, _, ⟨_, cs, rfl, rfl⟩, rfl, _⟩, _, _, hb⟩
  exact ⟨rfl, hb⟩
theorem large_call {w : World} {S : Nat → Prop} {s : List Int} {sv : Value} (hx : (reps Go.Proofs.Try.prog tI).c w S s [sv]) :
    Calls Go.Proofs.Try.prog 27 #[sv] w fun e w' => e = .returned (.bool (decide (100 < s.length))) ∧ Below w.heap.size w w' := by
  refine ((cLarge2_ok.1 rfl) w S (s, ()) [sv] ⟨sv, [], [], [], rfl, rfl, ⟨rfl, [sv], rfl, hx⟩, rfl, rfl⟩ trivial).mono ?_
  rintro e w' ⟨rs, bs, rfl, ⟨u, us, _, _, rfl, _, ⟨_, cs, rfl, rfl⟩, rfl, _⟩, _, _, hb⟩
  exact ⟨rfl, hb⟩
theorem known_call {w : World} : Calls Go.Proofs.Try.prog 18 #[] w fun e w' => e = .returned (.bool true) ∧ Below w.heap.size w w' := by
  refine ((cKnown2_ok.1 rfl) w (fun _ => True) () [] ⟨rfl, rfl⟩ trivial).mono ?_
  rintro e w' ⟨rs, bs, rfl, ⟨u, us, _, _, rfl, _, ⟨_, cs, rfl, rfl⟩, rfl, _⟩, _, _, hb⟩
  exact ⟨rfl, hb⟩
theorem same_call {w : World} {S S' : Nat → Prop} {s t : List Int} {sv tv : Value} (hs : (reps Go.Proofs.Try.prog tI).c w S s [sv]) (ht : (reps Go.Proofs.Try.prog tI).c w S t [tv]) (hl : s.length ≤ 1000000) :
    Calls Go.Proofs.Try.prog 32 #[sv, tv] w fun e w' => e = .returned (.bool (decide (s = t))) ∧ Below w.heap.size w w' := by
  refine ((cSameIntsR_ok.1 rfl) w S (s, t, ()) [sv, tv] ⟨sv, [tv], [], [], rfl, rfl, ⟨rfl, [sv], rfl, hs⟩, tv, [], [], [], rfl, rfl, ⟨rfl, [tv], rfl, ht⟩, rfl, rfl⟩ hl).mono ?_
  rintro e w' ⟨rs, bs, rfl, ⟨u, us, _, _, rfl, _, ⟨_, cs, rfl, rfl⟩, rfl, _⟩, _, _, hb⟩
  exact ⟨rfl, hb⟩
end Go.Tk
/- CheckMakes, by hand: the test is in new memory, and is written to. -/
set_option linter.unusedSimpArgs false
set_option linter.unusedVariables false
set_option linter.unnecessarySimpa false
set_option maxRecDepth 10000
set_option maxHeartbeats 1000000
namespace Go.Tk
open Go Go.RowKit
abbrev cCheckMakes : Con := { A := (.cons (.sl tL) (.cons (.sl .int) (.cons .int .nil))), R := (.cons .bool .nil), pre := fun x => True, F := fun x => (true, ()) }
theorem app_own {w : World} {S : Nat → Prop} {s : List Int} {sv : Value} {b : Nat} (hs : (reps Go.Proofs.Try.prog tI).c w S s [sv]) (hb : w.heap[b]? = some (.cells #[] 3 (0, 0))) (hl : s.length ≤ 1000000) (ty : TypeId) :
    ∃ ov w' ob, (Builtin.append_ #[35, 35] ty #[.slice (some ⟨b, 0, none⟩) 0 0, sv]).run Go.Proofs.Try.prog w = .ok ov w' ∧ (reps Go.Proofs.Try.prog tI).c w' (fun _ => True) s [ov] ∧ w'.os = w.os ∧ w'.tape = w.tape ∧ w'.output = w.output ∧ w.heap.size ≤ w'.heap.size ∧ (∀ i, i < w.heap.size → i ≠ b → w'.heap[i]? = w.heap[i]?) ∧ ob = b := by
  obtain ⟨e, u1, u2⟩ := ty_sl ((tyB_ok Go.Proofs.Try.prog tI).1 35 (by kernel_rfl))
  obtain ⟨u, e1, hsl⟩ := hs
  cases e1
  obtain ⟨v', w', ob', r1, r2, r3, r4, r5, r6, r7, r8⟩ := run_append (P := Go.Proofs.Try.prog) (t := 35) (e := e) (ty := ty) (a := .int) u1 u2 rfl (R := (reps Go.Proofs.Try.prog .int).c w S) (fun x cs h => ⟨by rw [h.1]; rfl, c_one .int h⟩) (S := fun _ => True) (xs := []) (ys := s) (v := .slice (some ⟨b, 0, none⟩) 0 0) (ob := some (b, 0)) (.inr ⟨b, 0, 0, #[], _, rfl, rfl, trivial, hb, by simp, by simp, by simp, rfl⟩) (by
    obtain ⟨ao, c, g1, g2, g3, g4⟩ := hsl
    refine ⟨ao, c, g1, g2, g3, ?_⟩
    rcases g4 with g | ⟨b', off, cs, k1, k2, k3, k4, k5⟩
    · exact .inl g
    · exact .inr ⟨b', off, cs, k1, trivial, k3, k4, k5⟩) (by simp; omega)
  refine ⟨v', w', b, r1, ⟨v', rfl, repSl_of_own r2 (fun _ _ _ => trivial) fun x cs h => h⟩, r3, r4, r5, r6, fun i hi hne => r7 i hi fun o e => ?_, rfl⟩
  cases e
  exact hne rfl
theorem run_app2 {P : Program} {ev : Operand → Value} {w w' : World} {o : Oper} {x y : Operand} {vx vy : Value} {tt : Array TypeId} {v' : Value} (ho : o.op = .call ⟨.builtin .append, #[x, y], tt⟩) (hx : ev x = vx) (hy : ev y = vy) (h : (Builtin.append_ tt o.type #[vx, vy]).run P w = .ok v' w') : (execOp ev o).run P w = .ok (.value v') w' := by
  unfold execOp
  rw [ho]
  simp only [resolve, Sem.run_bind, Sem.run_pure, Result.andThen_ok, invoke, builtin]
  have h' : (Builtin.append_ tt o.type (Array.map ev #[x, y])).run P w = .ok v' w' := by simpa [hx, hy] using h
  rw [h']
  rfl
theorem lk_key {α : Type _} : ∀ {E : List (Nat × α)} {t : Nat} {U : α}, lk E t = some U → t ∈ E.map (·.1)
  | [], _, _, h => by cases h
  | (k, v) :: E, t, U, h => by
    simp only [lk] at h
    split at h
    · rename_i e
      have : k = t := Nat.eq_of_beq_eq_true e
      simp [this]
    · simp [lk_key h]
def kvL (L : List (Nat × Value)) : Nat → Option Value := fun t => lk L t
theorem kvL_no {L : List (Nat × Value)} {t : Nat} (h : t ∉ L.map (·.1)) : kvL L t = none := by
  cases e : lk L t with
  | none => exact e
  | some v => exact absurd (lk_key e) h
theorem rel_isl {w : World} {n : Nat} {kv : Nat → Option Value} {E : List (Nat × V)} {a : Act} (hsz : a.tmps.size = n) (hd : a.defers = []) (hkp : ∀ t v, kv t = some v → a.tmps.getD t undef = v)
    (hE : ∀ t U, lk E t = some U → ∀ G, (∀ b, dS (hB w.heap.size (fun _ => True) kv (fun _ => False) fun b => w.heap[b]?) G (mkLoc []) false b) → ERep Go.Proofs.Try.prog (hB w.heap.size (fun _ => True) kv (fun _ => False) fun b => w.heap[b]?) G (mkLoc []) w U (a.tmps.getD t undef)) :
    Rel Go.Proofs.Try.prog (hB w.heap.size (fun _ => True) kv (fun _ => False) fun b => w.heap[b]?) w n (mkSt (E, [])) a w :=
  rel_env (rel_zero hsz hd hkp (fun _ h => h.elim)) hsz hd hkp (fun t U h => .inr fun G hm => hE t U h G fun b => ⟨⟨fun e => (by cases e), .inr trivial⟩, fun k g l hk => (by cases hk), fun h => h⟩)
theorem lk_in {α : Type _} : ∀ {E : List (Nat × α)} {t : Nat} {U : α}, lk E t = some U → (t, U) ∈ E
  | [], _, _, h => by cases h
  | (k, v) :: E, t, U, h => by
    simp only [lk] at h
    split at h
    · rename_i e
      have : k = t := Nat.eq_of_beq_eq_true e
      cases h
      simp [this]
    · simp [lk_in h]
theorem tail_ops {P : Program} {ops : Array Oper} {Q : Exit → Act → World → Prop} {a : Act} {w : World} (k c : Nat) (hc : (ops.toList.drop k).length = c) (h : qlg P ops (ops.toList.drop k) (Q .normal) Q a w) : wpOpsIn (Fw none) 0 P ops Q (List.range' k c) a w := by
  subst hc
  exact qlg_ops _ k a w (fun j => by simp [List.getElem?_drop]) h
theorem make_pass {p : List Lin} {s : List Int} {o : Int} (h : makeErr p s o = 0) : errT [p] [makeV p s o] = 0 ∧ passT p (makeV p s o) = true := by
  rw [makeV_ok h]
  unfold makeErr at h
  split at h
  · rename_i g
    have h2 := argErr_zero.1 h
    rw [Bool.and_eq_true] at h2
    obtain ⟨g1, g2⟩ := h2
    refine ⟨?_, ?_⟩
    · unfold errT firstErr firstErr
      rw [if_pos g, if_pos rfl]
      unfold validT isTst
      rw [if_neg (by simp)]
      have hv : isVal (Rg (runS p s) o) = true := isVal_iff.2 (validS_get (runS_ok g1) o)
      simp [g1, g2, hv, argErr]
    · unfold passT endT
      simp
  · rename_i g; exact absurd h g
theorem cCheckMakes_ok : ConOK Go.Proofs.Try.prog 9 cCheckMakes := by
  refine ConOK.f ?_ rfl
  rintro w S ⟨p, s, o, ⟨⟩⟩ vs hv _
  change List Lin at p
  change List Int at s
  change Int at o
  obtain ⟨pv, vs1, b1, b2, rfl, e2, ⟨_, xc, ex, hpr⟩, sv, vs2, b3, b4, rfl, e3, ⟨_, yc, ey, hsr⟩, ov, vs3, b5, b6, rfl, e4, ⟨_, zc, ez, hoi, hio⟩, rfl, _⟩ := hv
  have hpr0 := hpr
  have hsr0 := hsr
  obtain ⟨pv', exc, hps⟩ := hpr
  obtain ⟨sv', eyc, hss⟩ := hsr
  subst exc
  subst eyc
  subst hoi
  obtain rfl : pv = pv' := ex
  obtain rfl : sv = sv' := ey
  obtain rfl : ov = .int .i64 o := ez
  have hpr : (reps Go.Proofs.Try.prog tP).c w S p [pv] := hpr0
  have hsr : (reps Go.Proofs.Try.prog tI).c w S s [sv] := hsr0
  have keepP : ∀ {W : World}, Below w.heap.size w W → (reps Go.Proofs.Try.prog tP).c W S p [pv] := fun hb => c_keep tP hpr ⟨hb.size, fun b hb' _ => hb.block b hb'.lt⟩ fun _ _ h => h
  have keepS : ∀ {W : World}, Below w.heap.size w W → (reps Go.Proofs.Try.prog tI).c W S s [sv] := fun hb => c_keep tI hsr ⟨hb.size, fun b hb' _ => hb.block b hb'.lt⟩ fun _ _ h => h
  suffices H : ∀ PO : Ending → World → Prop, (∀ W, Below w.heap.size w W → PO (.returned (.bool true)) W) → Calls Go.Proofs.Try.prog 9 #[pv, sv, .int .i64 o] w PO from
    H _ fun W hb => ⟨[.bool true], [], rfl, ⟨.bool true, [], [], [], rfl, rfl, ⟨rfl, [.bool true], rfl, rfl⟩, rfl, rfl⟩, by simp, by simp, hb⟩
  intro PO hpost
  refine calls_of_wp Go.Proofs.Try.func9 rfl ?_
  rw [Go.Proofs.Try.ntmps9]
  refine (wpIn_wide (n := 0)).1 ?_
  show Code.wpIn (Fw none) 0 _ _ _ _ _
  refine wpIn_seq (ql_region rfl ?_)
  simp [ql, go_sem, Exit.then]
  refine wpIn_seq (wpIn_seq (qlg_region ?_))
  simp [qlg, Region.wanted, yielded, go_sem, Exit.then]
  refine (long_call hpr).mono ?_
  rintro e W1 ⟨rfl, hb1⟩
  have known : ∀ {W : World} {a : Act}, Below w.heap.size w W → Calls Go.Proofs.Try.prog 18 #[] W fun e w' => e = .returned (.bool true) ∧ Below w.heap.size w w' := fun hb => known_call.mono (by
    rintro e w' ⟨rfl, h⟩; exact ⟨rfl, hb.trans (h.mono hb.size)⟩)
  by_cases c1 : 100 < p.length
  · simp [qlg, Region.wanted, yielded, go_sem, Exit.then, c1]
    refine wpIn_cond_true (by simp [Act.eval]) (wpIn_seq (ql_region rfl ?_))
    simp [ql, go_sem, Exit.then]
    refine (known (a := ⟨#[], []⟩) hb1).mono ?_
    rintro e W2 ⟨rfl, hb2⟩
    simp [ql, go_sem, Exit.then]
    refine wpIn_ret ?_
    exact ⟨rfl, .bool true, by simp [results, Go.Proofs.Try.results9, go_sem], hpost _ hb2⟩
  simp [qlg, Region.wanted, yielded, go_sem, Exit.then, c1]
  refine (large_call (keepS hb1)).mono ?_
  rintro e W2 ⟨rfl, hb2⟩
  have hb02 := hb1.trans (hb2.mono hb1.size)
  by_cases c2 : 100 < s.length
  · simp [qlg, Region.wanted, yielded, go_sem, Exit.then, c2]
    refine wpIn_cond_true (by simp [Act.eval]) (wpIn_seq (ql_region rfl ?_))
    simp [ql, go_sem, Exit.then]
    refine (known (a := ⟨#[], []⟩) hb02).mono ?_
    rintro e W3 ⟨rfl, hb3⟩
    simp [ql, go_sem, Exit.then]
    refine wpIn_ret ?_
    exact ⟨rfl, .bool true, by simp [results, Go.Proofs.Try.results9, go_sem], hpost _ hb3⟩
  simp [qlg, Region.wanted, yielded, go_sem, Exit.then, c2]
  refine wpIn_cond_false (by simp [Act.eval]) (wpIn_skip ?_)
  simp only [Exit.then]
  refine act_gen fun tm hsz hg => ?_
  have g0 := hg 0
  have g1 := hg 1
  have g2 := hg 2
  simp at g0 g1 g2 hsz
  obtain ⟨x0, x1, x2, x3, x4, x5, x6, x7, x8, x9, x10, x11, x12, x13, x14, x15, x16, x17, x18, x19, x20, x21, x22, x23, x24, x25, x26, x27, x28, x29, x30, x31, x32, x33, x34, x35, x36, x37, x38, x39, x40, x41, x42, x43, x44, x45, x46, x47, x48, x49, x50, x51, x52, x53, x54, x55, x56, x57, x58, x59, x60, x61, x62, x63, x64, x65, x66, x67, x68, x69, x70, x71, x72, x73, x74, x75, x76, x77, x78, x79, x80, x81, x82, x83, rfl⟩ := arr84 tm hsz
  simp at g0 g1 g2
  subst g0; subst g1; subst g2
  clear hg hsz
  have hsl : s.length ≤ 100 := by omega
  have hpl : p.length ≤ 100 := by omega
  refine wpIn_seq (ql_pre 2 (by decide) rfl ?_)
  simp [ql, go_sem]
  generalize hW3 : W2.alloc (.cells #[] 3) = W3
  have hb3 : Below w.heap.size w W3 := by rw [← hW3]; exact hb02.alloc hb02.size _
  have hc3 := heap_self W2 (.cells #[] 3)
  rw [hW3] at hc3
  obtain ⟨ov, W4, _, hrun, howr, a1, a2, a3, a4, a5, _⟩ := app_own (ty := 35) (keepS hb3) hc3 (by omega)
  have s2 := hb02.size
  have hb4 : Below w.heap.size w W4 := ⟨a1.trans hb3.os, a2.trans hb3.tape, a3.trans hb3.output, Nat.le_trans hb3.size a4, fun i hi => by
    rw [a5 i (by have := hb3.size; omega) (by omega)]; exact hb3.block i hi⟩
  show wpOpsIn _ _ _ _ _ [2, 3] _ _
  refine sp_val (v := ov) (w1 := W4) rfl rfl ?_ ?_
  · exact run_app2 rfl (by simp [Act.eval]) (by simp [Act.eval]) hrun
  refine sp_val (v := ov) (w1 := W4) rfl rfl (by simp [go_sem, execOp, Act.eval]) ?_
  show Code.wpIn (Fw none) 0 _ _ _ _ _
  refine act_gen fun tm hsz hg => ?_
  have g0 := hg 0
  have g1 := hg 1
  have g2 := hg 2
  have g7 := hg 7
  simp at g0 g1 g2 g7 hsz
  clear hg
  obtain ⟨x0, x1, x2, x3, x4, x5, x6, x7, x8, x9, x10, x11, x12, x13, x14, x15, x16, x17, x18, x19, x20, x21, x22, x23, x24, x25, x26, x27, x28, x29, x30, x31, x32, x33, x34, x35, x36, x37, x38, x39, x40, x41, x42, x43, x44, x45, x46, x47, x48, x49, x50, x51, x52, x53, x54, x55, x56, x57, x58, x59, x60, x61, x62, x63, x64, x65, x66, x67, x68, x69, x70, x71, x72, x73, x74, x75, x76, x77, x78, x79, x80, x81, x82, x83, rfl⟩ := arr84 tm hsz
  simp at g0 g1 g2 g7
  subst g0; subst g1; subst g2; subst g7
  clear hsz
  refine wpIn_seq (ql_pre 8 (by decide) rfl ?_)
  simp [ql, go_sem]
  refine (make_call (S := fun _ => True) (c_mono tP (keepP hb4) fun _ _ _ => trivial) howr hio).mono ?_
  rintro e W5 ⟨nv, rfl, hiE, hi1, hi2, hnv, hown, hb5⟩
  obtain ⟨ao, cp, rfl⟩ : ∃ ao cp, nv = .slice ao (makeV p s o).1.length cp := by
    obtain ⟨u, e, ao, cp, e2, _⟩ := hnv
    cases e
    exact ⟨ao, cp, e2⟩
  simp [ql, go_sem]
  show wpOpsIn _ _ _ _ _ (List.range' 8 2) _ _
  have hz := heap_self W5 (.cells #[.slice none 0 0, .int .i64 0, .int .i64 0] 43)
  generalize hW6 : W5.alloc (.cells _ _) = W6 at hz ⊢
  have z0 : W6.cell? ⟨W5.heap.size, 0, none⟩ = some (.slice none 0 0) := by rw [row_cell hz]; rfl
  have z1 : W6.cell? ⟨W5.heap.size, 1, none⟩ = some (.int .i64 0) := by rw [row_cell hz]; rfl
  have z2 : W6.cell? ⟨W5.heap.size, 2, none⟩ = some (.int .i64 0) := by rw [row_cell hz]; rfl
  have zf : ∀ k, W6.frozen? ⟨W5.heap.size, k, none⟩ = false := fun k => row_warm hz
  refine tail_ops 8 2 rfl ?_
  simp [qlg, Region.wanted, yielded, go_sem, Exit.then, z0, z1, z2, zf, World.cell?_setCell_other]
  rw [set3 hz]
  have hrow := setRow_heap W6 W5.heap.size _ #[.slice ao (makeV p s o).1.length cp, .int .i64 (makeV p s o).2.1, .int .i64 (makeV p s o).2.2.1] _ _ hz
  have hB7 : Below W4.heap.size W4 (W6.setRow W5.heap.size #[.slice ao (makeV p s o).1.length cp, .int .i64 (makeV p s o).2.1, .int .i64 (makeV p s o).2.2.1]) := by
    have h6 : Below W4.heap.size W4 W6 := by rw [← hW6]; exact hb5.alloc hb5.size _
    have := hb5.size
    exact ⟨h6.os, h6.tape, h6.output, by rw [setRow_size]; exact h6.size, fun i hi => by rw [setRow_other _ _ _ _ (by omega)]; exact h6.block i hi⟩
  have hK7 : ∀ i, i < W5.heap.size → (W6.setRow W5.heap.size #[.slice ao (makeV p s o).1.length cp, .int .i64 (makeV p s o).2.1, .int .i64 (makeV p s o).2.2.1]).heap[i]? = W5.heap[i]? := fun i hi => by
    rw [setRow_other _ _ _ _ (by omega), ← hW6]; exact Below.heap_alloc W5 _ i hi
  have hS7 : W5.heap.size < (W6.setRow W5.heap.size #[.slice ao (makeV p s o).1.length cp, .int .i64 (makeV p s o).2.1, .int .i64 (makeV p s o).2.2.1]).heap.size := by
    rw [setRow_size, ← hW6]; show _ < (W5.heap.push _).size; rw [Array.size_push]; omega
  generalize hW7 : W6.setRow W5.heap.size _ = W7 at hrow hB7 hK7 hS7 ⊢
  clear hW7 z0 z1 z2 zf hz hW6
  refine act_gen fun tm hsz hg => ?_
  have g0 := hg 0
  have g1 := hg 1
  have g2 := hg 2
  have g7 := hg 7
  have g8 := hg 8
  have g9 := hg 9
  simp at g0 g1 g2 g7 g8 g9 hsz
  have hb7 : Below w.heap.size w W7 := hb4.trans (hB7.mono hb4.size)
  have s45 := hb5.size
  have hp7 := c_mono (S' := fun _ => True) tP (keepP hb7) fun _ _ _ => trivial
  have hs7 := c_mono (S' := fun _ => True) tI (keepS hb7) fun _ _ _ => trivial
  have hn7 : (reps Go.Proofs.Try.prog tI).c W7 (fun _ => True) (makeV p s o).1 [.slice ao (makeV p s o).1.length cp] := c_keep tI hnv ⟨Nat.le_of_lt hS7, fun b hb' _ => hK7 b hb'.lt⟩ fun _ _ h => h
  have hE7 : validP p = 0 ∨ ¬ validP p = 0 := Classical.em _
  have hk : Cok Go.Proofs.Try.prog ⟨[(45, cMakeR), (28, cPasses), (46, cSameTst)], Th, 84, noX⟩ := cok_of ⟨cMakeR_ok, cPasses_ok, cSameTst_ok, trivial⟩ (by kernel_rfl) th_ok
  have hR := rel_isl (w := W7) (n := 84) (kv := kvL [(1, x1), (7, x7), (8, .pointer (some ⟨W5.heap.size, 0, none⟩))]) (E := [(0, .d false tP p), (1, .d false tI s), (2, .d false .int o), (8, .ept false tTs (makeV p s o)), (9, .d false .int (makeErr p s o))]) (a := ⟨tm, []⟩) hsz rfl (by
    intro t v h
    have h := lk_in h
    simp only [List.mem_cons, List.not_mem_nil, or_false, Prod.mk.injEq] at h
    rcases h with ⟨rfl, rfl⟩ | ⟨rfl, rfl⟩ | ⟨rfl, rfl⟩
    · simpa using g1
    · simpa using g7
    · simpa using g8) (by
    intro t U h G hd
    have h := lk_in h
    simp only [List.mem_cons, List.not_mem_nil, or_false, Prod.mk.injEq] at h
    rcases h with ⟨rfl, rfl⟩ | ⟨rfl, rfl⟩ | ⟨rfl, rfl⟩ | ⟨rfl, rfl⟩ | ⟨rfl, rfl⟩
    · exact ⟨[x0], by show _ = x0; simpa using g0, c_mono tP hp7 fun b _ _ => hd b⟩
    · exact ⟨[x1], by show _ = x1; simpa using g1, c_mono tI hs7 fun b _ _ => hd b⟩
    · exact ⟨[.int .i64 o], by show _ = Value.int .i64 o; simpa using g2, rfl, hio⟩
    · refine ⟨W5.heap.size, 0, [.slice ao (makeV p s o).1.length cp, .int .i64 (makeV p s o).2.1, .int .i64 (makeV p s o).2.2.1], by simpa using g8, hd _, hS7, ?_, ?_⟩
      · intro j v hj
        rw [row_cell hrow, Nat.zero_add, ← Array.getElem?_toList]
        exact hj
      · exact ⟨[_], [_, _], rfl, c_mono tI hn7 fun b _ _ => hd b, [_], [_], rfl, ⟨rfl, hi1⟩, [_], [], rfl, ⟨rfl, hi2⟩, rfl⟩
    · exact ⟨[.int .i64 (makeErr p s o)], by show _ = Value.int .i64 (makeErr p s o); simpa using g9, rfl, hiE⟩)
  refine eng_toR hk mix_ok rfl rfl (ly := [([1, 1, 1, 1, 0, 1, 0], ⟨[(8, false), (14, true), (15, true)], []⟩)]) (finB 6) hR (by kernel_rfl) (fun t ht => kvL_no (by show t ∉ [1, 7, 8]; revert ht; revert t; decide)) ?_ (fun Λ hΛ => ?_)
  · intro st a W hF hRr
    obtain ⟨tm', df'⟩ := a
    obtain rfl : df' = [] := hRr.nd.2 rfl
    obtain ⟨G, hm, he⟩ := hRr.ex
    have h6 := he 6
    unfold finB at hF
    split at hF
    · rename_i f x e6
      rw [e6] at h6
      obtain ⟨cs, ev, hc⟩ := h6
      have hc : cs = [.bool x] := hc
      subst hc
      rw [hF.1] at ev
      exact ⟨rfl, .bool true, (results_tmp (t := 6) rfl tm' _ W).trans (congrArg (fun v => Result.ok v W) ev), hpost _ (hb7.trans (hRr.low.mono hb7.size))⟩
    · exact hF.elim
  have hlenV : (makeV p s o).1.length ≤ 1000000 := by
    unfold makeV
    split
    · show s.length ≤ _; omega
    · simp
  have hL : Λ [1, 1, 1, 1, 0, 1, 0] ([(8, .ept false tTs (makeV p s o)), (14, .d true .bool true), (15, .d true .int 0)], []) := by
    subst hΛ
    intro a W hR
    have hlow := hR.low
    have hsz' := hR.sz
    have hdf := hR.nd.2 rfl
    have q1 := hR.kp 1 x1 rfl
    have q7 := hR.kp 7 x7 rfl
    have q8 := hR.kp 8 (.pointer (some ⟨W5.heap.size, 0, none⟩)) rfl
    have q14 := rel_bool hR (d := 14) rfl
    have q15 := (rel_int hR (d := 15) rfl).1
    have hrowW := (hlow.block _ hS7).trans hrow
    have hBW : Below W4.heap.size W4 W := hB7.trans (hlow.mono hB7.size)
    obtain ⟨ba, hba, hbn, hown⟩ : ∃ ba : Nat, W4.heap.size ≤ ba ∧ ba ≠ W5.heap.size ∧ ((makeV p s o).1 ≠ [] → ∃ off cur et, ao = some ⟨ba, off, none⟩ ∧ W.heap[ba]? = some (.cells cur et (0, 0)) ∧ off + (makeV p s o).1.length ≤ cur.size) := by
      by_cases hne : (makeV p s o).1 = []
      · exact ⟨W5.heap.size + 1, by omega, by omega, fun h => absurd hne h⟩
      · obtain ⟨b, off, cap, cur, et, e, h1, h2, h3, h4⟩ := hown hne
        cases e
        have hlt := (Array.getElem?_eq_some_iff.1 h2).1
        exact ⟨b, h1, by omega, fun _ => ⟨off, cur, et, rfl, (hlow.block b (by omega)).trans ((hK7 b hlt).trans h2), Nat.le_trans (Nat.add_le_add_left h3 off) h4⟩⟩
    clear hR hlow
    obtain ⟨A, hA⟩ : ∃ A : Nat → Act → World → Prop, A = fun m a W => a.tmps.size = 84 ∧ a.defers = [] ∧ a.tmps.getD 1 undef = x1 ∧ a.tmps.getD 7 undef = x7 ∧ a.tmps.getD 8 undef = .pointer (some ⟨W5.heap.size, 0, none⟩) ∧ a.tmps.getD 14 undef = .bool true ∧ a.tmps.getD 15 undef = .int .i64 (m : Int) ∧ Below W4.heap.size W4 W ∧
      W.heap[W5.heap.size]? = some (.cells #[.slice ao (makeV p s o).1.length cp, .int .i64 (makeV p s o).2.1, .int .i64 (makeV p s o).2.2.1] 43 (0, 0)) ∧ ((makeV p s o).1 ≠ [] → ∃ off cur et, ao = some ⟨ba, off, none⟩ ∧ W.heap[ba]? = some (.cells cur et (0, 0)) ∧ off + (makeV p s o).1.length ≤ cur.size) := ⟨_, rfl⟩
    refine loop_upX (n := (makeV p s o).1.length) A ?_ ?_ 0 (Nat.zero_le _) a W (by rw [hA]; exact ⟨hsz', hdf, q1, q7, q8, q14, q15, hBW, hrowW, hown⟩)
    · intro a W hh
      rw [hA] at hh
      obtain ⟨tms, tdf⟩ := a
      obtain ⟨r0, rfl, r1, r7, r8, r14, r15, hBW, hrowW, hown⟩ := hh
      obtain ⟨z0, z1, z2, z3, z4, z5, z6, z7, z8, z9, z10, z11, z12, z13, z14, z15, z16, z17, z18, z19, z20, z21, z22, z23, z24, z25, z26, z27, z28, z29, z30, z31, z32, z33, z34, z35, z36, z37, z38, z39, z40, z41, z42, z43, z44, z45, z46, z47, z48, z49, z50, z51, z52, z53, z54, z55, z56, z57, z58, z59, z60, z61, z62, z63, z64, z65, z66, z67, z68, z69, z70, z71, z72, z73, z74, z75, z76, z77, z78, z79, z80, z81, z82, z83, rfl⟩ := arr84 tms r0
      simp at r1 r7 r8 r14 r15
      subst r1; subst r7; subst r8; subst r14; subst r15
      have c8 : W.cell? ⟨W5.heap.size, 0, none⟩ = some (.slice ao (makeV p s o).1.length cp) := by rw [row_cell hrowW]; rfl
      refine wpIn_seq (wpIn_seq (ql_region rfl ?_))
      simp [ql, go_sem, Exit.then, c8]
      refine wpIn_cond_false (by simp [Act.eval]) (wpIn_exit ?_)
      simp only [Exit.then, Exit.inBlock, if_true]
      have hb0W : Below w.heap.size w W := hb4.trans (hBW.mono hb4.size)
      have o1 : (reps Go.Proofs.Try.prog tI).c W (fun _ => True) s [z7] := c_keep tI howr ⟨hBW.size, fun b hb' _ => hBW.block b hb'.lt⟩ fun _ _ h => h
      have o2 : (reps Go.Proofs.Try.prog tI).c W (fun _ => True) s [z1] := c_mono tI (keepS hb0W) fun _ _ _ => trivial
      refine wpIn_seq (qlg_region ?_)
      simp [qlg, Region.wanted, yielded, go_sem, Exit.then]
      refine (same_call (S' := fun _ => True) o1 o2 (by omega)).mono ?_
      rintro e W8 ⟨rfl, hb8⟩
      have hb08 := hb0W.trans (hb8.mono hb0W.size)
      simp [qlg, Region.wanted, yielded, go_sem, Exit.then]
      refine known_call.mono ?_
      rintro e W9 ⟨rfl, hb9⟩
      have hb09 := hb08.trans (hb9.mono hb08.size)
      simp [qlg, Region.wanted, yielded, go_sem, Exit.then]
      refine wpIn_ret ?_
      exact ⟨rfl, .bool true, by simp [results, Go.Proofs.Try.results9, go_sem], hpost _ hb09⟩
    · intro m a W hm hh
      rw [hA] at hh
      obtain ⟨tms, tdf⟩ := a
      obtain ⟨r0, rfl, r1, r7, r8, r14, r15, hBW, hrowW, hown⟩ := hh
      obtain ⟨z0, z1, z2, z3, z4, z5, z6, z7, z8, z9, z10, z11, z12, z13, z14, z15, z16, z17, z18, z19, z20, z21, z22, z23, z24, z25, z26, z27, z28, z29, z30, z31, z32, z33, z34, z35, z36, z37, z38, z39, z40, z41, z42, z43, z44, z45, z46, z47, z48, z49, z50, z51, z52, z53, z54, z55, z56, z57, z58, z59, z60, z61, z62, z63, z64, z65, z66, z67, z68, z69, z70, z71, z72, z73, z74, z75, z76, z77, z78, z79, z80, z81, z82, z83, rfl⟩ := arr84 tms r0
      simp at r1 r7 r8 r14 r15
      subst r1; subst r7; subst r8; subst r14; subst r15
      have c8 : W.cell? ⟨W5.heap.size, 0, none⟩ = some (.slice ao (makeV p s o).1.length cp) := by rw [row_cell hrowW]; rfl
      obtain ⟨off, cur, et, rfl, k1, k2⟩ := hown (fun e => by rw [e] at hm; simp at hm)
      refine wpIn_seq (wpIn_seq (ql_region rfl ?_))
      simp [ql, go_sem, Exit.then, c8]
      refine wpIn_cond_true (by simp [Act.eval]; omega) (wpIn_skip ?_)
      simp only [Exit.then]
      obtain ⟨et2, u1, u2⟩ := ty_sl ((tyB_ok Go.Proofs.Try.prog tI).1 35 (by kernel_rfl))
      have hix := fun W : World => run_index_sl (w := W) u1 u2 (b := ba) (off := off) (len := (makeV p s o).1.length) (cap := cp) (n := (m : Int)) (by omega) (by omega)
      have hcs : (T.int).csize = 1 := rfl
      simp only [Int.toNat_natCast, hcs, Nat.mul_one] at hix
      have hlt : off + m < cur.size := by omega
      have cc : W.cell? ⟨ba, off + m, none⟩ = some cur[off + m] := by rw [row_cell k1, Array.getElem?_eq_getElem hlt]
      have cf : W.frozen? ⟨ba, off + m, none⟩ = false := row_warm k1
      refine wpIn_seq (wpIn_block (ql_region rfl ?_))
      simp [ql, go_sem, Exit.then, Exit.inBlock, c8, hix, cc, cf]
      rw [setCell_eq_setRow W ba (off + m) cur et (0, 0) _ k1]
      refine ql_region rfl ?_
      simp [ql, go_sem, Exit.then]
      rw [show IntKind.i64.wrap ((m : Int) + 1) = ((m + 1 : Nat) : Int) from wrap_in (by have := hsl; unfold inI; have : (makeV p s o).1.length ≤ 1000000 := hlenV; omega), hA]
      refine ⟨rfl, rfl, rfl, rfl, rfl, rfl, rfl, ?_, ?_, fun _ => ⟨off, cur.setIfInBounds (off + m) (.int .i64 (-1)), et, rfl, setRow_heap W ba _ _ _ _ k1, by rw [Array.size_setIfInBounds]; exact k2⟩⟩
      · exact ⟨hBW.os, hBW.tape, hBW.output, by rw [setRow_size]; exact hBW.size, fun i hi => by rw [setRow_other _ _ _ _ (by omega)]; exact hBW.block i hi⟩
      · rw [setRow_other _ _ _ _ (fun e => hbn e.symm)]; exact hrowW
  have h0 : True ∧ ((makeV p s o).1.length ≤ 1000000 ∧ (if (!(decide (makeV p s o = makeV p s o))) = true then (true = true ∧ (false = true ∧ True)) else (True ∧ (if (bif false then true else ((makeErr p s o) != (makeErr p s o))) = true then (false = true ∧ True) else (True ∧ (if ((makeErr p s o) != (0 : Int)) = true then (true = true ∧ Λ [1, 1, 1, 1, 0, 1, 0] ([(8, .ept false tTs (makeV p s o)), (14, .d true .bool true), (15, .d true .int 0)], [])) else (if ((errT [p] [makeV p s o]) == (0 : Int)) = true then (True ∧ (True ∧ Λ [1, 1, 1, 1, 0, 1, 0] ([(8, .ept false tTs (makeV p s o)), (14, .d true .bool (bif false then true else (bif true then ((errT [p] [makeV p s o] == 0 && passT p (makeV p s o))) else false))), (15, .d true .int 0)], []))) else (false = false ∧ (True ∧ Λ [1, 1, 1, 1, 0, 1, 0] ([(8, .ept false tTs (makeV p s o)), (14, .d true .bool (bif false then true else false)), (15, .d true .int 0)], [])))))))))) := by
    refine ⟨trivial, hlenV, ?_⟩
    rw [if_neg (by simp)]
    refine ⟨trivial, ?_⟩
    rw [if_neg (by simp)]
    refine ⟨trivial, ?_⟩
    by_cases e0 : makeErr p s o = 0
    · rw [if_neg (by simp [e0])]
      obtain ⟨t1, t2⟩ := make_pass e0
      rw [if_pos (by simp [t1]), t1, t2]
      exact ⟨trivial, trivial, hL⟩
    · rw [if_pos (by simpa using e0)]
      exact ⟨rfl, hL⟩
  exact Eq.mpr (by kernel_rfl) h0
end Go.Tk
