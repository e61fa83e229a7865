/- Merged: C2u L2a P2r C2r. -/
import Derived.Test.YtolbkaphghjeeaaMg1
import Derived.Test.YtolbkaphghjeeaaEngW
set_option linter.unusedSimpArgs false
set_option linter.unusedVariables false
namespace Go.Tk
open Go Go.RowKit

abbrev cIndexN : Con := { A := (.cons (.sl .int) (.cons .int .nil)), R := (.cons .int .nil), pre := fun x => True, F := fun x => (idxF (fun r' => x.2.1 == r') x.1, ()) }
def cIndexN_0 (Λ1 : Int → Prop) (s : (List Int)) (v : Int) (y0 : Int) : Prop :=
  Λ1 (0 : Int)
def cIndexN_1 (Λ1 : Int → Prop) (s : (List Int)) (v : Int) (y0 : Int)  (t8_1 : Int) : Prop :=
  if (decide (t8_1 < (List.length s : Int))) = true then (idx t8_1 (List.length s : Int) ∧ (if (v == (List.getD s (Int.toNat t8_1) 0)) = true then (t8_1 = y0 ∧ True) else (inI (t8_1 + (1 : Int)) ∧ Λ1 (t8_1 + (1 : Int))))) else ((-1 : Int) = y0 ∧ True)
theorem cIndexN_law (h : ∀ (s : (List Int)) (v : Int), cIndexN.A.wf (s, v, ()) → ∀ (Λ1 : Int → Prop), (∀ (t8_1 : Int), cIndexN_1 Λ1 s v (idxF (fun r' => v == r') s) t8_1 → Λ1 t8_1) → cIndexN_0 Λ1 s v (idxF (fun r' => v == r') s)) : ConOK Go.Proofs.Try.prog 126 cIndexN := by
  refine lawL (Γ := []) (Θ := Th) (n := 19) [([1, 0, 1, 0], ⟨[(0, false), (1, false), (7, true), (8, true)], []⟩)] trivial (by kernel_rfl) th_ok mix_ok Go.Proofs.Try.func126 (by kernel_rfl) ?_
  intro x hw hp Λ hC
  have h0 := h x.1 x.2.1 hw (fun t8_1 => Λ [1, 0, 1, 0] ([(0, .d false (.sl .int) x.1), (1, .d false .int x.2.1), (7, .d true .int (List.length x.1 : Int)), (8, .d true .int t8_1)], [])) (fun t8_1 hb => hC [1, 0, 1, 0] ([(0, .d false (.sl .int) x.1), (1, .d false .int x.2.1), (7, .d true .int (List.length x.1 : Int)), (8, .d true .int t8_1)], []) (Eq.mpr (by kernel_rfl) hb))
  exact Eq.mpr (by kernel_rfl) h0
theorem cIndexN_ok : ConOK Go.Proofs.Try.prog 126 cIndexN := by
  refine cIndexN_law ?_
  intro s v hw Λ1 h1
  unfold cIndexN_0
  refine upto (n := s.length) (Q := fun i => (s.take i).any (fun r => v == r) = false → Λ1 i) ?_ ?_ 0 (Nat.zero_le _) rfl
  · intro ha
    rw [List.take_length] at ha
    apply h1; unfold cIndexN_1; rw [if_neg (by simp), idxF_none ha]
    exact ⟨rfl, trivial⟩
  · intro i hi ih ha
    apply h1; unfold cIndexN_1; rw [if_pos (by simpa using hi), Int.toNat_natCast]
    refine ⟨idx_nat hi, ?_⟩
    cases hv : (v == List.getD s i 0)
    · rw [if_neg (by simp)]
      exact ⟨inI_succ hi hw.1.1, ih (any_take_next (p := fun r => v == r) 0 hi ha hv)⟩
    · rw [if_pos (by rfl), idxF_at (p := fun r => v == r) 0 hi ha hv]
      exact ⟨rfl, trivial⟩
abbrev cContN : Con := { A := (.cons (.sl .int) (.cons .int .nil)), R := (.cons .bool .nil), pre := fun x => True, F := fun x => (decide (x.2.1 ∈ x.1), ()) }
def cContN_0  (s : (List Int)) (v : Int) (y0 : Bool) : Prop :=
  True ∧ ((decide ((idxF (fun r' => v == r') s) ≥ (0 : Int))) = y0 ∧ True)
theorem cContN_law (h : ∀ (s : (List Int)) (v : Int), cContN.A.wf (s, v, ()) → cContN_0  s v (decide (v ∈ s))) : ConOK Go.Proofs.Try.prog 108 cContN := by
  refine lawL (Γ := [(126, cIndexN)]) (Θ := Th) (n := 9) [] ⟨cIndexN_ok, trivial⟩ (by kernel_rfl) th_ok mix_ok Go.Proofs.Try.func108 (by kernel_rfl) ?_
  intro x hw hp Λ hC
  have h0 := h x.1 x.2.1 hw  
  exact Eq.mpr (by kernel_rfl) h0
theorem cContN_ok : ConOK Go.Proofs.Try.prog 108 cContN := by
  refine cContN_law ?_
  intro s v hw
  unfold cContN_0
  refine ⟨trivial, ?_, trivial⟩
  rw [idxF_any, Bool.eq_iff_iff]
  simp
abbrev cHasN : Con := { A := (.cons (.sl .int) (.cons .int .nil)), R := (.cons .bool .nil), pre := fun x => x.1.length ≤ 1000000, F := fun x => (decide (x.2.1 ∈ x.1), ()) }
def cHasN_0 (Λ1 : Int → Prop) (l : (List Int)) (n : Int) (y0 : Bool) : Prop :=
  Λ1 (0 : Int)
def cHasN_1 (Λ1 : Int → Prop) (l : (List Int)) (n : Int) (y0 : Bool)  (i_1 : Int) : Prop :=
  if (decide (i_1 < (List.length l : Int))) = true then (idx i_1 (List.length l : Int) ∧ (if ((List.getD l (Int.toNat i_1) 0) == n) = true then (true = y0 ∧ True) else (inI (i_1 + (1 : Int)) ∧ Λ1 (i_1 + (1 : Int))))) else (false = y0 ∧ True)
theorem cHasN_law (h : ∀ (l : (List Int)) (n : Int), cHasN.A.wf (l, n, ()) → (l.length ≤ 1000000) → ∀ (Λ1 : Int → Prop), (∀ (i_1 : Int), cHasN_1 Λ1 l n (decide (n ∈ l)) i_1 → Λ1 i_1) → cHasN_0 Λ1 l n (decide (n ∈ l))) : ConOK Go.Proofs.Try.prog 63 cHasN := by
  refine lawL (Γ := []) (Θ := Th) (n := 18) [([1, 0, 1, 0], ⟨[(0, false), (1, false), (5, true)], []⟩)] trivial (by kernel_rfl) th_ok mix_ok Go.Proofs.Try.func63 (by kernel_rfl) ?_
  intro x hw hp Λ hC
  have h0 := h x.1 x.2.1 hw hp (fun i_1 => Λ [1, 0, 1, 0] ([(0, .d false (.sl .int) x.1), (1, .d false .int x.2.1), (5, .d true .int i_1)], [])) (fun i_1 hb => hC [1, 0, 1, 0] ([(0, .d false (.sl .int) x.1), (1, .d false .int x.2.1), (5, .d true .int i_1)], []) (Eq.mpr (by kernel_rfl) hb))
  exact Eq.mpr (by kernel_rfl) h0
theorem cHasN_ok : ConOK Go.Proofs.Try.prog 63 cHasN := by
  refine cHasN_law ?_
  intro l n hw hp Λ1 h1
  unfold cHasN_0
  refine upto (n := l.length) (Q := fun i => (l.take i).any (fun r => r == n) = false → Λ1 i) ?_ ?_ 0 (Nat.zero_le _) rfl
  · intro ha
    rw [List.take_length] at ha
    apply h1; unfold cHasN_1; rw [if_neg (by simp)]
    refine ⟨?_, trivial⟩
    have : ¬ n ∈ l := fun h => by
      have := List.any_eq_false.1 ha n h
      simp at this
    simp [this]
  · intro i hi ih ha
    apply h1; unfold cHasN_1; rw [if_pos (by simpa using hi), Int.toNat_natCast]
    refine ⟨idx_nat hi, ?_⟩
    cases hv : (List.getD l i 0 == n)
    · rw [if_neg (by simp)]
      exact ⟨inI_succ hi (by omega), ih (any_take_next (p := fun r => r == n) 0 hi ha hv)⟩
    · rw [if_pos (by rfl)]
      have : n ∈ l := by
        have e := eq_of_beq hv
        rw [← e]; exact mem_getD hi
      exact ⟨by simp [this], trivial⟩
abbrev cRatio : Con := { A := (.cons .int (.cons .int .nil)), R := (.cons tRa .nil), pre := fun x => 0 ≤ x.1 ∧ 0 < x.2.1 ∧ x.1 ≤ 1000000 ∧ x.2.1 ≤ 1000000, F := fun x => (ratioQ x.1 x.2.1, ()) }
def cRatio_0 (Λ1 : Int → Int → Prop) (num : Int) (den : Int) (y0 : Rtl) : Prop :=
  Λ1 num den
def cRatio_1 (Λ1 : Int → Int → Prop) (num : Int) (den : Int) (y0 : Rtl)  (a_1 : Int) (b_1 : Int) : Prop :=
  if (b_1 != (0 : Int)) = true then ((b_1 ≠ 0 ∧ inI (Int.tmod a_1 b_1)) ∧ Λ1 b_1 (Int.tmod a_1 b_1)) else ((a_1 ≠ 0 ∧ inI (Int.tdiv num a_1)) ∧ ((a_1 ≠ 0 ∧ inI (Int.tdiv den a_1)) ∧ (((Int.tdiv num a_1), (Int.tdiv den a_1), ()) = y0 ∧ True)))
theorem cRatio_law (h : ∀ (num : Int) (den : Int), cRatio.A.wf (num, den, ()) → (0 ≤ num ∧ 0 < den ∧ num ≤ 1000000 ∧ den ≤ 1000000) → ∀ (Λ1 : Int → Int → Prop), (∀ (a_1 : Int) (b_1 : Int), cRatio_1 Λ1 num den (ratioQ num den) a_1 b_1 → Λ1 a_1 b_1) → cRatio_0 Λ1 num den (ratioQ num den)) : ConOK Go.Proofs.Try.prog 109 cRatio := by
  refine lawL (Γ := []) (Θ := Th) (n := 22) [([1, 1, 0, 0], ⟨[(0, false), (1, false), (4, true), (5, false), (6, false)], [(4, true)]⟩)] trivial (by kernel_rfl) th_ok mix_ok Go.Proofs.Try.func109 (by kernel_rfl) ?_
  intro x hw hp Λ hC
  have h0 := h x.1 x.2.1 hw hp (fun a_1 b_1 => Λ [1, 1, 0, 0] ([(0, .d false .int x.1), (1, .d false .int x.2.1), (4, .ptr 4 0 []), (5, .d false .int a_1), (6, .d false .int b_1)], [(4, .box true tRa tRa.dflt)])) (fun a_1 b_1 hb => hC [1, 1, 0, 0] ([(0, .d false .int x.1), (1, .d false .int x.2.1), (4, .ptr 4 0 []), (5, .d false .int a_1), (6, .d false .int b_1)], [(4, .box true tRa tRa.dflt)]) (Eq.mpr (by kernel_rfl) hb))
  exact Eq.mpr (by kernel_rfl) h0
theorem cRatio_ok : ConOK Go.Proofs.Try.prog 109 cRatio := by
  refine cRatio_law ?_
  intro num den hw hp Λ1 h1
  unfold cRatio_0
  obtain ⟨p1, p2, p3, p4⟩ := hp
  have gpos : 0 < Int.gcd num den := by
    have := Int.gcd_pos_of_ne_zero_right num (show den ≠ 0 by omega); omega
  obtain ⟨N, rfl⟩ := Int.eq_ofNat_of_zero_le p1
  obtain ⟨D, rfl⟩ := Int.eq_ofNat_of_zero_le (show 0 ≤ den by omega)
  have key : ∀ k A B : Nat, B ≤ k → A ≤ 1000000 → B ≤ 1000000 → Nat.gcd A B = Int.gcd (N : Int) D → Λ1 (A : Int) B := by
    intro k
    induction k with
    | zero =>
      intro A B h0 hA hB hg
      have : B = 0 := by omega
      subst this
      rw [Nat.gcd_zero_right] at hg
      apply h1; unfold cRatio_1; rw [if_neg (by simp)]
      have hA0 : (A : Int) ≠ 0 := by omega
      have q1 : Int.tdiv (N : Int) A = (N : Int) / A := Int.tdiv_eq_ediv_of_nonneg (by omega)
      have q2 : Int.tdiv (D : Int) A = (D : Int) / A := Int.tdiv_eq_ediv_of_nonneg (by omega)
      have b1 : (N : Int) / A ≤ N := Int.ediv_le_self _ (by omega)
      have b2 : (D : Int) / A ≤ D := Int.ediv_le_self _ (by omega)
      have c1 : 0 ≤ (N : Int) / A := Int.ediv_nonneg (by omega) (by omega)
      have c2 : 0 ≤ (D : Int) / A := Int.ediv_nonneg (by omega) (by omega)
      rw [q1, q2]
      refine ⟨⟨hA0, by unfold inI; omega⟩, ⟨hA0, by unfold inI; omega⟩, ?_, trivial⟩
      unfold ratioQ
      rw [← hg]
    | succ k ih =>
      intro A B h0 hA hB hg
      by_cases hb : B = 0
      · subst hb; exact ih A 0 (by omega) hA (by omega) hg
      apply h1; unfold cRatio_1; rw [if_pos (by simpa using hb)]
      have q : Int.tmod (A : Int) B = ((A % B : Nat) : Int) := by rw [Int.tmod_eq_emod_of_nonneg (by omega)]; rfl
      have hlt := Nat.mod_lt A (show 0 < B by omega)
      rw [q]
      refine ⟨⟨by omega, by unfold inI; omega⟩, ih B (A % B) (by omega) hB (by omega) ?_⟩
      rw [← hg, Nat.gcd_comm A B, Nat.gcd_rec B A, Nat.gcd_comm]
  exact key D N D (Nat.le_refl _) (by omega) (by omega) rfl
abbrev cRatioR : Con := { A := (.cons .int (.cons .int .nil)), R := (.cons tRa .nil), pre := fun x => 0 ≤ x.1 ∧ 0 < x.2.1 ∧ x.1 ≤ 1000000 ∧ x.2.1 ≤ 1000000, F := fun x => (ratioQ x.1 x.2.1, ()) }
def cRatioR_0 (Λ1 : Int → Int → Prop) (n : Int) (d : Int) (y0 : Rtl) : Prop :=
  Λ1 n d
def cRatioR_1 (Λ1 : Int → Int → Prop) (n : Int) (d : Int) (y0 : Rtl)  (a_1 : Int) (b_1 : Int) : Prop :=
  if (b_1 != (0 : Int)) = true then ((b_1 ≠ 0 ∧ inI (Int.tmod a_1 b_1)) ∧ Λ1 b_1 (Int.tmod a_1 b_1)) else ((a_1 ≠ 0 ∧ inI (Int.tdiv n a_1)) ∧ ((a_1 ≠ 0 ∧ inI (Int.tdiv d a_1)) ∧ (((Int.tdiv n a_1), (Int.tdiv d a_1), ()) = y0 ∧ True)))
theorem cRatioR_law (h : ∀ (n : Int) (d : Int), cRatioR.A.wf (n, d, ()) → (0 ≤ n ∧ 0 < d ∧ n ≤ 1000000 ∧ d ≤ 1000000) → ∀ (Λ1 : Int → Int → Prop), (∀ (a_1 : Int) (b_1 : Int), cRatioR_1 Λ1 n d (ratioQ n d) a_1 b_1 → Λ1 a_1 b_1) → cRatioR_0 Λ1 n d (ratioQ n d)) : ConOK Go.Proofs.Try.prog 64 cRatioR := by
  refine lawL (Γ := []) (Θ := Th) (n := 22) [([1, 1, 0, 0], ⟨[(0, false), (1, false), (4, true), (5, false), (6, false)], [(4, true)]⟩)] trivial (by kernel_rfl) th_ok mix_ok Go.Proofs.Try.func64 (by kernel_rfl) ?_
  intro x hw hp Λ hC
  have h0 := h x.1 x.2.1 hw hp (fun a_1 b_1 => Λ [1, 1, 0, 0] ([(0, .d false .int x.1), (1, .d false .int x.2.1), (4, .ptr 4 0 []), (5, .d false .int a_1), (6, .d false .int b_1)], [(4, .box true tRa tRa.dflt)])) (fun a_1 b_1 hb => hC [1, 1, 0, 0] ([(0, .d false .int x.1), (1, .d false .int x.2.1), (4, .ptr 4 0 []), (5, .d false .int a_1), (6, .d false .int b_1)], [(4, .box true tRa tRa.dflt)]) (Eq.mpr (by kernel_rfl) hb))
  exact Eq.mpr (by kernel_rfl) h0
theorem cRatioR_ok : ConOK Go.Proofs.Try.prog 64 cRatioR := by
  refine cRatioR_law ?_
  intro n d hw hp Λ1 h1
  unfold cRatioR_0
  obtain ⟨p1, p2, p3, p4⟩ := hp
  have gpos : 0 < Int.gcd n d := by
    have := Int.gcd_pos_of_ne_zero_right n (show d ≠ 0 by omega); omega
  obtain ⟨N, rfl⟩ := Int.eq_ofNat_of_zero_le p1
  obtain ⟨D, rfl⟩ := Int.eq_ofNat_of_zero_le (show 0 ≤ d by omega)
  have key : ∀ k A B : Nat, B ≤ k → A ≤ 1000000 → B ≤ 1000000 → Nat.gcd A B = Int.gcd (N : Int) D → Λ1 (A : Int) B := by
    intro k
    induction k with
    | zero =>
      intro A B h0 hA hB hg
      have : B = 0 := by omega
      subst this
      rw [Nat.gcd_zero_right] at hg
      apply h1; unfold cRatioR_1; rw [if_neg (by simp)]
      have hA0 : (A : Int) ≠ 0 := by omega
      have q1 : Int.tdiv (N : Int) A = (N : Int) / A := Int.tdiv_eq_ediv_of_nonneg (by omega)
      have q2 : Int.tdiv (D : Int) A = (D : Int) / A := Int.tdiv_eq_ediv_of_nonneg (by omega)
      have b1 : (N : Int) / A ≤ N := Int.ediv_le_self _ (by omega)
      have b2 : (D : Int) / A ≤ D := Int.ediv_le_self _ (by omega)
      have c1 : 0 ≤ (N : Int) / A := Int.ediv_nonneg (by omega) (by omega)
      have c2 : 0 ≤ (D : Int) / A := Int.ediv_nonneg (by omega) (by omega)
      rw [q1, q2]
      refine ⟨⟨hA0, by unfold inI; omega⟩, ⟨hA0, by unfold inI; omega⟩, ?_, trivial⟩
      unfold ratioQ
      rw [← hg]
    | succ k ih =>
      intro A B h0 hA hB hg
      by_cases hb : B = 0
      · subst hb; exact ih A 0 (by omega) hA (by omega) hg
      apply h1; unfold cRatioR_1; rw [if_pos (by simpa using hb)]
      have q : Int.tmod (A : Int) B = ((A % B : Nat) : Int) := by rw [Int.tmod_eq_emod_of_nonneg (by omega)]; rfl
      have hlt := Nat.mod_lt A (show 0 < B by omega)
      rw [q]
      refine ⟨⟨by omega, by unfold inI; omega⟩, ih B (A % B) (by omega) hB (by omega) ?_⟩
      rw [← hg, Nat.gcd_comm A B, Nat.gcd_rec B A, Nat.gcd_comm]
  exact key D N D (Nat.le_refl _) (by omega) (by omega) rfl
abbrev cScores1 : Con := { A := (.cons tTs (.cons (.ref (.sl tL)) .nil)), R := (.cons .bool .nil), pre := fun x => validP x.2.1 = 0 ∧ isTst x.1 = true, F := fun x => (!(passT x.2.1 x.1), ()) }
def cScores1_0  (t : Tst) (c0 : (List Lin)) (y0 : Bool) : Prop :=
  (validP c0 = 0 ∧ isTst t = true) ∧ ((!(passT c0 t)) = y0 ∧ True)
theorem cScores1_law (h : ∀ (t : Tst) (c0 : (List Lin)), cScores1.A.wf (t, c0, ()) → (validP c0 = 0 ∧ isTst t = true) → cScores1_0  t c0 (!(passT c0 t))) : ConOK Go.Proofs.Try.prog 106 cScores1 := by
  refine lawL (Γ := [(70, cPassT)]) (Θ := Th) (n := 8) [] ⟨cPassT_ok, trivial⟩ (by kernel_rfl) th_ok mix_ok Go.Proofs.Try.func106 (by kernel_rfl) ?_
  intro x hw hp Λ hC
  have h0 := h x.1 x.2.1 hw hp  
  exact Eq.mpr (by kernel_rfl) h0
theorem cScores1_ok : ConOK Go.Proofs.Try.prog 106 cScores1 := by
  refine cScores1_law ?_
  intro t c0 hw hp
  unfold cScores1_0
  exact ⟨hp, rfl, trivial⟩
abbrev cScores0 : Con := { A := (.cons (.sl tL) (.cons (.sl tTs) .nil)), R := (.cons (.osl tRa) (.cons .bool .nil)), pre := fun x => validP x.1 = 0 ∧ validT x.2.1 = 0, F := fun x => (scoresT x.1 x.2.1, decide (failL x.1 x.2.1 ≠ []), ()) }
def cScores0_0 (Λ1 : Int → (List Rtl) → Prop) (Λ2 : (List Rtl) → Int → Int → Int → Int → Prop) (p : (List Lin)) (l : (List Tst)) (y0 : (List Rtl)) (y1 : Bool) : Prop :=
  (l.length ≤ 1000000 ∧ ∀ t' ∈ l, tTs.wf t' → (fun (xx : (Tst × Unit)) => validP p = 0 ∧ isTst xx.1 = true, fun (xx : (Tst × Unit)) => (!(passT p xx.1), ())).1 (t', ())) ∧ ((validP p = 0 ∧ validT l = 0) ∧ (([(0, 1, ())].length = 1 ∧ 0 ≤ (List.length p : Int) ∧ (List.length p : Int) ≤ 1000) ∧ (if ((List.length (whereL (fun t' => ((fun (xx : (Tst × Unit)) => validP p = 0 ∧ isTst xx.1 = true, fun (xx : (Tst × Unit)) => (!(passT p xx.1), ())).2 (t', ())).1) l) : Int) == (0 : Int)) = true then (false = y1 ∧ (List.replicate (Int.toNat (List.length p : Int)) (List.getD [(0, 1, ())] 0 tRa.dflt)) = y0) else Λ1 (0 : Int) (List.replicate (Int.toNat (List.length p : Int)) (List.getD [(0, 1, ())] 0 tRa.dflt)))))
def cScores0_1 (Λ1 : Int → (List Rtl) → Prop) (Λ2 : (List Rtl) → Int → Int → Int → Int → Prop) (p : (List Lin)) (l : (List Tst)) (y0 : (List Rtl)) (y1 : Bool)  (t31_1 : Int) (out_1 : (List Rtl)) : Prop :=
  if (decide (t31_1 < (List.length p : Int))) = true then Λ2 out_1 t31_1 (0 : Int) (0 : Int) (0 : Int) else (true = y1 ∧ out_1 = y0)
def cScores0_2 (Λ1 : Int → (List Rtl) → Prop) (Λ2 : (List Rtl) → Int → Int → Int → Int → Prop) (p : (List Lin)) (l : (List Tst)) (y0 : (List Rtl)) (y1 : Bool) (out_1 : (List Rtl)) (t31_1 : Int) (bad_2 : Int) (good_2 : Int) (t36_2 : Int) : Prop :=
  if (decide (t36_2 < (List.length (tableT p l) : Int))) = true then (idx t36_2 (List.length (tableT p l) : Int) ∧ (True ∧ (if (decide (t36_2 ∈ (whereL (fun t' => ((fun (xx : (Tst × Unit)) => validP p = 0 ∧ isTst xx.1 = true, fun (xx : (Tst × Unit)) => (!(passT p xx.1), ())).2 (t', ())).1) l))) = true then (idx t31_1 (List.length (List.getD (tableT p l) (Int.toNat t36_2) ([] : List Int)) : Int) ∧ (inI (bad_2 + (List.getD (List.getD (tableT p l) (Int.toNat t36_2) ([] : List Int)) (Int.toNat t31_1) 0)) ∧ (inI (t36_2 + (1 : Int)) ∧ Λ2 out_1 t31_1 (bad_2 + (List.getD (List.getD (tableT p l) (Int.toNat t36_2) ([] : List Int)) (Int.toNat t31_1) 0)) good_2 (t36_2 + (1 : Int))))) else (idx t31_1 (List.length (List.getD (tableT p l) (Int.toNat t36_2) ([] : List Int)) : Int) ∧ (inI (good_2 + (List.getD (List.getD (tableT p l) (Int.toNat t36_2) ([] : List Int)) (Int.toNat t31_1) 0)) ∧ (inI (t36_2 + (1 : Int)) ∧ Λ2 out_1 t31_1 bad_2 (good_2 + (List.getD (List.getD (tableT p l) (Int.toNat t36_2) ([] : List Int)) (Int.toNat t31_1) 0)) (t36_2 + (1 : Int)))))))) else (inI ((List.length (whereL (fun t' => ((fun (xx : (Tst × Unit)) => validP p = 0 ∧ isTst xx.1 = true, fun (xx : (Tst × Unit)) => (!(passT p xx.1), ())).2 (t', ())).1) l) : Int) + good_2) ∧ ((0 ≤ bad_2 ∧ 0 < ((List.length (whereL (fun t' => ((fun (xx : (Tst × Unit)) => validP p = 0 ∧ isTst xx.1 = true, fun (xx : (Tst × Unit)) => (!(passT p xx.1), ())).2 (t', ())).1) l) : Int) + good_2) ∧ bad_2 ≤ 1000000 ∧ ((List.length (whereL (fun t' => ((fun (xx : (Tst × Unit)) => validP p = 0 ∧ isTst xx.1 = true, fun (xx : (Tst × Unit)) => (!(passT p xx.1), ())).2 (t', ())).1) l) : Int) + good_2) ≤ 1000000) ∧ (idx t31_1 (List.length out_1 : Int) ∧ (inI (t31_1 + (1 : Int)) ∧ Λ1 (t31_1 + (1 : Int)) (List.set out_1 (Int.toNat t31_1) (ratioQ bad_2 ((List.length (whereL (fun t' => ((fun (xx : (Tst × Unit)) => validP p = 0 ∧ isTst xx.1 = true, fun (xx : (Tst × Unit)) => (!(passT p xx.1), ())).2 (t', ())).1) l) : Int) + good_2)))))))
theorem cScores0_law (h : ∀ (p : (List Lin)) (l : (List Tst)), cScores0.A.wf (p, l, ()) → (validP p = 0 ∧ validT l = 0) → ∀ (Λ1 : Int → (List Rtl) → Prop) (Λ2 : (List Rtl) → Int → Int → Int → Int → Prop), (∀ (t31_1 : Int) (out_1 : (List Rtl)), cScores0_1 Λ1 Λ2 p l (scoresT p l) (decide (failL p l ≠ [])) t31_1 out_1 → Λ1 t31_1 out_1) → (∀ (out_1 : (List Rtl)) (t31_1 : Int) (bad_2 : Int) (good_2 : Int) (t36_2 : Int), cScores0_2 Λ1 Λ2 p l (scoresT p l) (decide (failL p l ≠ [])) out_1 t31_1 bad_2 good_2 t36_2 → Λ2 out_1 t31_1 bad_2 good_2 t36_2) → cScores0_0 Λ1 Λ2 p l (scoresT p l) (decide (failL p l ≠ []))) : ConOK Go.Proofs.Try.prog 62 cScores0 := by
  refine lawX (X := { subs := [], frz := [2], U := [], mul := [], nst := [], nls := [], itf := none, inp := [], arrs := [] }) (hX := xok0 _ trivial) (Γ := [(108, cContN), (109, cRatio), (107, cRepeat), (106, cScores1), (84, cTable0), (73, cWhere)]) (Θ := Th) (n := 68) [([1, 1, 1, 1, 0, 1, 0], ⟨[(6, true), (7, true), (8, true), (30, true), (31, true)], [(16, true), (19, true), (24, true)]⟩), ([1, 1, 1, 1, 0, 1, 0, 0, 1, 1, 0, 0, 1, 1, 0, 1, 0], ⟨[(6, true), (7, true), (8, true), (9, true), (10, true), (11, true), (30, true), (31, true), (34, true), (35, true), (36, true)], [(16, true), (19, true), (24, true)]⟩)] ⟨cContN_ok, cRatio_ok, cRepeat_ok, cScores1_ok, cTable0_ok, cWhere_ok, trivial⟩ (by kernel_rfl) th_ok mix_ok Go.Proofs.Try.func62 (by kernel_rfl) ?_
  intro x hw hp Λ hC
  have h0 := h x.1 x.2.1 hw hp (fun t31_1 out_1 => Λ [1, 1, 1, 1, 0, 1, 0] ([(6, .own 16 0), (7, .own 19 0), (8, .own 24 0), (30, .d true .int (List.length x.1 : Int)), (31, .d true .int t31_1)], [(16, .sl true .int (whereL (fun t' => ((fun (xx : (Tst × Unit)) => validP x.1 = 0 ∧ isTst xx.1 = true, fun (xx : (Tst × Unit)) => (!(passT x.1 xx.1), ())).2 (t', ())).1) x.2.1)), (19, .sl true (.sl .int) (tableT x.1 x.2.1)), (24, .sl true tRa out_1)])) (fun out_1 t31_1 bad_2 good_2 t36_2 => Λ [1, 1, 1, 1, 0, 1, 0, 0, 1, 1, 0, 0, 1, 1, 0, 1, 0] ([(6, .own 16 0), (7, .own 19 0), (8, .own 24 0), (9, .d true .int t31_1), (10, .d true .int bad_2), (11, .d true .int good_2), (30, .d true .int (List.length x.1 : Int)), (31, .d true .int t31_1), (34, .own 19 0), (35, .d true .int (List.length (tableT x.1 x.2.1) : Int)), (36, .d true .int t36_2)], [(16, .sl true .int (whereL (fun t' => ((fun (xx : (Tst × Unit)) => validP x.1 = 0 ∧ isTst xx.1 = true, fun (xx : (Tst × Unit)) => (!(passT x.1 xx.1), ())).2 (t', ())).1) x.2.1)), (19, .sl true (.sl .int) (tableT x.1 x.2.1)), (24, .sl true tRa out_1)])) (fun t31_1 out_1 hb => hC [1, 1, 1, 1, 0, 1, 0] ([(6, .own 16 0), (7, .own 19 0), (8, .own 24 0), (30, .d true .int (List.length x.1 : Int)), (31, .d true .int t31_1)], [(16, .sl true .int (whereL (fun t' => ((fun (xx : (Tst × Unit)) => validP x.1 = 0 ∧ isTst xx.1 = true, fun (xx : (Tst × Unit)) => (!(passT x.1 xx.1), ())).2 (t', ())).1) x.2.1)), (19, .sl true (.sl .int) (tableT x.1 x.2.1)), (24, .sl true tRa out_1)]) (Eq.mpr (by kernel_rfl) hb)) (fun out_1 t31_1 bad_2 good_2 t36_2 hb => hC [1, 1, 1, 1, 0, 1, 0, 0, 1, 1, 0, 0, 1, 1, 0, 1, 0] ([(6, .own 16 0), (7, .own 19 0), (8, .own 24 0), (9, .d true .int t31_1), (10, .d true .int bad_2), (11, .d true .int good_2), (30, .d true .int (List.length x.1 : Int)), (31, .d true .int t31_1), (34, .own 19 0), (35, .d true .int (List.length (tableT x.1 x.2.1) : Int)), (36, .d true .int t36_2)], [(16, .sl true .int (whereL (fun t' => ((fun (xx : (Tst × Unit)) => validP x.1 = 0 ∧ isTst xx.1 = true, fun (xx : (Tst × Unit)) => (!(passT x.1 xx.1), ())).2 (t', ())).1) x.2.1)), (19, .sl true (.sl .int) (tableT x.1 x.2.1)), (24, .sl true tRa out_1)]) (Eq.mpr (by kernel_rfl) hb))
  exact Eq.mpr (by kernel_rfl) h0
theorem cScores0_ok : ConOK Go.Proofs.Try.prog 62 cScores0 := by
  refine cScores0_law ?_
  intro p l hw hp Λ1 Λ2 h1 h2
  unfold cScores0_0
  obtain ⟨p1, p2⟩ := hp
  obtain ⟨h8, hall⟩ := validT_ok p2
  have hp8 := (validP_ok p1).1
  refine ⟨⟨by omega, fun t' ht _ => ⟨p1, hall t' ht⟩⟩, ⟨p1, p2⟩, ⟨rfl, by omega, by omega⟩, ?_⟩
  show if ((List.length (failL p l) : Int) == (0 : Int)) = true then _ else _
  by_cases hF : failL p l = []
  · rw [if_pos (by simp [hF])]
    refine ⟨by simp [hF], ?_⟩
    unfold scoresT
    rw [Int.toNat_natCast]
    symm
    rw [List.eq_replicate_iff]
    refine ⟨by simp, fun x hx => ?_⟩
    obtain ⟨k, _, rfl⟩ := List.mem_map.1 hx
    unfold scoreAt
    rw [if_pos hF]; rfl
  · have hFl : 0 < (failL p l).length := List.length_pos_iff.2 hF
    have hFle : (failL p l).length ≤ l.length := whereL_len _ _
    rw [if_neg (by simp [hF])]
    have key : ∀ i, i ≤ p.length → ∀ out : List Rtl, out.length = p.length → out.take i = (scoresT p l).take i → Λ1 (i : Int) out := by
      refine upto ?_ ?_
      · intro out hl ht
        apply h1; unfold cScores0_1; rw [if_neg (by simp)]
        refine ⟨by simp [hF], ?_⟩
        rw [List.take_of_length_le (by omega), List.take_of_length_le (by unfold scoresT; simp)] at ht
        exact ht
      · intro i hi ih out hl ht
        apply h1; unfold cScores0_1; rw [if_pos (by simpa using hi)]
        refine upto (n := l.length) (Q := fun j => Λ2 out (i : Int) (badTo (tableT p l) (failL p l) i j) (goodTo (tableT p l) (failL p l) i j) (j : Int)) ?_ ?_ 0 (Nat.zero_le _)
        · apply h2; unfold cScores0_2
          rw [if_neg (by unfold tableT; simp)]
          have bd := bad_good_bd p l (failL p l) i l.length
          show inI ((List.length (failL p l) : Int) + goodTo (tableT p l) (failL p l) i l.length) ∧ _
          refine ⟨by unfold inI; omega, ⟨bd.1, by show (0 : Int) < (List.length (failL p l) : Int) + _; omega, by omega, by show (List.length (failL p l) : Int) + _ ≤ _; omega⟩, idx_nat (by omega), inI_succ hi (by omega), ?_⟩
          rw [Int.toNat_natCast]
          refine ih _ (by simp [hl]) ?_
          have e : (scoresT p l).take (i + 1) = (scoresT p l).take i ++ [scoreAt p l i] := by
            unfold scoresT
            rw [map_take_next (scoreAt p l) (List.range p.length) 0 (by simpa using hi)]
            simp [List.getD_eq_getElem?_getD, hi]
          rw [e, ← ht, take_snoc tRa.dflt (by rw [List.length_set]; omega), List.take_set_of_le (Nat.le_refl _)]
          congr 2
          rw [List.getD_eq_getElem?_getD, List.getElem?_set_self (by omega)]
          unfold scoreAt
          rw [if_neg hF]; rfl
        · intro j hj ihj
          have hr : (List.getD (tableT p l) j []).length = p.length := table_row (mem_getD (by unfold tableT; simpa using hj))
          have bd := bad_good_bd p l (failL p l) i j
          have bd2 := bad_good_bd p l (failL p l) i (j + 1)
          unfold badTo goodTo at bd2 ihj
          apply h2; unfold cScores0_2
          rw [if_pos (by unfold tableT; simpa using hj), Int.toNat_natCast, Int.toNat_natCast]
          refine ⟨idx_nat (by unfold tableT; simpa using hj), trivial, ?_⟩
          show if (decide ((j : Int) ∈ failL p l)) = true then _ else _
          by_cases hm : (j : Int) ∈ failL p l
          · rw [if_pos (decide_eq_true hm)]
            rw [if_pos hm, if_pos hm] at bd2 ihj
            rw [Int.add_zero] at ihj
            exact ⟨idx_nat (by omega), by unfold inI; omega, inI_succ hj (by omega), ihj⟩
          · rw [if_neg (by simpa using hm)]
            rw [if_neg hm, if_neg hm] at bd2 ihj
            rw [Int.add_zero] at ihj
            exact ⟨idx_nat (by omega), by unfold inI; omega, inI_succ hj (by omega), ihj⟩
    exact key 0 (Nat.zero_le _) _ (by simp) rfl
abbrev cScores : Con := { A := (.cons (.sl tL) (.cons (.sl tTs) .nil)), R := (.cons (.sl tRa) (.cons .int .nil)), pre := fun x => True, F := fun x => ((if errT [x.1] x.2.1 = 0 then scoresT x.1 x.2.1 else []), errT [x.1] x.2.1, ()) }
def cScores_0  (p : (List Lin)) (l : (List Tst)) (y0 : (List Rtl)) (y1 : Int) : Prop :=
  True ∧ (if ((errT [p] l) != (0 : Int)) = true then (([] : List Rtl) = y0 ∧ (errT [p] l) = y1 ∧ True) else ((validP p = 0 ∧ validT l = 0) ∧ ((scoresT p l) = y0 ∧ (0 : Int) = y1 ∧ True)))
theorem cScores_law (h : ∀ (p : (List Lin)) (l : (List Tst)), cScores.A.wf (p, l, ()) → cScores_0  p l (if errT [p] l = 0 then scoresT p l else []) (errT [p] l)) : ConOK Go.Proofs.Try.prog 19 cScores := by
  refine lawL (Γ := [(62, cScores0), (61, cTested)]) (Θ := Th) (n := 23) [] ⟨cScores0_ok, cTested_ok, trivial⟩ (by kernel_rfl) th_ok mix_ok Go.Proofs.Try.func19 (by kernel_rfl) ?_
  intro x hw hp Λ hC
  have h0 := h x.1 x.2.1 hw  
  exact Eq.mpr (by kernel_rfl) h0
theorem cScores_ok : ConOK Go.Proofs.Try.prog 19 cScores := by
  refine cScores_law ?_
  intro p l hw
  unfold cScores_0
  refine ⟨trivial, ?_⟩
  by_cases h : errT [p] l = 0
  · rw [if_neg (by simp [h]), if_pos h]
    obtain ⟨h1, h2⟩ := errT_ok h
    exact ⟨⟨h1, h2⟩, rfl, h.symm, trivial⟩
  · rw [if_pos (by simpa using h), if_neg h]
    exact ⟨rfl, rfl, trivial⟩
abbrev cScoresR : Con := { A := (.cons (.sl tL) (.cons (.sl tTs) .nil)), R := (.cons (.sl tRa) (.cons .int .nil)), pre := fun x => True, F := fun x => ((if errT [x.1] x.2.1 = 0 then scoresT x.1 x.2.1 else []), errT [x.1] x.2.1, ()) }
def cScoresR_0 (Λ1 : Int → (List Rtl) → Prop) (Λ2 : Int → (List Rtl) → Int → Int → Int → Prop) (p : (List Lin)) (l : (List Tst)) (y0 : (List Rtl)) (y1 : Int) : Prop :=
  True ∧ (if ((errT [p] l) != (0 : Int)) = true then (([] : List Rtl) = y0 ∧ (errT [p] l) = y1 ∧ True) else (True ∧ Λ1 (0 : Int) ([] : List Rtl)))
def cScoresR_1 (Λ1 : Int → (List Rtl) → Prop) (Λ2 : Int → (List Rtl) → Int → Int → Int → Prop) (p : (List Lin)) (l : (List Tst)) (y0 : (List Rtl)) (y1 : Int)  (line_1 : Int) (out_1 : (List Rtl)) : Prop :=
  if (decide (line_1 < (List.length p : Int))) = true then Λ2 line_1 out_1 (0 : Int) (List.length ((if errT [p] l = 0 then failL p l else [])) : Int) (0 : Int) else (out_1 = y0 ∧ (0 : Int) = y1 ∧ True)
def cScoresR_2 (Λ1 : Int → (List Rtl) → Prop) (Λ2 : Int → (List Rtl) → Int → Int → Int → Prop) (p : (List Lin)) (l : (List Tst)) (y0 : (List Rtl)) (y1 : Int) (line_1 : Int) (out_1 : (List Rtl)) (n_2 : Int) (d_2 : Int) (i_2 : Int) : Prop :=
  if (decide (i_2 < (List.length ((if errT [p] l = 0 then tableT p l else [])) : Int))) = true then (idx i_2 (List.length ((if errT [p] l = 0 then tableT p l else [])) : Int) ∧ (idx line_1 (List.length (List.getD ((if errT [p] l = 0 then tableT p l else [])) (Int.toNat i_2) ([] : List Int)) : Int) ∧ (if ((List.getD (List.getD ((if errT [p] l = 0 then tableT p l else [])) (Int.toNat i_2) ([] : List Int)) (Int.toNat line_1) 0) == (0 : Int)) = true then (inI (i_2 + (1 : Int)) ∧ Λ2 line_1 out_1 n_2 d_2 (i_2 + (1 : Int))) else (((if errT [p] l = 0 then failL p l else [])).length ≤ 1000000 ∧ (if (decide (i_2 ∈ ((if errT [p] l = 0 then failL p l else [])))) = true then (inI (n_2 + (1 : Int)) ∧ (inI (i_2 + (1 : Int)) ∧ Λ2 line_1 out_1 (n_2 + (1 : Int)) d_2 (i_2 + (1 : Int)))) else (inI (d_2 + (1 : Int)) ∧ (inI (i_2 + (1 : Int)) ∧ Λ2 line_1 out_1 n_2 (d_2 + (1 : Int)) (i_2 + (1 : Int))))))))) else (if ((List.length ((if errT [p] l = 0 then failL p l else [])) : Int) == (0 : Int)) = true then ((0 ≤ (0 : Int) ∧ 0 < (1 : Int) ∧ (0 : Int) ≤ 1000000 ∧ (1 : Int) ≤ 1000000) ∧ (List.length out_1 + List.length [(ratioQ (0 : Int) (1 : Int))] ≤ 4294967296 ∧ (inI (line_1 + (1 : Int)) ∧ Λ1 (line_1 + (1 : Int)) (out_1 ++ [(ratioQ (0 : Int) (1 : Int))])))) else ((0 ≤ n_2 ∧ 0 < d_2 ∧ n_2 ≤ 1000000 ∧ d_2 ≤ 1000000) ∧ (List.length out_1 + List.length [(ratioQ n_2 d_2)] ≤ 4294967296 ∧ (inI (line_1 + (1 : Int)) ∧ Λ1 (line_1 + (1 : Int)) (out_1 ++ [(ratioQ n_2 d_2)])))))
theorem cScoresR_law (h : ∀ (p : (List Lin)) (l : (List Tst)), cScoresR.A.wf (p, l, ()) → ∀ (Λ1 : Int → (List Rtl) → Prop) (Λ2 : Int → (List Rtl) → Int → Int → Int → Prop), (∀ (line_1 : Int) (out_1 : (List Rtl)), cScoresR_1 Λ1 Λ2 p l (if errT [p] l = 0 then scoresT p l else []) (errT [p] l) line_1 out_1 → Λ1 line_1 out_1) → (∀ (line_1 : Int) (out_1 : (List Rtl)) (n_2 : Int) (d_2 : Int) (i_2 : Int), cScoresR_2 Λ1 Λ2 p l (if errT [p] l = 0 then scoresT p l else []) (errT [p] l) line_1 out_1 n_2 d_2 i_2 → Λ2 line_1 out_1 n_2 d_2 i_2) → cScoresR_0 Λ1 Λ2 p l (if errT [p] l = 0 then scoresT p l else []) (errT [p] l)) : ConOK Go.Proofs.Try.prog 20 cScoresR := by
  refine lawL (Γ := [(36, cFailingR), (63, cHasN), (64, cRatioR), (40, cTableR)]) (Θ := Th) (n := 69) [([1, 1, 1, 1, 1, 0, 1, 0], ⟨[(0, false), (6, true), (8, true), (10, true), (11, true)], [(10, true)]⟩), ([1, 1, 1, 1, 1, 0, 1, 0, 0, 1, 0, 0, 1, 0, 1, 0], ⟨[(0, false), (6, true), (8, true), (10, true), (11, true), (12, true), (13, true), (14, true)], [(10, true)]⟩)] ⟨cFailingR_ok, cHasN_ok, cRatioR_ok, cTableR_ok, trivial⟩ (by kernel_rfl) th_ok mix_ok Go.Proofs.Try.func20 (by kernel_rfl) ?_
  intro x hw hp Λ hC
  have h0 := h x.1 x.2.1 hw (fun line_1 out_1 => Λ [1, 1, 1, 1, 1, 0, 1, 0] ([(0, .d false (.sl tL) x.1), (6, .d true (.sl (.sl .int)) ((if errT [x.1] x.2.1 = 0 then tableT x.1 x.2.1 else []))), (8, .d true (.sl .int) ((if errT [x.1] x.2.1 = 0 then failL x.1 x.2.1 else []))), (10, .own 10 0), (11, .d true .int line_1)], [(10, .sl true tRa out_1)])) (fun line_1 out_1 n_2 d_2 i_2 => Λ [1, 1, 1, 1, 1, 0, 1, 0, 0, 1, 0, 0, 1, 0, 1, 0] ([(0, .d false (.sl tL) x.1), (6, .d true (.sl (.sl .int)) ((if errT [x.1] x.2.1 = 0 then tableT x.1 x.2.1 else []))), (8, .d true (.sl .int) ((if errT [x.1] x.2.1 = 0 then failL x.1 x.2.1 else []))), (10, .own 10 0), (11, .d true .int line_1), (12, .d true .int n_2), (13, .d true .int d_2), (14, .d true .int i_2)], [(10, .sl true tRa out_1)])) (fun line_1 out_1 hb => hC [1, 1, 1, 1, 1, 0, 1, 0] ([(0, .d false (.sl tL) x.1), (6, .d true (.sl (.sl .int)) ((if errT [x.1] x.2.1 = 0 then tableT x.1 x.2.1 else []))), (8, .d true (.sl .int) ((if errT [x.1] x.2.1 = 0 then failL x.1 x.2.1 else []))), (10, .own 10 0), (11, .d true .int line_1)], [(10, .sl true tRa out_1)]) (Eq.mpr (by kernel_rfl) hb)) (fun line_1 out_1 n_2 d_2 i_2 hb => hC [1, 1, 1, 1, 1, 0, 1, 0, 0, 1, 0, 0, 1, 0, 1, 0] ([(0, .d false (.sl tL) x.1), (6, .d true (.sl (.sl .int)) ((if errT [x.1] x.2.1 = 0 then tableT x.1 x.2.1 else []))), (8, .d true (.sl .int) ((if errT [x.1] x.2.1 = 0 then failL x.1 x.2.1 else []))), (10, .own 10 0), (11, .d true .int line_1), (12, .d true .int n_2), (13, .d true .int d_2), (14, .d true .int i_2)], [(10, .sl true tRa out_1)]) (Eq.mpr (by kernel_rfl) hb))
  exact Eq.mpr (by kernel_rfl) h0
theorem cScoresR_ok : ConOK Go.Proofs.Try.prog 20 cScoresR := by
  refine cScoresR_law ?_
  intro p l hw Λ1 Λ2 h1 h2
  unfold cScoresR_0
  refine ⟨trivial, ?_⟩
  by_cases h : errT [p] l = 0
  · rw [if_neg (by simp [h])]
    refine ⟨trivial, ?_⟩
    obtain ⟨p1, p2⟩ := errT_ok h
    obtain ⟨h8, hall⟩ := validT_ok p2
    have hp8 := (validP_ok p1).1
    have hFle : (failL p l).length ≤ l.length := whereL_len _ _
    have hsl : (scoresT p l).length = p.length := by unfold scoresT; simp
    refine upto (n := p.length) (Q := fun i => Λ1 (i : Int) ((scoresT p l).take i)) ?_ ?_ 0 (Nat.zero_le _)
    · apply h1; unfold cScoresR_1; rw [if_neg (by simp), List.take_of_length_le (by omega), if_pos h]
      exact ⟨rfl, h.symm, trivial⟩
    · intro i hi ih
      have e : (scoresT p l).take (i + 1) = (scoresT p l).take i ++ [scoreAt p l i] := by
        unfold scoresT
        rw [map_take_next (scoreAt p l) (List.range p.length) 0 (by simpa using hi)]
        simp [List.getD_eq_getElem?_getD, hi]
      rw [e] at ih
      apply h1; unfold cScoresR_1; rw [if_pos (by simpa using hi), if_pos h]
      have start : Λ2 (i : Int) ((scoresT p l).take i) (badTo (tableT p l) (failL p l) i 0) ((failL p l).length + goodTo (tableT p l) (failL p l) i 0) ((0 : Nat) : Int) := by
        refine upto (n := l.length) (Q := fun j => Λ2 (i : Int) ((scoresT p l).take i) (badTo (tableT p l) (failL p l) i j) ((failL p l).length + goodTo (tableT p l) (failL p l) i j) (j : Int)) ?_ ?_ 0 (Nat.zero_le _)
        · apply h2; unfold cScoresR_2
          rw [if_pos h, if_pos h, if_neg (by unfold tableT; simp)]
          have hlen : ∀ x : Rtl, List.length ((scoresT p l).take i) + List.length [x] ≤ 4294967296 := fun x => by simp only [List.length_take, List.length_cons, List.length_nil]; omega
          unfold scoreAt at ih
          have bd := bad_good_bd p l (failL p l) i l.length
          by_cases hF : failL p l = []
          · rw [if_pos (by simp [hF])]
            rw [if_pos hF] at ih
            exact ⟨⟨by omega, by omega, by omega, by omega⟩, hlen _, inI_succ hi (by omega), ih⟩
          · have hFl : 0 < (failL p l).length := List.length_pos_iff.2 hF
            rw [if_neg (by simp [hF])]
            rw [if_neg hF] at ih
            exact ⟨⟨bd.1, by omega, by omega, by omega⟩, hlen _, inI_succ hi (by omega), ih⟩
        · intro j hj ihj
          have hr : (List.getD (tableT p l) j []).length = p.length := table_row (mem_getD (by unfold tableT; simpa using hj))
          have bd := bad_good_bd p l (failL p l) i j
          have bit := table_bit p l j i
          unfold badTo goodTo at ihj
          apply h2; unfold cScoresR_2
          rw [if_pos h, if_pos h, if_pos (by unfold tableT; simpa using hj), Int.toNat_natCast, Int.toNat_natCast]
          refine ⟨idx_nat (by unfold tableT; simpa using hj), idx_nat (by omega), ?_⟩
          by_cases hz : List.getD (List.getD (tableT p l) j []) i 0 = 0
          · rw [if_pos (by simpa using hz)]
            simp only [hz, ite_self, Int.add_zero] at ihj
            exact ⟨inI_succ hj (by omega), ihj⟩
          · have h1' : List.getD (List.getD (tableT p l) j []) i 0 = 1 := by omega
            rw [if_neg (by simpa using hz)]
            refine ⟨by omega, ?_⟩
            by_cases hm : (j : Int) ∈ failL p l
            · rw [if_pos (decide_eq_true hm)]
              rw [if_pos hm, if_pos hm, h1', Int.add_zero] at ihj
              exact ⟨by unfold inI; omega, inI_succ hj (by omega), ihj⟩
            · rw [if_neg (by simpa using hm)]
              rw [if_neg hm, if_neg hm, h1', Int.add_zero, ← Int.add_assoc] at ihj
              exact ⟨by unfold inI; omega, inI_succ hj (by omega), ihj⟩
      simpa [badTo, goodTo] using start
  · rw [if_pos (by simpa using h), if_neg h]
    exact ⟨rfl, rfl, trivial⟩
abbrev cSameRats : Con := { A := (.cons (.sl tRa) (.cons (.sl tRa) .nil)), R := (.cons .bool .nil), pre := fun x => x.1.length ≤ 1000000, F := fun x => (decide (x.1 = x.2.1), ()) }
def cSameRats_0 (Λ1 : Int → Prop) (a : (List Rtl)) (b : (List Rtl)) (y0 : Bool) : Prop :=
  if ((List.length a : Int) != (List.length b : Int)) = true then (false = y0 ∧ True) else Λ1 (0 : Int)
def cSameRats_1 (Λ1 : Int → Prop) (a : (List Rtl)) (b : (List Rtl)) (y0 : Bool)  (i_1 : Int) : Prop :=
  if (decide (i_1 < (List.length a : Int))) = true then (idx i_1 (List.length a : Int) ∧ (idx i_1 (List.length b : Int) ∧ (if (!(T.eqB tRa (List.getD a (Int.toNat i_1) tRa.dflt) (List.getD b (Int.toNat i_1) tRa.dflt))) = true then (false = y0 ∧ True) else (inI (i_1 + (1 : Int)) ∧ Λ1 (i_1 + (1 : Int)))))) else (true = y0 ∧ True)
theorem cSameRats_law (h : ∀ (a : (List Rtl)) (b : (List Rtl)), cSameRats.A.wf (a, b, ()) → (a.length ≤ 1000000) → ∀ (Λ1 : Int → Prop), (∀ (i_1 : Int), cSameRats_1 Λ1 a b (decide (a = b)) i_1 → Λ1 i_1) → cSameRats_0 Λ1 a b (decide (a = b))) : ConOK Go.Proofs.Try.prog 21 cSameRats := by
  refine lawL (Γ := []) (Θ := Th) (n := 26) [([1, 1, 0, 1, 0], ⟨[(0, false), (1, false), (5, true)], []⟩)] trivial (by kernel_rfl) th_ok mix_ok Go.Proofs.Try.func21 (by kernel_rfl) ?_
  intro x hw hp Λ hC
  have h0 := h x.1 x.2.1 hw hp (fun i_1 => Λ [1, 1, 0, 1, 0] ([(0, .d false (.sl tRa) x.1), (1, .d false (.sl tRa) x.2.1), (5, .d true .int i_1)], [])) (fun i_1 hb => hC [1, 1, 0, 1, 0] ([(0, .d false (.sl tRa) x.1), (1, .d false (.sl tRa) x.2.1), (5, .d true .int i_1)], []) (Eq.mpr (by kernel_rfl) hb))
  exact Eq.mpr (by kernel_rfl) h0
theorem cSameRats_ok : ConOK Go.Proofs.Try.prog 21 cSameRats := by
  refine cSameRats_law ?_
  intro a b hw hp Λ1 h1
  unfold cSameRats_0
  by_cases hl : a.length = b.length
  · rw [if_neg (by simp [hl])]
    refine upto (n := a.length) (Q := fun i => a.take i = b.take i → Λ1 i) ?_ ?_ 0 (Nat.zero_le _) rfl
    · intro ha
      rw [List.take_length, List.take_of_length_le (by omega)] at ha
      apply h1; unfold cSameRats_1; rw [if_neg (by simp)]
      exact ⟨by simp [ha], trivial⟩
    · intro i hi ih ha
      apply h1; unfold cSameRats_1; rw [if_pos (by simpa using hi), Int.toNat_natCast]
      refine ⟨idx_nat hi, idx_nat (by omega), ?_⟩
      have heq := eqB_iff (t := tRa) (x := List.getD a i tRa.dflt) (y := List.getD b i tRa.dflt) rfl
      by_cases hv : List.getD a i tRa.dflt = List.getD b i tRa.dflt
      · rw [if_neg (by rw [heq.2 hv]; simp)]
        exact ⟨inI_succ hi (by omega), ih (take_eq_next tRa.dflt hi hl ha hv)⟩
      · rw [if_pos (by
          cases hq : T.eqB tRa (List.getD a i tRa.dflt) (List.getD b i tRa.dflt)
          · rfl
          · exact absurd (heq.1 hq) hv)]
        exact ⟨by simp [ne_at tRa.dflt hv], trivial⟩
  · rw [if_pos (by simp; omega)]
    exact ⟨by simp; exact fun e => hl (by rw [e]), trivial⟩
abbrev cBoxR2e : Con := { A := (.cons tCt .nil), R := (.cons .int (.cons .int .nil)), pre := fun x => True, F := fun x => ((if validC x.1 = 0 then sizeC x.1 else 0), validC x.1, ()) }
def cBoxR2e_0  (c : Ctr) (y0 : Int) (y1 : Int) : Prop :=
  True ∧ (if ((validC c) != (0 : Int)) = true then ((0 : Int) = y0 ∧ (validC c) = y1 ∧ True) else (boxC c ∧ ((min (sizeC c) 401) = y0 ∧ (0 : Int) = y1 ∧ True)))
theorem cBoxR2e_law (h : ∀ (c : Ctr), cBoxR2e.A.wf (c, ()) → cBoxR2e_0  c (if validC c = 0 then sizeC c else 0) (validC c)) : ConOK Go.Proofs.Try.prog 24 cBoxR2e := by
  refine lawL (Γ := [(66, cBoxR2), (26, cValCR)]) (Θ := Th) (n := 12) [] ⟨cBoxR2_ok, cValCR_ok, trivial⟩ (by kernel_rfl) th_ok mix_ok Go.Proofs.Try.func24 (by kernel_rfl) ?_
  intro x hw hp Λ hC
  have h0 := h x.1 hw  
  exact Eq.mpr (by kernel_rfl) h0
theorem cBoxR2e_ok : ConOK Go.Proofs.Try.prog 24 cBoxR2e := by
  refine cBoxR2e_law ?_
  intro c hw
  unfold cBoxR2e_0
  refine ⟨trivial, ?_⟩
  by_cases h : validC c = 0
  · rw [if_neg (by simp [h]), if_pos h, h]
    obtain ⟨i1, i2⟩ := validC_ok h
    exact ⟨(isCtr_box i1).1, by omega, rfl, trivial⟩
  · rw [if_pos (by simpa using h), if_neg h]
    exact ⟨rfl, rfl, trivial⟩
abbrev cKnown2 : Con := { A := .nil, R := (.cons .bool .nil), pre := fun x => True, F := fun x => (true, ()) }
def cKnown2_0   (y0 : Bool) : Prop :=
  True ∧ (True ∧ (if ((errT [[(1, 0, 3, 0, ()), (3, 0, 0, 0, ())]] ([([(0 : Int), (0 : Int), (0 : Int), (0 : Int)], 0, 6, ()), ([(0 : Int), (0 : Int), (0 : Int), (0 : Int)], 0, 7, ())])) == (0 : Int)) = true then (((if errT [[(1, 0, 3, 0, ()), (3, 0, 0, 0, ())]] ([([(0 : Int), (0 : Int), (0 : Int), (0 : Int)], 0, 6, ()), ([(0 : Int), (0 : Int), (0 : Int), (0 : Int)], 0, 7, ())]) = 0 then scoresT [(1, 0, 3, 0, ()), (3, 0, 0, 0, ())] ([([(0 : Int), (0 : Int), (0 : Int), (0 : Int)], 0, 6, ()), ([(0 : Int), (0 : Int), (0 : Int), (0 : Int)], 0, 7, ())]) else [])).length ≤ 1000000 ∧ (True ∧ (if (bif true then (decide (((if errT [[(1, 0, 3, 0, ()), (3, 0, 0, 0, ())]] ([([(0 : Int), (0 : Int), (0 : Int), (0 : Int)], 0, 6, ()), ([(0 : Int), (0 : Int), (0 : Int), (0 : Int)], 0, 7, ())]) = 0 then scoresT [(1, 0, 3, 0, ()), (3, 0, 0, 0, ())] ([([(0 : Int), (0 : Int), (0 : Int), (0 : Int)], 0, 6, ()), ([(0 : Int), (0 : Int), (0 : Int), (0 : Int)], 0, 7, ())]) else [])) = [(1, 2, ()), (1, 2, ())])) else false) = true then (True ∧ (if (bif true then ((validC ([(0 : Int), (0 : Int), (0 : Int), (0 : Int)], [(1 : Int), (0 : Int), (0 : Int), (2 : Int)], 3, 0, 1, ())) == (0 : Int)) else false) = true then (True ∧ ((bif true then (((if validC ([(0 : Int), (0 : Int), (0 : Int), (0 : Int)], [(1 : Int), (0 : Int), (0 : Int), (2 : Int)], 3, 0, 1, ()) = 0 then sizeC ([(0 : Int), (0 : Int), (0 : Int), (0 : Int)], [(1 : Int), (0 : Int), (0 : Int), (2 : Int)], 3, 0, 1, ()) else 0)) == (6 : Int)) else false) = y0 ∧ True)) else (false = false ∧ (false = y0 ∧ True)))) else (false = false ∧ (false = false ∧ (false = y0 ∧ True)))))) else (false = false ∧ (false = false ∧ (false = false ∧ (false = y0 ∧ True))))))
theorem cKnown2_law (h : cKnown2.A.wf (()) → cKnown2_0   true) : ConOK Go.Proofs.Try.prog 18 cKnown2 := by
  refine lawL (Γ := [(23, cBox2), (21, cSameRats), (19, cScores)]) (Θ := Th) (n := 47) [] ⟨cBox2_ok, cSameRats_ok, cScores_ok, trivial⟩ (by kernel_rfl) th_ok mix_ok Go.Proofs.Try.func18 (by kernel_rfl) ?_
  intro x hw hp Λ hC
  have h0 := h  hw  
  exact Eq.mpr (by kernel_rfl) h0
theorem cKnown2_ok : ConOK Go.Proofs.Try.prog 18 cKnown2 := by
  refine cKnown2_law ?_
  intro hw
  unfold cKnown2_0
  decide +kernel
abbrev cMany : Con := { A := (.cons (.sl tTs) .nil), R := (.cons .bool .nil), pre := fun x => True, F := fun x => (decide (x.1.length > 50) || x.1.any (fun t' => decide (100 < t'.1.length)), ()) }
def cMany_0 (Λ1 : Int → Prop) (l : (List Tst)) (y0 : Bool) : Prop :=
  if (decide ((List.length l : Int) > (50 : Int))) = true then (true = y0 ∧ True) else Λ1 (0 : Int)
def cMany_1 (Λ1 : Int → Prop) (l : (List Tst)) (y0 : Bool)  (i_1 : Int) : Prop :=
  if (decide (i_1 < (List.length l : Int))) = true then (idx i_1 (List.length l : Int) ∧ (True ∧ (if (decide (100 < ((List.getD l (Int.toNat i_1) tTs.dflt).1).length)) = true then (true = y0 ∧ True) else (inI (i_1 + (1 : Int)) ∧ Λ1 (i_1 + (1 : Int)))))) else (false = y0 ∧ True)
theorem cMany_law (h : ∀ (l : (List Tst)), cMany.A.wf (l, ()) → ∀ (Λ1 : Int → Prop), (∀ (i_1 : Int), cMany_1 Λ1 l (decide (l.length > 50) || l.any (fun t' => decide (100 < t'.1.length))) i_1 → Λ1 i_1) → cMany_0 Λ1 l (decide (l.length > 50) || l.any (fun t' => decide (100 < t'.1.length)))) : ConOK Go.Proofs.Try.prog 17 cMany := by
  refine lawL (Γ := [(27, cLarge2)]) (Θ := Th) (n := 19) [([1, 1, 0, 1, 0], ⟨[(0, false), (3, true)], []⟩)] ⟨cLarge2_ok, trivial⟩ (by kernel_rfl) th_ok mix_ok Go.Proofs.Try.func17 (by kernel_rfl) ?_
  intro x hw hp Λ hC
  have h0 := h x.1 hw (fun i_1 => Λ [1, 1, 0, 1, 0] ([(0, .d false (.sl tTs) x.1), (3, .d true .int i_1)], [])) (fun i_1 hb => hC [1, 1, 0, 1, 0] ([(0, .d false (.sl tTs) x.1), (3, .d true .int i_1)], []) (Eq.mpr (by kernel_rfl) hb))
  exact Eq.mpr (by kernel_rfl) h0
theorem cMany_ok : ConOK Go.Proofs.Try.prog 17 cMany := by
  refine cMany_law ?_
  intro l hw Λ1 h1
  unfold cMany_0
  by_cases h : l.length > 50
  · rw [if_pos (by simp; omega)]; exact ⟨by simp [h], trivial⟩
  · rw [if_neg (by simp; omega)]
    refine upto (n := l.length) (Q := fun i => (l.take i).any (fun t => decide (100 < t.1.length)) = false → Λ1 i) ?_ ?_ 0 (Nat.zero_le _) rfl
    · intro ha
      rw [List.take_length] at ha
      apply h1; unfold cMany_1; rw [if_neg (by simp), ha]
      exact ⟨by simp; omega, trivial⟩
    · intro i hi ih ha
      apply h1; unfold cMany_1; rw [if_pos (by simpa using hi), Int.toNat_natCast]
      refine ⟨idx_nat hi, trivial, ?_⟩
      cases hv : decide (100 < (List.getD l i tTs.dflt).1.length)
      · rw [if_neg (by simp)]
        exact ⟨inI_succ hi (by omega), ih (any_take_next (p := fun t : Tst => decide (100 < t.1.length)) tTs.dflt hi ha hv)⟩
      · rw [if_pos (by rfl)]
        have : l.any (fun t => decide (100 < t.1.length)) = true := List.any_eq_true.2 ⟨_, mem_getD hi, hv⟩
        rw [this]
        exact ⟨by simp, trivial⟩
end Go.Tk
set_option linter.unusedSimpArgs false
set_option linter.unusedVariables false
namespace Go.Tk
open Go Go.RowKit

abbrev cCheckBoxes : Con := { A := (.cons tCt .nil), R := (.cons .bool .nil), pre := fun x => True, F := fun x => (true, ()) }
def cCheckBoxes_0  (c : Ctr) (y0 : Bool) : Prop :=
  True ∧ (if (decide (100 < c.1.length ∨ 100 < c.2.1.length)) = true then (True ∧ (true = y0 ∧ True)) else (True ∧ (True ∧ (True ∧ (True ∧ (if ((validC c) == (validC c)) = true then (True ∧ (if (bif true then (((if validC c = 0 then sizeC c else 0)) == ((if validC c = 0 then sizeC c else 0))) else false) = true then (True ∧ (if (bif true then ((validC c) == (validC c)) else false) = true then (True ∧ (True ∧ ((bif true then true else false) = y0 ∧ True))) else (false = false ∧ (false = y0 ∧ True)))) else (false = false ∧ (false = false ∧ (false = y0 ∧ True))))) else (false = false ∧ (false = false ∧ (false = false ∧ (false = y0 ∧ True))))))))))
theorem cCheckBoxes_law (h : ∀ (c : Ctr), cCheckBoxes.A.wf (c, ()) → cCheckBoxes_0  c true) : ConOK Go.Proofs.Try.prog 4 cCheckBoxes := by
  refine lawL (Γ := [(23, cBox2), (24, cBoxR2e), (18, cKnown2), (25, cValC), (26, cValCR), (22, cWide)]) (Θ := Th) (n := 38) [] ⟨cBox2_ok, cBoxR2e_ok, cKnown2_ok, cValC_ok, cValCR_ok, cWide_ok, trivial⟩ (by kernel_rfl) th_ok mix_ok Go.Proofs.Try.func4 (by kernel_rfl) ?_
  intro x hw hp Λ hC
  have h0 := h x.1 hw  
  exact Eq.mpr (by kernel_rfl) h0
theorem cCheckBoxes_ok : ConOK Go.Proofs.Try.prog 4 cCheckBoxes := by
  refine cCheckBoxes_law ?_
  intro c hw
  unfold cCheckBoxes_0
  by_cases c1 : 100 < c.1.length ∨ 100 < c.2.1.length
  · simp [c1]
  · simp [c1]
abbrev cCheckPasses : Con := { A := (.cons (.sl tL) (.cons tTs .nil)), R := (.cons .bool .nil), pre := fun x => True, F := fun x => (true, ()) }
def cCheckPasses_0  (p : (List Lin)) (t : Tst) (y0 : Bool) : Prop :=
  True ∧ (if (decide (100 < p.length)) = true then (true = true ∧ (True ∧ (true = y0 ∧ True))) else (True ∧ (True ∧ (if (bif false then true else (decide (100 < t.1.length))) = true then (True ∧ (true = y0 ∧ True)) else (True ∧ (True ∧ (if (((errT [p] [t] == 0 && passT p t)) == ((errT [p] [t] == 0 && passT p t))) = true then (True ∧ (if (bif true then ((errT [p] [t]) == (errT [p] [t])) else false) = true then (True ∧ (True ∧ ((bif true then true else false) = y0 ∧ True))) else (false = false ∧ (false = y0 ∧ True)))) else (false = false ∧ (false = false ∧ (false = y0 ∧ True))))))))))
theorem cCheckPasses_law (h : ∀ (p : (List Lin)) (t : Tst), cCheckPasses.A.wf (p, t, ()) → cCheckPasses_0  p t true) : ConOK Go.Proofs.Try.prog 5 cCheckPasses := by
  refine lawL (Γ := [(18, cKnown2), (27, cLarge2), (16, cLongL), (28, cPasses), (29, cPassesR)]) (Θ := Th) (n := 40) [] ⟨cKnown2_ok, cLarge2_ok, cLongL_ok, cPasses_ok, cPassesR_ok, trivial⟩ (by kernel_rfl) th_ok mix_ok Go.Proofs.Try.func5 (by kernel_rfl) ?_
  intro x hw hp Λ hC
  have h0 := h x.1 x.2.1 hw  
  exact Eq.mpr (by kernel_rfl) h0
theorem cCheckPasses_ok : ConOK Go.Proofs.Try.prog 5 cCheckPasses := by
  refine cCheckPasses_law ?_
  intro p t hw
  unfold cCheckPasses_0
  by_cases c1 : 100 < p.length
  · simp [c1]
  by_cases c2 : 100 < t.1.length
  · simp [c1, c2]
  simp [c1, c2]
abbrev cCheckPassing : Con := { A := (.cons (.sl tL) (.cons (.sl tTs) .nil)), R := (.cons .bool .nil), pre := fun x => True, F := fun x => (true, ()) }
def cCheckPassing_0  (p : (List Lin)) (l : (List Tst)) (y0 : Bool) : Prop :=
  True ∧ (if (decide (100 < p.length)) = true then (true = true ∧ (True ∧ (true = y0 ∧ True))) else (True ∧ (True ∧ (if (bif false then true else (decide (l.length > 50) || l.any (fun t' => decide (100 < t'.1.length)))) = true then (True ∧ (true = y0 ∧ True)) else (True ∧ (True ∧ (True ∧ (True ∧ (True ∧ (True ∧ (if ((validT l) != (validT l)) = true then (true = true ∧ (true = true ∧ (true = true ∧ (true = true ∧ (false = y0 ∧ True))))) else (((if errT [p] l = 0 then whereL (passT p) l else [])).length ≤ 1000000 ∧ (True ∧ (if (bif false then true else (!(decide (((if errT [p] l = 0 then whereL (passT p) l else [])) = ((if errT [p] l = 0 then whereL (passT p) l else [])))))) = true then (true = true ∧ (true = true ∧ (true = true ∧ (false = y0 ∧ True)))) else (True ∧ (if (bif false then true else ((errT [p] l) != (errT [p] l))) = true then (true = true ∧ (true = true ∧ (false = y0 ∧ True))) else (((if errT [p] l = 0 then failL p l else [])).length ≤ 1000000 ∧ (True ∧ (if (bif false then true else (!(decide (((if errT [p] l = 0 then failL p l else [])) = ((if errT [p] l = 0 then failL p l else [])))))) = true then (true = true ∧ (false = y0 ∧ True)) else (True ∧ (if (bif false then true else ((errT [p] l) != (errT [p] l))) = true then (false = y0 ∧ True) else (if ((errT [p] l) != (0 : Int)) = true then (true = true ∧ (True ∧ (True ∧ ((bif true then true else false) = y0 ∧ True)))) else (inI ((List.length ((if errT [p] l = 0 then whereL (passT p) l else [])) : Int) + (List.length ((if errT [p] l = 0 then failL p l else [])) : Int)) ∧ (True ∧ (if (bif false then true else (((List.length ((if errT [p] l = 0 then whereL (passT p) l else [])) : Int) + (List.length ((if errT [p] l = 0 then failL p l else [])) : Int)) == (List.length l : Int))) = true then (True ∧ (True ∧ ((bif true then true else false) = y0 ∧ True))) else (false = false ∧ (false = y0 ∧ True)))))))))))))))))))))))))))
theorem cCheckPassing_law (h : ∀ (p : (List Lin)) (l : (List Tst)), cCheckPassing.A.wf (p, l, ()) → cCheckPassing_0  p l true) : ConOK Go.Proofs.Try.prog 7 cCheckPassing := by
  refine lawL (Γ := [(35, cFailing), (36, cFailingR), (18, cKnown2), (16, cLongL), (17, cMany), (33, cPassing), (34, cPassingR), (32, cSameIntsR), (37, cValT), (38, cValTR)]) (Θ := Th) (n := 86) [] ⟨cFailing_ok, cFailingR_ok, cKnown2_ok, cLongL_ok, cMany_ok, cPassing_ok, cPassingR_ok, cSameIntsR_ok, cValT_ok, cValTR_ok, trivial⟩ (by kernel_rfl) th_ok mix_ok Go.Proofs.Try.func7 (by kernel_rfl) ?_
  intro x hw hp Λ hC
  have h0 := h x.1 x.2.1 hw  
  exact Eq.mpr (by kernel_rfl) h0
theorem cCheckPassing_ok : ConOK Go.Proofs.Try.prog 7 cCheckPassing := by
  refine cCheckPassing_law ?_
  intro p l hw
  unfold cCheckPassing_0
  by_cases c1 : 100 < p.length
  · simp [c1]
  cases c2 : (decide (l.length > 50) || l.any (fun t' => decide (100 < t'.1.length)))
  · have hl : l.length ≤ 50 := by
      rw [Bool.or_eq_false_iff, decide_eq_false_iff_not] at c2; omega
    have l1 : (whereL (passT p) l).length ≤ 1000000 := by have := whereL_len (passT p) l; omega
    have l2 : (failL p l).length ≤ 1000000 := by have := whereL_len (fun t => !passT p t) l; unfold failL; omega
    have hb := where_both (passT p) l
    have hb' : ((whereL (passT p) l).length : Int) + (failL p l).length = l.length := by unfold failL; omega
    have in1 : inI (((whereL (passT p) l).length : Int) + (failL p l).length) := by unfold inI; omega
    have in2 : inI (l.length : Int) := by unfold inI; omega
    by_cases e : errT [p] l = 0
    · simp [c1, c2, e, l1, l2, hb', in1, in2]
    · simp [c1, c2, e]
  · simp [c1, c2]
abbrev cCheckTells : Con := { A := (.cons (.sl tL) (.cons (.sl tL) (.cons (.sl tTs) .nil))), R := (.cons .bool .nil), pre := fun x => True, F := fun x => (true, ()) }
def cCheckTells_0  (p : (List Lin)) (q : (List Lin)) (l : (List Tst)) (y0 : Bool) : Prop :=
  True ∧ (if (decide (100 < p.length)) = true then (true = true ∧ (true = true ∧ (True ∧ (true = y0 ∧ True)))) else (True ∧ (True ∧ (if (bif false then true else (decide (100 < q.length))) = true then (true = true ∧ (True ∧ (true = y0 ∧ True))) else (True ∧ (True ∧ (if (bif false then true else (decide (l.length > 50) || l.any (fun t' => decide (100 < t'.1.length)))) = true then (True ∧ (true = y0 ∧ True)) else (True ∧ (True ∧ (((if errT [p, q] l = 0 then tellsT p q l else [])).length ≤ 1000000 ∧ (if (!(decide (((if errT [p, q] l = 0 then tellsT p q l else [])) = ((if errT [p, q] l = 0 then tellsT p q l else []))))) = true then (true = true ∧ (false = y0 ∧ True)) else (True ∧ (if (bif false then true else ((errT [p, q] l) != (errT [p, q] l))) = true then (false = y0 ∧ True) else (True ∧ (if ((errT [p, q] l) != (0 : Int)) = true then (true = true ∧ (True ∧ (True ∧ ((bif true then true else false) = y0 ∧ True)))) else (if ((errT [q, p] l) == (0 : Int)) = true then (((if errT [p, q] l = 0 then tellsT p q l else [])).length ≤ 1000000 ∧ (True ∧ (True ∧ (if (bif false then true else (bif true then (decide (((if errT [p, q] l = 0 then tellsT p q l else [])) = ((if errT [q, p] l = 0 then tellsT q p l else [])))) else false)) = true then (True ∧ (True ∧ ((bif true then true else false) = y0 ∧ True))) else (false = false ∧ (false = y0 ∧ True)))))) else (false = false ∧ (True ∧ (if (bif false then true else false) = true then (True ∧ (True ∧ ((bif true then true else false) = y0 ∧ True))) else (false = false ∧ (false = y0 ∧ True)))))))))))))))))))))
theorem cCheckTells_law (h : ∀ (p : (List Lin)) (q : (List Lin)) (l : (List Tst)), cCheckTells.A.wf (p, q, l, ()) → cCheckTells_0  p q l true) : ConOK Go.Proofs.Try.prog 6 cCheckTells := by
  refine lawL (Γ := [(18, cKnown2), (16, cLongL), (17, cMany), (32, cSameIntsR), (30, cTells), (31, cTellsR)]) (Θ := Th) (n := 68) [] ⟨cKnown2_ok, cLongL_ok, cMany_ok, cSameIntsR_ok, cTells_ok, cTellsR_ok, trivial⟩ (by kernel_rfl) th_ok mix_ok Go.Proofs.Try.func6 (by kernel_rfl) ?_
  intro x hw hp Λ hC
  have h0 := h x.1 x.2.1 x.2.2.1 hw  
  exact Eq.mpr (by kernel_rfl) h0
theorem cCheckTells_ok : ConOK Go.Proofs.Try.prog 6 cCheckTells := by
  refine cCheckTells_law ?_
  intro p q l hw
  unfold cCheckTells_0
  by_cases c1 : 100 < p.length
  · simp [c1]
  by_cases c1' : 100 < q.length
  · simp [c1, c1']
  cases c2 : (decide (l.length > 50) || l.any (fun t' => decide (100 < t'.1.length)))
  · have hl : l.length ≤ 50 := by
      rw [Bool.or_eq_false_iff, decide_eq_false_iff_not] at c2; omega
    have l1 : (tellsT p q l).length ≤ 1000000 := by have := whereL_len (fun t => endT p t != endT q t) l; unfold tellsT; omega
    by_cases e : errT [p, q] l = 0
    · have e2 : errT [q, p] l = 0 := by
        obtain ⟨h1, h2, h3⟩ := errT2_ok e
        rw [errT2_cases, errT_cases, if_pos h2, if_pos h1, h3]
      simp [c1, c1', c2, e, e2, l1, tells_comm]
    · simp [c1, c1', c2, e]
  · simp [c1, c1', c2]
theorem scoresT_le (p : List Lin) (l : List Tst) : ∀ i, i < (scoresT p l).length → ((scoresT p l).getD i tRa.dflt).1 ≤ ((scoresT p l).getD i tRa.dflt).2.1 := by
  intro i hi
  have hm : (scoresT p l).getD i tRa.dflt ∈ scoresT p l := mem_getD hi
  obtain ⟨k, _, e⟩ := List.mem_map.1 hm
  rw [← e]
  unfold scoreAt
  split
  · decide
  · rename_i h
    have bd := bad_good_bd p l (failL p l) k l.length
    have h1 := badTo_le p l (fun t => !passT p t) k l.length l.length (Nat.le_refl _)
    have h2 : 0 < (failL p l).length := List.length_pos_iff.2 h
    have h3 : badTo (tableT p l) (failL p l) k l.length ≤ (failL p l).length := h1
    exact ratioQ_le bd.1 (by omega) (by omega)

abbrev cCheckScores : Con := { A := (.cons (.sl tL) (.cons (.sl tTs) .nil)), R := (.cons .bool .nil), pre := fun x => True, F := fun x => (true, ()) }
def cCheckScores_0 (Λ1 : Int → Prop) (p : (List Lin)) (l : (List Tst)) (y0 : Bool) : Prop :=
  True ∧ (if (decide (100 < p.length)) = true then (true = true ∧ (True ∧ (true = y0 ∧ True))) else (True ∧ (True ∧ (if (bif false then true else (decide (l.length > 50) || l.any (fun t' => decide (100 < t'.1.length)))) = true then (True ∧ (true = y0 ∧ True)) else (True ∧ (True ∧ (((if errT [p] l = 0 then scoresT p l else [])).length ≤ 1000000 ∧ (if (!(decide (((if errT [p] l = 0 then scoresT p l else [])) = ((if errT [p] l = 0 then scoresT p l else []))))) = true then (true = true ∧ (false = y0 ∧ True)) else (True ∧ (if (bif false then true else ((errT [p] l) != (errT [p] l))) = true then (false = y0 ∧ True) else Λ1 (0 : Int)))))))))))
def cCheckScores_1 (Λ1 : Int → Prop) (p : (List Lin)) (l : (List Tst)) (y0 : Bool)  (i_1 : Int) : Prop :=
  if (decide (i_1 < (List.length ((if errT [p] l = 0 then scoresT p l else [])) : Int))) = true then (idx i_1 (List.length ((if errT [p] l = 0 then scoresT p l else [])) : Int) ∧ (idx i_1 (List.length ((if errT [p] l = 0 then scoresT p l else [])) : Int) ∧ (if (decide ((List.getD ((if errT [p] l = 0 then scoresT p l else [])) (Int.toNat i_1) tRa.dflt).1 > (List.getD ((if errT [p] l = 0 then scoresT p l else [])) (Int.toNat i_1) tRa.dflt).2.1)) = true then (false = y0 ∧ True) else (inI (i_1 + (1 : Int)) ∧ Λ1 (i_1 + (1 : Int)))))) else (True ∧ (true = y0 ∧ True))
theorem cCheckScores_law (h : ∀ (p : (List Lin)) (l : (List Tst)), cCheckScores.A.wf (p, l, ()) → ∀ (Λ1 : Int → Prop), (∀ (i_1 : Int), cCheckScores_1 Λ1 p l true i_1 → Λ1 i_1) → cCheckScores_0 Λ1 p l true) : ConOK Go.Proofs.Try.prog 3 cCheckScores := by
  refine lawL (Γ := [(18, cKnown2), (16, cLongL), (17, cMany), (21, cSameRats), (19, cScores), (20, cScoresR)]) (Θ := Th) (n := 56) [([1, 1, 1, 1, 1, 0, 1, 0], ⟨[(5, true), (9, true)], []⟩)] ⟨cKnown2_ok, cLongL_ok, cMany_ok, cSameRats_ok, cScores_ok, cScoresR_ok, trivial⟩ (by kernel_rfl) th_ok mix_ok Go.Proofs.Try.func3 (by kernel_rfl) ?_
  intro x hw hp Λ hC
  have h0 := h x.1 x.2.1 hw (fun i_1 => Λ [1, 1, 1, 1, 1, 0, 1, 0] ([(5, .d true (.sl tRa) ((if errT [x.1] x.2.1 = 0 then scoresT x.1 x.2.1 else []))), (9, .d true .int i_1)], [])) (fun i_1 hb => hC [1, 1, 1, 1, 1, 0, 1, 0] ([(5, .d true (.sl tRa) ((if errT [x.1] x.2.1 = 0 then scoresT x.1 x.2.1 else []))), (9, .d true .int i_1)], []) (Eq.mpr (by kernel_rfl) hb))
  exact Eq.mpr (by kernel_rfl) h0
theorem cCheckScores_ok : ConOK Go.Proofs.Try.prog 3 cCheckScores := by
  refine cCheckScores_law ?_
  intro p l hw Λ1 h1
  unfold cCheckScores_0
  by_cases c1 : 100 < p.length
  · simp [c1]
  cases c2 : (decide (l.length > 50) || l.any (fun t' => decide (100 < t'.1.length)))
  · have key : ∀ S : List Rtl, (if errT [p] l = 0 then scoresT p l else []) = S → S.length ≤ 1000000 ∧ Λ1 0 := by
      intro S hS
      have hle : S.length ≤ 100 ∧ ∀ i, i < S.length → (S.getD i tRa.dflt).1 ≤ (S.getD i tRa.dflt).2.1 := by
        rw [← hS]
        split
        · exact ⟨by unfold scoresT; simp; omega, scoresT_le p l⟩
        · exact ⟨by simp, fun i hi => by simp at hi⟩
      refine ⟨by omega, ?_⟩
      refine upto (n := S.length) (Q := fun i => Λ1 (i : Int)) ?_ ?_ 0 (Nat.zero_le _)
      · apply h1; unfold cCheckScores_1
        rw [hS, if_neg (by simp)]
        simp
      · intro i hi ih
        apply h1; unfold cCheckScores_1
        rw [hS, if_pos (by simpa using hi), Int.toNat_natCast]
        have := hle.2 i hi
        refine ⟨idx_nat hi, idx_nat hi, ?_⟩
        rw [if_neg (by show ¬ decide _ = true; rw [decide_eq_true_eq]; omega)]
        exact ⟨inI_succ hi (by omega), ih⟩
    obtain ⟨k1, k2⟩ := key _ rfl
    simp [c1, c2, k1, k2]
  · simp [c1, c2]
end Go.Tk
/- Plain facts: ranks (layer 2). No program in sight. -/
set_option linter.unusedSimpArgs false
set_option linter.unusedVariables false
set_option linter.unnecessarySimpa false
namespace Go.Tk
open Go Go.RowKit

/-! ### Insertion sort by exchanges -/
def swapB (l : List Int) (j : Nat) : List Int := (l.set j (l.getD (j - 1) 0)).set (j - 1) (l.getD j 0)
def bub (lt : Int → Int → Bool) : Nat → List Int → List Int
  | 0, l => l
  | j + 1, l => if lt (l.getD (j + 1) 0) (l.getD j 0) = true then bub lt j (swapB l (j + 1)) else l
def insT (lt : Int → Int → Bool) (l : List Int) : Nat → List Int
  | 0 => l
  | i + 1 => bub lt (i + 1) (insT lt l i)

theorem set_at (p : List Int) (x y : Int) (r : List Int) : (p ++ x :: r).set p.length y = p ++ y :: r := by simp
theorem getD_at (p : List Int) (x : Int) (r : List Int) : (p ++ x :: r).getD p.length 0 = x := by simp [List.getD_eq_getElem?_getD]
theorem swapB_at (p : List Int) (x y : Int) (r : List Int) : swapB (p ++ y :: x :: r) (p.length + 1) = p ++ x :: y :: r := by
  unfold swapB
  have e1 : (p ++ y :: x :: r).getD (p.length + 1) 0 = x := by
    have := getD_at (p ++ [y]) x r
    simpa using this
  have e2 : (p ++ y :: x :: r).getD (p.length + 1 - 1) 0 = y := by rw [Nat.add_sub_cancel, getD_at]
  rw [e1, e2, Nat.add_sub_cancel]
  have e3 : (p ++ y :: x :: r).set (p.length + 1) y = p ++ y :: y :: r := by
    have := set_at (p ++ [y]) x y r
    simpa using this
  rw [e3, set_at]
theorem bub_len (lt : Int → Int → Bool) : ∀ j l, (bub lt j l).length = l.length
  | 0, _ => rfl
  | j + 1, l => by
    unfold bub
    split
    · rw [bub_len lt j]; simp [swapB]
    · rfl
theorem insT_len (lt : Int → Int → Bool) (l : List Int) : ∀ i, (insT lt l i).length = l.length
  | 0 => rfl
  | i + 1 => by unfold insT; rw [bub_len, insT_len lt l i]
theorem swapB_mem {l : List Int} {j : Nat} (h : j < l.length) {x : Int} (hx : x ∈ swapB l j) : x ∈ l := by
  unfold swapB at hx
  rcases List.mem_or_eq_of_mem_set hx with g | g
  · rcases List.mem_or_eq_of_mem_set g with g | g
    · exact g
    · rw [g]; exact mem_getD (by omega)
  · rw [g]; exact mem_getD h
theorem bub_mem (lt : Int → Int → Bool) : ∀ j l, j < l.length → ∀ x ∈ bub lt j l, x ∈ l
  | 0, _, _, _, h => h
  | j + 1, l, hj, x, h => by
    unfold bub at h
    split at h
    · exact swapB_mem hj (bub_mem lt j _ (by simp [swapB]; omega) x h)
    · exact h
theorem insT_mem (lt : Int → Int → Bool) (l : List Int) : ∀ i, i < l.length → ∀ x ∈ insT lt l i, x ∈ l
  | 0, _, _, h => h
  | i + 1, hi, x, h => insT_mem lt l i (by omega) x (bub_mem lt (i + 1) _ (by rw [insT_len]; exact hi) x h)

/-- One element into a sorted list, from behind. -/
theorem bub_ins {lt : Int → Int → Bool} {R : Int → Int → Prop} (tr : ∀ a b c, R a b → R b c → R a c) : ∀ (k : Nat) (p : List Int) (x : Int) (r : List Int), p.length = k → p.Pairwise R → (∀ y ∈ p, if lt x y = true then R x y else R y x) → ∃ s, s.Perm (x :: p) ∧ s.Pairwise R ∧ bub lt k (p ++ x :: r) = s ++ r
  | 0, p, x, r, hl, hp, h => by
    have : p = [] := List.length_eq_zero_iff.1 hl
    subst this
    exact ⟨[x], List.Perm.refl _, by simp, rfl⟩
  | k + 1, p, x, r, hl, hp, h => by
    obtain ⟨q, y, rfl⟩ : ∃ q y, p = q ++ [y] := ⟨p.dropLast, p.getLast (fun e => by rw [e] at hl; simp at hl), (List.dropLast_concat_getLast _).symm⟩
    have hq : q.length = k := by simpa using hl
    rw [List.pairwise_append] at hp
    obtain ⟨hp1, _, hp2⟩ := hp
    have e1 : ((q ++ [y]) ++ x :: r).getD (k + 1) 0 = x := by rw [← hl, getD_at]
    have e2 : ((q ++ [y]) ++ x :: r).getD k 0 = y := by rw [← hq, List.append_assoc]; exact getD_at q y _
    have hy := h y (by simp)
    unfold bub
    rw [e1, e2]
    by_cases g : lt x y = true
    · rw [if_pos g] at hy ⊢
      have e3 : swapB ((q ++ [y]) ++ x :: r) (k + 1) = q ++ x :: y :: r := by rw [← hq, List.append_assoc]; exact swapB_at q x y r
      rw [e3]
      obtain ⟨s, s1, s2, s3⟩ := bub_ins tr k q x (y :: r) hq hp1 fun z hz => h z (by simp [hz])
      refine ⟨s ++ [y], ?_, ?_, by rw [s3]; simp⟩
      · exact (s1.append_right [y])
      · rw [List.pairwise_append]
        refine ⟨s2, by simp, fun a ha b hb => ?_⟩
        rw [List.mem_singleton] at hb
        subst hb
        rcases List.mem_cons.1 (s1.mem_iff.1 ha) with e | e
        · rw [e]; exact hy
        · exact hp2 a e b (by simp)
    · rw [if_neg g] at hy ⊢
      refine ⟨q ++ [y] ++ [x], List.perm_append_comm, ?_, by simp⟩
      rw [List.pairwise_append]
      refine ⟨by rw [List.pairwise_append]; exact ⟨hp1, by simp, hp2⟩, by simp, fun a ha b hb => ?_⟩
      rw [List.mem_singleton] at hb
      subst hb
      rcases List.mem_append.1 ha with e | e
      · exact tr _ _ _ (hp2 a e y (by simp)) hy
      · rw [List.mem_singleton] at e; rw [e]; exact hy
/-- The whole sort: stable with respect to R. -/
theorem insT_sorted {lt : Int → Int → Bool} {R : Int → Int → Prop} (tr : ∀ a b c, R a b → R b c → R a c) (l : List Int) (h : l.Pairwise fun y x => if lt x y = true then R x y else R y x) : ∀ i, i < l.length → ∃ s, s.Perm (l.take (i + 1)) ∧ s.Pairwise R ∧ insT lt l i = s ++ l.drop (i + 1)
  | 0, hi => by
    refine ⟨l.take 1, List.Perm.refl _, ?_, by unfold insT; rw [List.take_append_drop]⟩
    cases l with
    | nil => simp at hi
    | cons a l => simp
  | i + 1, hi => by
    obtain ⟨s, s1, s2, s3⟩ := insT_sorted tr l h i (by omega)
    have sl : s.length = i + 1 := by rw [s1.length_eq, List.length_take]; omega
    have hd : l.drop (i + 1) = l.getD (i + 1) 0 :: l.drop (i + 2) := by
      rw [List.drop_eq_getElem_cons hi]; simp [List.getD_eq_getElem?_getD, hi]
    have hy : ∀ y ∈ s, if lt (l.getD (i + 1) 0) y = true then R (l.getD (i + 1) 0) y else R y (l.getD (i + 1) 0) := by
      intro y hy
      have hy := s1.mem_iff.1 hy
      have := h
      rw [← List.take_append_drop (i + 1) l, List.pairwise_append, hd] at this
      exact this.2.2 y hy _ (by simp)
    obtain ⟨s', t1, t2, t3⟩ := bub_ins tr (i + 1) s (l.getD (i + 1) 0) (l.drop (i + 2)) sl s2 hy
    refine ⟨s', ?_, t2, by unfold insT; rw [s3, hd, t3]⟩
    refine t1.trans ?_
    rw [take_snoc 0 hi]
    exact (List.Perm.cons _ s1).trans (List.perm_append_comm (l₁ := [_]))

/-! ### Fractions -/
def ratB (q : Rtl) : Prop := 0 ≤ q.1 ∧ q.1 ≤ 1000000 ∧ 0 < q.2.1 ∧ q.2.1 ≤ 1000000
def leQ (q r : Rtl) : Prop := q.1 * r.2.1 ≤ r.1 * q.2.1
def okQ (q : Rtl) : Prop := ∃ a b : Nat, q = ((a : Int), (b : Int), ()) ∧ 0 < b ∧ Nat.gcd a b = 1 ∧ a ≤ 1000000 ∧ b ≤ 1000000
theorem okQ.rat {q : Rtl} (h : okQ q) : ratB q := by
  obtain ⟨a, b, rfl, h1, h2, h3, h4⟩ := h
  refine ⟨?_, ?_, ?_, ?_⟩ <;> simp <;> omega
theorem leQ_total (q r : Rtl) : leQ q r ∨ leQ r q := by unfold leQ; omega
theorem not_leQ {q r : Rtl} : ¬ leQ q r ↔ r.1 * q.2.1 < q.1 * r.2.1 := by unfold leQ; omega
theorem leQ_trans {q r s : Rtl} (hq : 0 < q.2.1) (hr : 0 < r.2.1) (hs : 0 < s.2.1) (h1 : leQ q r) (h2 : leQ r s) : leQ q s := by
  unfold leQ at *
  have e1 := Int.mul_le_mul_of_nonneg_right h1 (Int.le_of_lt hs)
  have e2 := Int.mul_le_mul_of_nonneg_right h2 (Int.le_of_lt hq)
  refine Int.le_of_mul_le_mul_right ?_ hr
  calc q.1 * s.2.1 * r.2.1 = q.1 * r.2.1 * s.2.1 := by ac_rfl
    _ ≤ r.1 * q.2.1 * s.2.1 := e1
    _ = r.1 * s.2.1 * q.2.1 := by ac_rfl
    _ ≤ s.1 * r.2.1 * q.2.1 := e2
    _ = s.1 * q.2.1 * r.2.1 := by ac_rfl
theorem okQ_eq {q r : Rtl} (hq : okQ q) (hr : okQ r) (h1 : leQ q r) (h2 : leQ r q) : q = r := by
  obtain ⟨a, b, rfl, b0, b1, _, _⟩ := hq
  obtain ⟨c, d, rfl, d0, d1, _, _⟩ := hr
  unfold leQ at h1 h2
  have e : a * d = c * b := by
    have : (a : Int) * d = c * b := Int.le_antisymm h1 h2
    exact_mod_cast this
  have hb : b ∣ d := (Nat.Coprime.symm b1).dvd_of_dvd_mul_left (by rw [e]; exact Nat.dvd_mul_left _ _)
  have hd : d ∣ b := (Nat.Coprime.symm d1).dvd_of_dvd_mul_left (by rw [← e]; exact Nat.dvd_mul_left _ _)
  have hbd : b = d := Nat.dvd_antisymm hb hd
  subst hbd
  rw [Nat.eq_of_mul_eq_mul_right b0 e]
theorem ratioQ_ok {n d : Int} (h0 : 0 ≤ n) (h1 : 0 < d) (h2 : n ≤ 1000000) (h3 : d ≤ 1000000) : okQ (ratioQ n d) := by
  obtain ⟨N, rfl⟩ := Int.eq_ofNat_of_zero_le h0
  obtain ⟨D, rfl⟩ := Int.eq_ofNat_of_zero_le (Int.le_of_lt h1)
  have hD : 0 < D := by omega
  have g0 : 0 < Nat.gcd N D := Nat.gcd_pos_of_pos_right _ hD
  have a1 := Nat.div_le_self N (Nat.gcd N D)
  have a2 := Nat.div_le_self D (Nat.gcd N D)
  refine ⟨N / Nat.gcd N D, D / Nat.gcd N D, ?_, Nat.div_pos (Nat.le_of_dvd hD (Nat.gcd_dvd_right _ _)) g0, Nat.coprime_div_gcd_div_gcd g0, by omega, by omega⟩
  unfold ratioQ
  rw [Int.gcd_natCast_natCast]
  rfl
theorem scoreAt_ok {p : List Lin} {l : List Tst} (h : l.length ≤ 8) (k : Nat) : okQ (scoreAt p l k) := by
  unfold scoreAt
  split
  · exact ⟨0, 1, rfl, by omega, rfl, by omega, by omega⟩
  · next hF =>
    have b := bad_good_bd p l (failL p l) k l.length
    have hFl : 0 < (failL p l).length := List.length_pos_iff.2 hF
    have hFle : (failL p l).length ≤ l.length := whereL_len _ _
    exact ratioQ_ok b.1 (by omega) (by omega) (by omega)
theorem scores_ok {p : List Lin} {l : List Tst} (h : l.length ≤ 8) : ∀ q ∈ scoresT p l, okQ q := by
  intro q hq
  obtain ⟨k, _, rfl⟩ := List.mem_map.1 hq
  exact scoreAt_ok h k
theorem scores_len (p : List Lin) (l : List Tst) : (scoresT p l).length = p.length := by unfold scoresT; simp

/-! ### The greatest ones -/
def maxTo (g : Rtl → Rtl → Bool) (S : List Rtl) : Nat → Rtl
  | 0 => S.getD 0 tRa.dflt
  | n + 1 => if g (S.getD n tRa.dflt) (maxTo g S n) = true then S.getD n tRa.dflt else maxTo g S n
def gtQ (q r : Rtl) : Bool := decide (q.1 * r.2.1 - r.1 * q.2.1 > 0)
theorem gtQ_iff {q r : Rtl} : gtQ q r = true ↔ ¬ leQ q r := by unfold gtQ leQ; rw [decide_eq_true_eq]; omega
theorem maxTo_mem (g : Rtl → Rtl → Bool) {S : List Rtl} (h : 0 < S.length) : ∀ n, n ≤ S.length → maxTo g S n ∈ S
  | 0, _ => mem_getD h
  | n + 1, hn => by
    unfold maxTo
    split
    · exact mem_getD (by omega)
    · exact maxTo_mem g h n (by omega)
theorem maxTo_max {S : List Rtl} (hS : ∀ q ∈ S, okQ q) (h : 0 < S.length) : ∀ n, n ≤ S.length → ∀ i, i < n → leQ (S.getD i tRa.dflt) (maxTo gtQ S n)
  | 0, _, i, hi => by omega
  | n + 1, hn, i, hi => by
    have hm := maxTo_mem gtQ h n (by omega)
    have hi' : S.getD i tRa.dflt ∈ S := mem_getD (by omega)
    have hn' : S.getD n tRa.dflt ∈ S := mem_getD (by omega)
    unfold maxTo
    by_cases g : gtQ (S.getD n tRa.dflt) (maxTo gtQ S n) = true
    · rw [if_pos g]
      have g' := gtQ_iff.1 g
      by_cases e : i = n
      · subst e; unfold leQ; omega
      · exact leQ_trans (hS _ hi').rat.2.2.1 (hS _ hm).rat.2.2.1 (hS _ hn').rat.2.2.1 (maxTo_max hS h n (by omega) i (by omega)) ((leQ_total _ _).resolve_left g')
    · rw [if_neg g]
      by_cases e : i = n
      · subst e
        exact Classical.not_not.1 fun q => g (gtQ_iff.2 q)
      · exact maxTo_max hS h n (by omega) i (by omega)
def topS (S : List Rtl) (i : Int) : Bool := S.all fun q => !decide ((S.getD i.toNat tRa.dflt).1 * q.2.1 < q.1 * (S.getD i.toNat tRa.dflt).2.1)
theorem topS_iff {S : List Rtl} {i : Int} : topS S i = true ↔ ∀ q ∈ S, leQ q (S.getD i.toNat tRa.dflt) := by
  unfold topS leQ
  rw [List.all_eq_true]
  constructor
  · intro h q hq
    have := h q hq
    rw [Bool.not_eq_true', decide_eq_false_iff_not] at this; omega
  · intro h q hq
    have := h q hq
    rw [Bool.not_eq_true', decide_eq_false_iff_not]; omega
def numI : Nat → List Int
  | 0 => []
  | n + 1 => numI n ++ [(n : Int)]
theorem numI_len : ∀ n, (numI n).length = n
  | 0 => rfl
  | n + 1 => by unfold numI; rw [List.length_append, numI_len n]; rfl
theorem numI_mem {x : Int} : ∀ {n : Nat}, x ∈ numI n ↔ 0 ≤ x ∧ x < n
  | 0 => ⟨fun h => by simp [numI] at h, fun h => by omega⟩
  | n + 1 => by unfold numI; rw [List.mem_append, numI_mem, List.mem_singleton]; omega
theorem numI_lt : ∀ n, (numI n).Pairwise fun a b => a < b
  | 0 => List.Pairwise.nil
  | n + 1 => by
    unfold numI
    rw [List.pairwise_append]
    refine ⟨numI_lt n, by simp, fun a ha b hb => ?_⟩
    rw [List.mem_singleton] at hb
    have := (numI_mem.1 ha).2
    omega
theorem numI_nodup (n : Nat) : (numI n).Nodup := (numI_lt n).imp fun h => Int.ne_of_lt h
def suspL (S : List Rtl) (n : Nat) : List Int := (numI n).filter (topS S)
theorem suspL_next (S : List Rtl) (n : Nat) : suspL S (n + 1) = suspL S n ++ if topS S n = true then [(n : Int)] else [] := by
  unfold suspL
  rw [show numI (n + 1) = numI n ++ [(n : Int)] from rfl, List.filter_append]
  congr 1
  by_cases h : topS S n = true
  · rw [if_pos h]; simp [h]
  · rw [if_neg h]; simp [h]
theorem suspL_len (S : List Rtl) (n : Nat) : (suspL S n).length ≤ n := by
  have := List.length_filter_le (topS S) (numI n)
  rw [numI_len] at this
  exact this
def suspT (p : List Lin) (l : List Tst) : List Int := if failL p l = [] then [] else suspL (scoresT p l) p.length
theorem eqQ (x y : Rtl) : T.eqB tRa x y = true ↔ x = y := by
  obtain ⟨a, b, ⟨⟩⟩ := x
  obtain ⟨c, d, ⟨⟩⟩ := y
  show ((a == c) && ((b == d) && true)) = true ↔ _
  simp
theorem top_most {S : List Rtl} (hS : ∀ q ∈ S, okQ q) {i : Nat} (hi : i < S.length) : T.eqB tRa (S.getD i tRa.dflt) (maxTo gtQ S S.length) = topS S i := by
  have h0 : 0 < S.length := by omega
  have hm := maxTo_mem gtQ h0 S.length (Nat.le_refl _)
  have hx : S.getD i tRa.dflt ∈ S := mem_getD hi
  rw [Bool.eq_iff_iff, topS_iff, eqQ, Int.toNat_natCast]
  constructor
  · intro e q hq
    rw [e]
    obtain ⟨j, hj, rfl⟩ := List.getElem_of_mem hq
    have := maxTo_max hS h0 S.length (Nat.le_refl _) j hj
    rw [List.getD_eq_getElem?_getD, List.getElem?_eq_getElem hj] at this
    exact this
  · intro h
    exact okQ_eq (hS _ hx) (hS _ hm) (maxTo_max hS h0 S.length (Nat.le_refl _) i hi) (h _ hm)

/-! ### The order -/
def rkR (S : List Rtl) (a b : Int) : Prop := (0 < (S.getD a.toNat tRa.dflt).2.1 ∧ 0 < (S.getD b.toNat tRa.dflt).2.1) ∧ leQ (S.getD b.toNat tRa.dflt) (S.getD a.toNat tRa.dflt) ∧ (leQ (S.getD a.toNat tRa.dflt) (S.getD b.toNat tRa.dflt) → a < b)
theorem rkR_trans (S : List Rtl) (a b c : Int) (h : rkR S a b) (k : rkR S b c) : rkR S a c := by
  obtain ⟨⟨ha, hb⟩, h1, h2⟩ := h
  obtain ⟨⟨_, hc⟩, k1, k2⟩ := k
  refine ⟨⟨ha, hc⟩, leQ_trans hc hb ha k1 h1, fun g => ?_⟩
  have e1 := h2 (leQ_trans ha hc hb g k1)
  have e2 := k2 (leQ_trans hb ha hc h1 g)
  omega
theorem rkR_anti (S : List Rtl) (a b : Int) (h : rkR S a b) (k : rkR S b a) : a = b := by
  have := h.2.2 k.2.1
  have := k.2.2 h.2.1
  omega
def ltS (S : List Rtl) (a b : Int) : Bool := decide ((S.getD b.toNat tRa.dflt).1 * (S.getD a.toNat tRa.dflt).2.1 - (S.getD a.toNat tRa.dflt).1 * (S.getD b.toNat tRa.dflt).2.1 < 0)
theorem ltS_iff {S : List Rtl} {a b : Int} : ltS S a b = true ↔ ¬ leQ (S.getD a.toNat tRa.dflt) (S.getD b.toNat tRa.dflt) := by unfold ltS leQ; rw [decide_eq_true_eq]; omega
def rankL (S : List Rtl) : List Int := insT (ltS S) (numI S.length) (S.length - 1)
def rankT (p : List Lin) (l : List Tst) : List Int := rankL (scoresT p l)
theorem den_pos {S : List Rtl} (hS : ∀ q ∈ S, okQ q) {a : Int} (ha : a ∈ numI S.length) : 0 < (S.getD a.toNat tRa.dflt).2.1 := by
  have := numI_mem.1 ha
  exact (hS _ (mem_getD (by omega))).rat.2.2.1
theorem rank_sorted {S : List Rtl} (hS : ∀ q ∈ S, okQ q) : (rankL S).Perm (numI S.length) ∧ (rankL S).Pairwise (rkR S) := by
  by_cases h0 : S.length = 0
  · unfold rankL
    rw [h0]
    exact ⟨List.Perm.refl _, List.Pairwise.nil⟩
  have hp : (numI S.length).Pairwise fun y x => if ltS S x y = true then rkR S x y else rkR S y x := by
    refine (numI_lt S.length).imp_of_mem fun {y x} hy hx hlt => ?_
    split
    · next g =>
      have g' := ltS_iff.1 g
      exact ⟨⟨den_pos hS hx, den_pos hS hy⟩, (leQ_total _ _).resolve_left g', fun q => absurd q g'⟩
    · next g =>
      have g' : leQ _ _ := Classical.not_not.1 fun q => g (ltS_iff.2 q)
      exact ⟨⟨den_pos hS hy, den_pos hS hx⟩, g', fun _ => hlt⟩
  obtain ⟨s, s1, s2, s3⟩ := insT_sorted (rkR_trans S) (numI S.length) hp (S.length - 1) (by rw [numI_len]; omega)
  rw [List.take_of_length_le (by rw [numI_len]; omega)] at s1
  rw [List.drop_eq_nil_of_le (by rw [numI_len]; omega), List.append_nil] at s3
  unfold rankL
  rw [s3]
  exact ⟨s1, s2⟩
theorem rank_unique {S : List Rtl} (hS : ∀ q ∈ S, okQ q) {o : List Int} (hn : o.Nodup) (hm : ∀ x, x ∈ o ↔ x ∈ numI S.length) (hp : o.Pairwise (rkR S)) : o = rankL S := by
  obtain ⟨r1, r2⟩ := rank_sorted hS
  exact List.Perm.eq_of_pairwise (le := rkR S) (fun a b _ _ h k => rkR_anti S a b h k) hp r2 (((List.perm_ext_iff_of_nodup hn (numI_nodup _)).2 hm).trans r1.symm)

/-! ### One after another, the best that is left -/
def bestTo (S : List Rtl) (out : List Int) : Nat → Int
  | 0 => -1
  | i + 1 => if (i : Int) ∉ out ∧ (bestTo S out i < 0 ∨ (S.getD (bestTo S out i).toNat tRa.dflt).1 * (S.getD i tRa.dflt).2.1 < (S.getD i tRa.dflt).1 * (S.getD (bestTo S out i).toNat tRa.dflt).2.1) then (i : Int) else bestTo S out i
theorem bestTo_ok {S : List Rtl} (hS : ∀ q ∈ S, okQ q) (out : List Int) : ∀ i, i ≤ S.length → (bestTo S out i = -1 ∧ ∀ j : Nat, j < i → (j : Int) ∈ out) ∨ (0 ≤ bestTo S out i ∧ bestTo S out i < i ∧ bestTo S out i ∉ out ∧ ∀ j : Nat, j < i → (j : Int) ∉ out → (j : Int) ≠ bestTo S out i → rkR S (bestTo S out i) j)
  | 0, _ => .inl ⟨rfl, fun j hj => by omega⟩
  | i + 1, hi => by
    have di : 0 < (S.getD i tRa.dflt).2.1 := (hS _ (mem_getD (by omega))).rat.2.2.1
    have dn : ∀ j : Nat, j < i → 0 < (S.getD ((j : Int)).toNat tRa.dflt).2.1 := fun j hj => (hS _ (mem_getD (by rw [Int.toNat_natCast]; omega))).rat.2.2.1
    unfold bestTo
    split
    · next g =>
      right
      refine ⟨by omega, by omega, g.1, fun j hj hjo hne => ?_⟩
      have hji : j < i := by omega
      rcases bestTo_ok hS out i (by omega) with ⟨e1, e2⟩ | ⟨e1, e2, e3, e4⟩
      · exact absurd (e2 j hji) hjo
      · have hl : ¬ leQ (S.getD i tRa.dflt) (S.getD (bestTo S out i).toNat tRa.dflt) := by
          rcases g.2 with g | g
          · omega
          · exact not_leQ.2 g
        have dB : 0 < (S.getD (bestTo S out i).toNat tRa.dflt).2.1 := (hS _ (mem_getD (by omega))).rat.2.2.1
        have hj' := dn j hji
        have hjb : leQ (S.getD ((j : Int)).toNat tRa.dflt) (S.getD (bestTo S out i).toNat tRa.dflt) := by
          by_cases e : (j : Int) = bestTo S out i
          · rw [e]; exact Int.le_refl _
          · exact (e4 j hji hjo e).2.1
        refine ⟨⟨by rw [Int.toNat_natCast]; exact di, hj'⟩, ?_, fun q => absurd ?_ hl⟩
        · rw [Int.toNat_natCast (n := i)]
          exact leQ_trans hj' dB di hjb ((leQ_total _ _).resolve_left hl)
        · rw [Int.toNat_natCast (n := i)] at q
          exact leQ_trans di hj' dB q hjb
    · next g =>
      rcases bestTo_ok hS out i (by omega) with ⟨e1, e2⟩ | ⟨e1, e2, e3, e4⟩
      · left
        refine ⟨e1, fun j hj => ?_⟩
        by_cases e : j = i
        · subst e
          exact Classical.not_not.1 fun q => g ⟨q, .inl (by omega)⟩
        · exact e2 j (by omega)
      · right
        refine ⟨e1, by omega, e3, fun j hj hjo hne => ?_⟩
        by_cases e : j = i
        · subst e
          have dB : 0 < (S.getD (bestTo S out j).toNat tRa.dflt).2.1 := (hS _ (mem_getD (by omega))).rat.2.2.1
          have hl : leQ (S.getD j tRa.dflt) (S.getD (bestTo S out j).toNat tRa.dflt) := Classical.not_not.1 fun q => g ⟨hjo, .inr (not_leQ.1 q)⟩
          exact ⟨⟨dB, by rw [Int.toNat_natCast]; exact di⟩, by rw [Int.toNat_natCast]; exact hl, fun _ => e2⟩
        · exact e4 j (by omega) hjo hne
def selT (S : List Rtl) : Nat → List Int
  | 0 => []
  | k + 1 => selT S k ++ [bestTo S (selT S k) S.length]
theorem nodup_sub_len : ∀ (l m : List Int), l.Nodup → (∀ x ∈ l, x ∈ m) → l.length ≤ m.length
  | [], _, _, _ => by simp
  | a :: l, m, hn, hs => by
    obtain ⟨h1, h2⟩ := List.nodup_cons.1 hn
    have ha := hs a (by simp)
    have := nodup_sub_len l (m.erase a) h2 fun x hx => (List.mem_erase_of_ne (show x ≠ a from fun e => h1 (by rw [← e]; exact hx))).2 (hs x (by simp [hx]))
    rw [List.length_erase_of_mem ha] at this
    have := List.length_pos_of_mem ha
    simp only [List.length_cons]; omega
theorem selT_len (S : List Rtl) : ∀ k, (selT S k).length = k
  | 0 => rfl
  | k + 1 => by unfold selT; rw [List.length_append, selT_len S k]; rfl
theorem selT_ok {S : List Rtl} (hS : ∀ q ∈ S, okQ q) : ∀ k, k ≤ S.length → (selT S k).Nodup ∧ (∀ x ∈ selT S k, x ∈ numI S.length) ∧ (selT S k).Pairwise (rkR S) ∧ ∀ a ∈ selT S k, ∀ b : Nat, b < S.length → (b : Int) ∉ selT S k → rkR S a b
  | 0, _ => ⟨List.nodup_nil, fun x hx => by simp [selT] at hx, List.Pairwise.nil, fun a ha => by simp [selT] at ha⟩
  | k + 1, hk => by
    obtain ⟨h1, h2, h3, h4⟩ := selT_ok hS k (by omega)
    rcases bestTo_ok hS (selT S k) S.length (Nat.le_refl _) with ⟨_, e2⟩ | ⟨e1, e2, e3, e4⟩
    · have := nodup_sub_len (numI S.length) (selT S k) (numI_nodup _) fun x hx => by
        have := numI_mem.1 hx
        have := e2 x.toNat (by omega)
        rwa [Int.toNat_of_nonneg (by omega)] at this
      rw [numI_len, selT_len] at this
      omega
    · have hb : ((bestTo S (selT S k) S.length).toNat : Int) = bestTo S (selT S k) S.length := Int.toNat_of_nonneg e1
      unfold selT
      refine ⟨?_, ?_, ?_, ?_⟩
      · rw [List.nodup_append]
        exact ⟨h1, by simp, fun a ha b hb e => by rw [List.mem_singleton] at hb; subst hb; subst e; exact e3 ha⟩
      · intro x hx
        rcases List.mem_append.1 hx with g | g
        · exact h2 x g
        · rw [List.mem_singleton] at g; rw [g]; exact numI_mem.2 ⟨e1, e2⟩
      · rw [List.pairwise_append]
        refine ⟨h3, by simp, fun a ha b hb' => ?_⟩
        rw [List.mem_singleton] at hb'
        subst hb'
        have := h4 a ha _ (show (bestTo S (selT S k) S.length).toNat < S.length by omega) (by rw [hb]; exact e3)
        rwa [hb] at this
      · intro a ha b hb' hbo
        rw [List.mem_append, List.mem_singleton, not_or] at hbo
        rcases List.mem_append.1 ha with g | g
        · exact h4 a g b hb' hbo.1
        · rw [List.mem_singleton] at g
          rw [g]
          exact e4 b hb' hbo.1 hbo.2
theorem selT_rank {S : List Rtl} (hS : ∀ q ∈ S, okQ q) : selT S S.length = rankL S := by
  obtain ⟨h1, h2, h3, _⟩ := selT_ok hS S.length (Nat.le_refl _)
  refine rank_unique hS h1 (fun x => ⟨h2 x, fun hx => ?_⟩) h3
  refine Classical.not_not.1 fun g => ?_
  have := nodup_sub_len (x :: selT S S.length) (numI S.length) (List.nodup_cons.2 ⟨g, h1⟩) (fun y hy => by
    rcases List.mem_cons.1 hy with e | e
    · rw [e]; exact hx
    · exact h2 y e)
  rw [numI_len, List.length_cons, selT_len] at this
  omega
theorem split_top {R : Int → Int → Prop} {t : Int → Bool} (h : ∀ a b, R a b → t b = true → t a = true) : ∀ l : List Int, l.Pairwise R → l = l.filter t ++ l.filter (fun x => !t x)
  | [], _ => rfl
  | a :: l, hp => by
    rw [List.pairwise_cons] at hp
    have ih := split_top h l hp.2
    by_cases g : t a = true
    · rw [List.filter_cons_of_pos g, List.filter_cons_of_neg (by simp [g]), List.cons_append, ← ih]
    · have hn : l.filter t = [] := by
        rw [List.filter_eq_nil_iff]
        exact fun b hb q => g (h a b (hp.1 b hb) q)
      rw [List.filter_cons_of_neg g, List.filter_cons_of_pos (by simp [g]), hn, List.nil_append]
      rw [hn, List.nil_append] at ih
      rw [← ih]
theorem susp_rank {S : List Rtl} (hS : ∀ q ∈ S, okQ q) : (rankL S).take (suspL S S.length).length = suspL S S.length := by
  obtain ⟨r1, r2⟩ := rank_sorted hS
  have ht : ∀ a b, rkR S a b → topS S b = true → topS S a = true := by
    intro a b h g
    rw [topS_iff] at g ⊢
    exact fun q hq => leQ_trans (hS q hq).rat.2.2.1 h.1.2 h.1.1 (g q hq) h.2.1
  have e : (rankL S).filter (topS S) = suspL S S.length := by
    refine List.Perm.eq_of_pairwise (le := rkR S) (fun a b _ _ h k => rkR_anti S a b h k) (r2.filter _) ?_ (r1.filter _)
    unfold suspL
    refine ((numI_lt S.length).filter _).imp_of_mem fun {x y} hx hy hlt => ?_
    rw [List.mem_filter] at hx hy
    have my := numI_mem.1 hy.1
    exact ⟨⟨den_pos hS hx.1, den_pos hS hy.1⟩, topS_iff.1 hx.2 _ (mem_getD (by omega)), fun _ => hlt⟩
  have := split_top ht (rankL S) r2
  rw [e] at this
  rw [this]
  simp
end Go.Tk
/- Contracts: ranks (layer 2). -/
set_option linter.unusedSimpArgs false
set_option linter.unusedVariables false
set_option linter.unnecessarySimpa false
namespace Go.Tk
open Go Go.RowKit

theorem ratB_mul {q r : Rtl} (hq : ratB q) (hr : ratB r) : 0 ≤ q.1 * r.2.1 ∧ q.1 * r.2.1 ≤ 1000000000000 := by
  obtain ⟨a1, a2, a3, a4⟩ := hq
  obtain ⟨b1, b2, b3, b4⟩ := hr
  refine ⟨Int.mul_nonneg a1 (by omega), ?_⟩
  have := Int.mul_le_mul a2 b4 (by omega) (by omega)
  omega

abbrev cCmpQ : Con := { A := (.cons tRa (.cons tRa .nil)), R := (.cons .int .nil), pre := fun x => ratB x.1 ∧ ratB x.2.1, F := fun x => (x.1.1 * x.2.1.2.1 - x.2.1.1 * x.1.2.1, ()) }
def cCmpQ_0  (a : Rtl) (b : Rtl) (y0 : Int) : Prop :=
  inI (a.1 * b.2.1) ∧ (inI (b.1 * a.2.1) ∧ (inI ((a.1 * b.2.1) - (b.1 * a.2.1)) ∧ (((a.1 * b.2.1) - (b.1 * a.2.1)) = y0 ∧ True)))
theorem cCmpQ_law (h : ∀ (a : Rtl) (b : Rtl), cCmpQ.A.wf (a, b, ()) → (ratB a ∧ ratB b) → cCmpQ_0  a b (a.1 * b.2.1 - b.1 * a.2.1)) : ConOK Go.Proofs.Try.prog 102 cCmpQ := by
  refine lawL (Γ := []) (Θ := Th) (n := 16) [] trivial (by kernel_rfl) th_ok mix_ok Go.Proofs.Try.func102 (by kernel_rfl) ?_
  intro x hw hp Λ hC
  have h0 := h x.1 x.2.1 hw hp  
  exact Eq.mpr (by kernel_rfl) h0
theorem cCmpQ_ok : ConOK Go.Proofs.Try.prog 102 cCmpQ := by
  refine cCmpQ_law ?_
  intro a b hw hp
  unfold cCmpQ_0
  have m1 := ratB_mul hp.1 hp.2
  have m2 := ratB_mul hp.2 hp.1
  exact ⟨by unfold inI; omega, by unfold inI; omega, by unfold inI; omega, rfl, trivial⟩
abbrev cMaxQ : Con := { A := (.cons (.sl tRa) (.cons (.fn (.cons tRa (.cons tRa .nil)) (.cons .int .nil)) .nil)), R := (.cons tRa .nil), pre := fun x => 0 < x.1.length ∧ x.1.length ≤ 1000 ∧ ∀ q', q' ∈ x.1 → ∀ r', r' ∈ x.1 → x.2.1.1 (q', r', ()), F := fun x => (maxTo (fun q' r' => decide ((x.2.1.2 (q', r', ())).1 > 0)) x.1 x.1.length, ()) }
def cMaxQ_0 (Λ1 : Prop) (Λ2 : Int → Rtl → Prop) (x : (List Rtl)) (cmp : (T.fn (.cons tRa (.cons tRa .nil)) (.cons .int .nil)).den) (y0 : Rtl) : Prop :=
  if (decide ((List.length x : Int) < (1 : Int))) = true then False else Λ1
def cMaxQ_1 (Λ1 : Prop) (Λ2 : Int → Rtl → Prop) (x : (List Rtl)) (cmp : (T.fn (.cons tRa (.cons tRa .nil)) (.cons .int .nil)).den) (y0 : Rtl)   : Prop :=
  idx (0 : Int) (List.length x : Int) ∧ Λ2 (1 : Int) (List.getD x (Int.toNat (0 : Int)) tRa.dflt)
def cMaxQ_2 (Λ1 : Prop) (Λ2 : Int → Rtl → Prop) (x : (List Rtl)) (cmp : (T.fn (.cons tRa (.cons tRa .nil)) (.cons .int .nil)).den) (y0 : Rtl)  (i_2 : Int) (m_2 : Rtl) : Prop :=
  if (decide (i_2 < (List.length x : Int))) = true then (idx i_2 (List.length x : Int) ∧ (cmp.1 ((List.getD x (Int.toNat i_2) tRa.dflt), m_2, ()) ∧ (if (decide (((cmp.2 ((List.getD x (Int.toNat i_2) tRa.dflt), m_2, ())).1) > (0 : Int))) = true then (idx i_2 (List.length x : Int) ∧ (inI (i_2 + (1 : Int)) ∧ Λ2 (i_2 + (1 : Int)) (List.getD x (Int.toNat i_2) tRa.dflt))) else (inI (i_2 + (1 : Int)) ∧ Λ2 (i_2 + (1 : Int)) m_2)))) else (m_2 = y0 ∧ True)
theorem cMaxQ_law (h : ∀ (x : (List Rtl)) (cmp : (T.fn (.cons tRa (.cons tRa .nil)) (.cons .int .nil)).den), cMaxQ.A.wf (x, cmp, ()) → (0 < x.length ∧ x.length ≤ 1000 ∧ ∀ q', q' ∈ x → ∀ r', r' ∈ x → cmp.1 (q', r', ())) → ∀ (Λ1 : Prop) (Λ2 : Int → Rtl → Prop), (cMaxQ_1 Λ1 Λ2 x cmp (maxTo (fun q' r' => decide ((cmp.2 (q', r', ())).1 > 0)) x x.length) → Λ1) → (∀ (i_2 : Int) (m_2 : Rtl), cMaxQ_2 Λ1 Λ2 x cmp (maxTo (fun q' r' => decide ((cmp.2 (q', r', ())).1 > 0)) x x.length) i_2 m_2 → Λ2 i_2 m_2) → cMaxQ_0 Λ1 Λ2 x cmp (maxTo (fun q' r' => decide ((cmp.2 (q', r', ())).1 > 0)) x x.length)) : ConOK Go.Proofs.Try.prog 101 cMaxQ := by
  refine lawL (Γ := []) (Θ := Th) (n := 33) [([1, 2], ⟨[(0, false), (1, false), (4, true)], [(4, true)]⟩), ([1, 1, 1, 0, 1, 0], ⟨[(0, false), (1, false), (4, true), (5, true), (6, true)], [(4, true), (5, true)]⟩)] trivial (by kernel_rfl) th_ok mix_ok Go.Proofs.Try.func101 (by kernel_rfl) ?_
  intro x hw hp Λ hC
  have h0 := h x.1 x.2.1 hw hp (Λ [1, 2] ([(0, .d false (.sl tRa) x.1), (1, .d false (.fn (.cons tRa (.cons tRa .nil)) (.cons .int .nil)) x.2.1), (4, .ptr 4 0 [])], [(4, .box true tRa tRa.dflt)])) (fun i_2 m_2 => Λ [1, 1, 1, 0, 1, 0] ([(0, .d false (.sl tRa) x.1), (1, .d false (.fn (.cons tRa (.cons tRa .nil)) (.cons .int .nil)) x.2.1), (4, .ptr 4 0 []), (5, .ptr 5 0 []), (6, .d true .int i_2)], [(4, .box true tRa tRa.dflt), (5, .box true tRa m_2)])) (fun  hb => hC [1, 2] ([(0, .d false (.sl tRa) x.1), (1, .d false (.fn (.cons tRa (.cons tRa .nil)) (.cons .int .nil)) x.2.1), (4, .ptr 4 0 [])], [(4, .box true tRa tRa.dflt)]) (Eq.mpr (by kernel_rfl) hb)) (fun i_2 m_2 hb => hC [1, 1, 1, 0, 1, 0] ([(0, .d false (.sl tRa) x.1), (1, .d false (.fn (.cons tRa (.cons tRa .nil)) (.cons .int .nil)) x.2.1), (4, .ptr 4 0 []), (5, .ptr 5 0 []), (6, .d true .int i_2)], [(4, .box true tRa tRa.dflt), (5, .box true tRa m_2)]) (Eq.mpr (by kernel_rfl) hb))
  exact Eq.mpr (by kernel_rfl) h0
theorem cMaxQ_ok : ConOK Go.Proofs.Try.prog 101 cMaxQ := by
  refine cMaxQ_law ?_
  intro x cmp hw hp Λ1 Λ2 h1 h2
  unfold cMaxQ_0
  obtain ⟨p1, p2, p3⟩ := hp
  have hM : ∀ n, n ≤ x.length → maxTo (fun q' r' => decide ((cmp.2 (q', r', ())).1 > 0)) x n ∈ x := fun n hn => maxTo_mem _ p1 n hn
  rw [if_neg (by rw [decide_eq_true_eq]; omega)]
  apply h1; unfold cMaxQ_1
  refine ⟨idx_nat p1, ?_⟩
  have hg0 : List.getD x 0 tRa.dflt ∈ x := mem_getD p1
  have start : maxTo (fun q' r' => decide ((cmp.2 (q', r', ())).1 > 0)) x 1 = List.getD x 0 tRa.dflt := by
    unfold maxTo maxTo; split <;> rfl
  have key := upto (n := x.length) (Q := fun i => 0 < i → Λ2 (i : Int) (maxTo (fun q' r' => decide ((cmp.2 (q', r', ())).1 > 0)) x i)) ?_ ?_ 1 (by omega) (by omega)
  · rw [start] at key; exact key
  · intro _
    apply h2; unfold cMaxQ_2; rw [if_neg (by simp)]
    exact ⟨rfl, trivial⟩
  · intro i hi ih h0
    apply h2; unfold cMaxQ_2
    rw [if_pos (by simpa using hi), Int.toNat_natCast]
    have hm : List.getD x i tRa.dflt ∈ x := mem_getD hi
    refine ⟨idx_nat hi, p3 _ hm _ (hM i (by omega)), ?_⟩
    have ih := ih (by omega)
    rw [show maxTo (fun q' r' => decide ((cmp.2 (q', r', ())).1 > 0)) x (i + 1) = if decide ((cmp.2 (List.getD x i tRa.dflt, maxTo (fun q' r' => decide ((cmp.2 (q', r', ())).1 > 0)) x i, ())).1 > 0) = true then List.getD x i tRa.dflt else maxTo (fun q' r' => decide ((cmp.2 (q', r', ())).1 > 0)) x i from rfl] at ih
    by_cases g : decide ((cmp.2 (List.getD x i tRa.dflt, maxTo (fun q' r' => decide ((cmp.2 (q', r', ())).1 > 0)) x i, ())).1 > 0) = true
    · rw [if_pos g] at ih ⊢
      exact ⟨idx_nat hi, inI_succ hi (by omega), ih⟩
    · rw [if_neg g] at ih ⊢
      exact ⟨inI_succ hi (by omega), ih⟩
abbrev cSusp : Con := { A := (.cons (.sl tL) (.cons (.sl tTs) .nil)), R := (.cons (.sl .int) (.cons .int .nil)), pre := fun x => True, F := fun x => ((if errT [x.1] x.2.1 = 0 then suspT x.1 x.2.1 else []), errT [x.1] x.2.1, ()) }
def cSusp_0 (Λ1 : Int → (List Int) → Prop) (p : (List Lin)) (l : (List Tst)) (y0 : (List Int)) (y1 : Int) : Prop :=
  True ∧ (if ((errT [p] l) != (0 : Int)) = true then (([] : List Int) = y0 ∧ (errT [p] l) = y1 ∧ True) else ((validP p = 0 ∧ validT l = 0) ∧ (if (!(decide (failL p l ≠ []))) = true then (true = true ∧ (([] : List Int) = y0 ∧ (0 : Int) = y1 ∧ True)) else (True ∧ (if (bif false then true else ((List.length p : Int) == (0 : Int))) = true then (([] : List Int) = y0 ∧ (0 : Int) = y1 ∧ True) else ((0 < (scoresT p l).length ∧ (scoresT p l).length ≤ 1000 ∧ ∀ q', q' ∈ (scoresT p l) → ∀ r', r' ∈ (scoresT p l) → (fun (xx : (Rtl × Rtl × Unit)) => ratB xx.1 ∧ ratB xx.2.1, fun (xx : (Rtl × Rtl × Unit)) => (xx.1.1 * xx.2.1.2.1 - xx.2.1.1 * xx.1.2.1, ())).1 (q', r', ())) ∧ Λ1 (0 : Int) ([] : List Int)))))))
def cSusp_1 (Λ1 : Int → (List Int) → Prop) (p : (List Lin)) (l : (List Tst)) (y0 : (List Int)) (y1 : Int)  (t37_1 : Int) (out_1 : (List Int)) : Prop :=
  if (decide (t37_1 < (List.length (scoresT p l) : Int))) = true then (idx t37_1 (List.length (scoresT p l) : Int) ∧ (if (T.eqB tRa (List.getD (scoresT p l) (Int.toNat t37_1) tRa.dflt) (maxTo (fun q' r' => decide (((fun (xx : (Rtl × Rtl × Unit)) => ratB xx.1 ∧ ratB xx.2.1, fun (xx : (Rtl × Rtl × Unit)) => (xx.1.1 * xx.2.1.2.1 - xx.2.1.1 * xx.1.2.1, ())).2 (q', r', ())).1 > 0)) (scoresT p l) (scoresT p l).length)) = true then (List.length out_1 + List.length [t37_1] ≤ 4294967296 ∧ (inI (t37_1 + (1 : Int)) ∧ Λ1 (t37_1 + (1 : Int)) (out_1 ++ [t37_1]))) else (inI (t37_1 + (1 : Int)) ∧ Λ1 (t37_1 + (1 : Int)) out_1))) else (out_1 = y0 ∧ (0 : Int) = y1 ∧ True)
theorem cSusp_law (h : ∀ (p : (List Lin)) (l : (List Tst)), cSusp.A.wf (p, l, ()) → ∀ (Λ1 : Int → (List Int) → Prop), (∀ (t37_1 : Int) (out_1 : (List Int)), cSusp_1 Λ1 p l (if errT [p] l = 0 then suspT p l else []) (errT [p] l) t37_1 out_1 → Λ1 t37_1 out_1) → cSusp_0 Λ1 p l (if errT [p] l = 0 then suspT p l else []) (errT [p] l)) : ConOK Go.Proofs.Try.prog 57 cSusp := by
  refine lawL (Γ := [(102, cCmpQ), (101, cMaxQ), (62, cScores0), (61, cTested)]) (Θ := Th) (n := 51) [([1, 1, 1, 1, 1, 1, 0, 1, 0], ⟨[(9, true), (10, true), (35, true), (36, true), (37, true)], [(9, true), (10, true), (23, true)]⟩)] ⟨cCmpQ_ok, cMaxQ_ok, cScores0_ok, cTested_ok, trivial⟩ (by kernel_rfl) th_ok mix_ok Go.Proofs.Try.func57 (by kernel_rfl) ?_
  intro x hw hp Λ hC
  have h0 := h x.1 x.2.1 hw (fun t37_1 out_1 => Λ [1, 1, 1, 1, 1, 1, 0, 1, 0] ([(9, .ptr 9 0 []), (10, .own 10 0), (35, .own 23 0), (36, .d true .int (List.length (scoresT x.1 x.2.1) : Int)), (37, .d true .int t37_1)], [(9, .box true tRa (maxTo (fun q' r' => decide (((fun (xx : (Rtl × Rtl × Unit)) => ratB xx.1 ∧ ratB xx.2.1, fun (xx : (Rtl × Rtl × Unit)) => (xx.1.1 * xx.2.1.2.1 - xx.2.1.1 * xx.1.2.1, ())).2 (q', r', ())).1 > 0)) (scoresT x.1 x.2.1) (scoresT x.1 x.2.1).length)), (10, .sl true .int out_1), (23, .sl true tRa (scoresT x.1 x.2.1))])) (fun t37_1 out_1 hb => hC [1, 1, 1, 1, 1, 1, 0, 1, 0] ([(9, .ptr 9 0 []), (10, .own 10 0), (35, .own 23 0), (36, .d true .int (List.length (scoresT x.1 x.2.1) : Int)), (37, .d true .int t37_1)], [(9, .box true tRa (maxTo (fun q' r' => decide (((fun (xx : (Rtl × Rtl × Unit)) => ratB xx.1 ∧ ratB xx.2.1, fun (xx : (Rtl × Rtl × Unit)) => (xx.1.1 * xx.2.1.2.1 - xx.2.1.1 * xx.1.2.1, ())).2 (q', r', ())).1 > 0)) (scoresT x.1 x.2.1) (scoresT x.1 x.2.1).length)), (10, .sl true .int out_1), (23, .sl true tRa (scoresT x.1 x.2.1))]) (Eq.mpr (by kernel_rfl) hb))
  exact Eq.mpr (by kernel_rfl) h0
theorem cSusp_ok : ConOK Go.Proofs.Try.prog 57 cSusp := by
  refine cSusp_law ?_
  intro p l hw Λ1 h1
  unfold cSusp_0
  refine ⟨trivial, ?_⟩
  by_cases h : errT [p] l = 0
  · rw [if_neg (by simp [h]), if_pos h]
    obtain ⟨e1, e2⟩ := errT_ok h
    have hp8 := (validP_ok e1).1
    have hl8 := (validT_ok e2).1
    have hS := scores_ok (p := p) hl8
    have hsl := scores_len p l
    refine ⟨⟨e1, e2⟩, ?_⟩
    by_cases hF : failL p l = []
    · rw [if_pos (by simp [hF])]
      refine ⟨rfl, ?_, h.symm, trivial⟩
      unfold suspT; rw [if_pos hF]
    · rw [if_neg (by simp [hF])]
      refine ⟨trivial, ?_⟩
      have hT : suspT p l = suspL (scoresT p l) p.length := by unfold suspT; rw [if_neg hF]
      by_cases hp0 : p.length = 0
      · rw [if_pos (by simp [hp0])]
        refine ⟨?_, h.symm, trivial⟩
        rw [hT, hp0]; rfl
      · rw [if_neg (by simp; intro e; simp [e] at hp0)]
        refine ⟨⟨by show 0 < (scoresT p l).length; omega, by show (scoresT p l).length ≤ 1000; omega, fun q' hq r' hr => ⟨(hS _ hq).rat, (hS _ hr).rat⟩⟩, ?_⟩
        refine upto (n := p.length) (Q := fun i => Λ1 (i : Int) (suspL (scoresT p l) i)) ?_ ?_ 0 (Nat.zero_le _)
        · apply h1; unfold cSusp_1; rw [if_neg (by rw [hsl]; simp), if_pos h, hT]
          exact ⟨rfl, h.symm, trivial⟩
        · intro i hi ih
          apply h1; unfold cSusp_1
          rw [if_pos (by rw [hsl]; simpa using hi), Int.toNat_natCast]
          refine ⟨idx_nat (by omega), ?_⟩
          show if (T.eqB tRa (List.getD (scoresT p l) i tRa.dflt) (maxTo gtQ (scoresT p l) (scoresT p l).length)) = true then _ else _
          rw [top_most hS (by omega)]
          rw [suspL_next] at ih
          have hle := suspL_len (scoresT p l) i
          by_cases g : topS (scoresT p l) i = true
          · rw [if_pos g] at ih ⊢
            exact ⟨by simp only [List.length_cons, List.length_nil]; omega, inI_succ hi (by omega), ih⟩
          · rw [if_neg g, List.append_nil] at ih
            rw [if_neg g]
            exact ⟨inI_succ hi (by omega), ih⟩
  · rw [if_pos (by simpa using h), if_neg h]
    exact ⟨rfl, rfl, trivial⟩
abbrev cInsS : InC := { a := .int, B := (.cons .int (.cons .int (.cons (.fn (.cons .int (.cons .int .nil)) (.cons .int .nil)) .nil))), pre := fun xs x => x.1 = 0 ∧ x.2.1 = xs.length ∧ xs.length ≤ 1000 ∧ ∀ x', x' ∈ xs → ∀ y', y' ∈ xs → x.2.2.1.1 (x', y', ()), F := fun xs x => insT (fun x' y' => decide ((x.2.2.1.2 (x', y', ())).1 < 0)) xs (xs.length - 1), ret := false }
def cInsS_0 (Λ1 : Int → (List Int) → Prop) (Λ2 : Int → Int → (List Int) → Prop) (data : (List Int)) (a : Int) (b : Int) (cmp : (T.fn (.cons .int (.cons .int .nil)) (.cons .int .nil)).den) (y0 : (List Int)) : Prop :=
  inI (a + (1 : Int)) ∧ Λ1 (a + (1 : Int)) data
def cInsS_1 (Λ1 : Int → (List Int) → Prop) (Λ2 : Int → Int → (List Int) → Prop) (data : (List Int)) (a : Int) (b : Int) (cmp : (T.fn (.cons .int (.cons .int .nil)) (.cons .int .nil)).den) (y0 : (List Int))  (i_1 : Int) (data_1 : (List Int)) : Prop :=
  if (decide (i_1 < b)) = true then Λ2 i_1 i_1 data_1 else data_1 = y0
def cInsS_2 (Λ1 : Int → (List Int) → Prop) (Λ2 : Int → Int → (List Int) → Prop) (data : (List Int)) (a : Int) (b : Int) (cmp : (T.fn (.cons .int (.cons .int .nil)) (.cons .int .nil)).den) (y0 : (List Int)) (i_1 : Int) (j_2 : Int) (data_2 : (List Int)) : Prop :=
  if (decide (j_2 > a)) = true then (idx j_2 (List.length data_2 : Int) ∧ (inI (j_2 - (1 : Int)) ∧ (idx (j_2 - (1 : Int)) (List.length data_2 : Int) ∧ (cmp.1 ((List.getD data_2 (Int.toNat j_2) 0), (List.getD data_2 (Int.toNat (j_2 - (1 : Int))) 0), ()) ∧ (True ∧ (if (bif true then (decide (((cmp.2 ((List.getD data_2 (Int.toNat j_2) 0), (List.getD data_2 (Int.toNat (j_2 - (1 : Int))) 0), ())).1) < (0 : Int))) else false) = true then (inI (j_2 - (1 : Int)) ∧ (inI (j_2 - (1 : Int)) ∧ (idx (j_2 - (1 : Int)) (List.length data_2 : Int) ∧ (idx j_2 (List.length data_2 : Int) ∧ (idx j_2 (List.length data_2 : Int) ∧ (idx (j_2 - (1 : Int)) (List.length (List.set data_2 (Int.toNat j_2) (List.getD data_2 (Int.toNat (j_2 - (1 : Int))) 0)) : Int) ∧ (inI (j_2 - (1 : Int)) ∧ Λ2 i_1 (j_2 - (1 : Int)) (List.set (List.set data_2 (Int.toNat j_2) (List.getD data_2 (Int.toNat (j_2 - (1 : Int))) 0)) (Int.toNat (j_2 - (1 : Int))) (List.getD data_2 (Int.toNat j_2) 0))))))))) else (inI (i_1 + (1 : Int)) ∧ Λ1 (i_1 + (1 : Int)) data_2))))))) else (false = false ∧ (inI (i_1 + (1 : Int)) ∧ Λ1 (i_1 + (1 : Int)) data_2))
theorem cInsS_law (h : ∀ (data : (List Int)) (a : Int) (b : Int) (cmp : (T.fn (.cons .int (.cons .int .nil)) (.cons .int .nil)).den), (T.sl cInsS.a).wf data → cInsS.B.wf (a, b, cmp, ()) → (a = 0 ∧ b = data.length ∧ data.length ≤ 1000 ∧ ∀ x', x' ∈ data → ∀ y', y' ∈ data → cmp.1 (x', y', ())) → ∀ (Λ1 : Int → (List Int) → Prop) (Λ2 : Int → Int → (List Int) → Prop), (∀ (i_1 : Int) (data_1 : (List Int)), cInsS_1 Λ1 Λ2 data a b cmp (insT (fun x' y' => decide ((cmp.2 (x', y', ())).1 < 0)) data (data.length - 1)) i_1 data_1 → Λ1 i_1 data_1) → (∀ (i_1 : Int) (j_2 : Int) (data_2 : (List Int)), cInsS_2 Λ1 Λ2 data a b cmp (insT (fun x' y' => decide ((cmp.2 (x', y', ())).1 < 0)) data (data.length - 1)) i_1 j_2 data_2 → Λ2 i_1 j_2 data_2) → cInsS_0 Λ1 Λ2 data a b cmp (insT (fun x' y' => decide ((cmp.2 (x', y', ())).1 < 0)) data (data.length - 1))) : InF Go.Proofs.Try.prog 137 cInsS := by
  refine lawI (X := { subs := [], frz := [], U := [], mul := [], nst := [], nls := [], itf := none, inp := [], arrs := [] }) (hX := xok0 _ trivial) (Γ := []) (Θ := Th) (n := 53) [([1, 0], ⟨[(0, true), (1, false), (2, false), (3, false), (8, true)], [(0, false)]⟩), ([1, 0, 0, 1, 0, 0, 1, 0], ⟨[(0, true), (1, false), (2, false), (3, false), (8, true), (9, true)], [(0, false)]⟩)] trivial (by kernel_rfl) th_ok mix_ok Go.Proofs.Try.func137 (by kernel_rfl) ?_
  intro xs x hs hw hp Λ hC
  have h0 := h xs x.1 x.2.1 x.2.2.1 hs hw hp (fun i_1 data_1 => Λ [1, 0] ([(0, .own 0 0), (1, .d false .int x.1), (2, .d false .int x.2.1), (3, .d false (.fn (.cons .int (.cons .int .nil)) (.cons .int .nil)) x.2.2.1), (8, .d true .int i_1)], [(0, .sl false .int data_1)])) (fun i_1 j_2 data_2 => Λ [1, 0, 0, 1, 0, 0, 1, 0] ([(0, .own 0 0), (1, .d false .int x.1), (2, .d false .int x.2.1), (3, .d false (.fn (.cons .int (.cons .int .nil)) (.cons .int .nil)) x.2.2.1), (8, .d true .int i_1), (9, .d true .int j_2)], [(0, .sl false .int data_2)])) (fun i_1 data_1 hb => hC [1, 0] ([(0, .own 0 0), (1, .d false .int x.1), (2, .d false .int x.2.1), (3, .d false (.fn (.cons .int (.cons .int .nil)) (.cons .int .nil)) x.2.2.1), (8, .d true .int i_1)], [(0, .sl false .int data_1)]) (Eq.mpr (by kernel_rfl) hb)) (fun i_1 j_2 data_2 hb => hC [1, 0, 0, 1, 0, 0, 1, 0] ([(0, .own 0 0), (1, .d false .int x.1), (2, .d false .int x.2.1), (3, .d false (.fn (.cons .int (.cons .int .nil)) (.cons .int .nil)) x.2.2.1), (8, .d true .int i_1), (9, .d true .int j_2)], [(0, .sl false .int data_2)]) (Eq.mpr (by kernel_rfl) hb))
  exact Eq.mpr (by kernel_rfl) h0
theorem cInsS_ok : FunOK Go.Proofs.Try.prog 137 ∧ InF Go.Proofs.Try.prog 137 cInsS := by
  refine ⟨funB_ok (by kernel_rfl), cInsS_law ?_⟩
  intro data a b cmp hs hw hp Λ1 Λ2 h1 h2
  unfold cInsS_0
  obtain ⟨rfl, rfl, p3, p4⟩ := hp
  refine ⟨by unfold inI; omega, ?_⟩
  have key := upto (n := data.length - 1) (Q := fun i => Λ1 ((i : Int) + 1) (insT (fun x' y' => decide ((cmp.2 (x', y', ())).1 < 0)) data i)) ?_ ?_ 0 (Nat.zero_le _)
  · exact key
  · apply h1; unfold cInsS_1; rw [if_neg (by simp; omega)]
  · intro i hi ih
    apply h1; unfold cInsS_1
    rw [if_pos (by simp; omega)]
    have inner : ∀ j, j ≤ i + 1 → ∀ d : List Int, d.length = data.length → (∀ x ∈ d, x ∈ data) → bub (fun x' y' => decide ((cmp.2 (x', y', ())).1 < 0)) j d = insT (fun x' y' => decide ((cmp.2 (x', y', ())).1 < 0)) data (i + 1) → Λ2 ((i : Int) + 1) (j : Int) d := by
      intro j
      induction j with
      | zero =>
        intro _ d hd hm he
        apply h2; unfold cInsS_2
        rw [if_neg (by simp)]
        refine ⟨rfl, by unfold inI; omega, ?_⟩
        rw [show bub (fun x' y' => decide ((cmp.2 (x', y', ())).1 < 0)) 0 d = d from rfl] at he
        rw [he, show (i : Int) + 1 + 1 = ((i + 1 : Nat) : Int) + 1 by omega]
        exact ih
      | succ j ihj =>
        intro hj d hd hm he
        apply h2; unfold cInsS_2
        have ej : ((j + 1 : Nat) : Int) - 1 = (j : Int) := by omega
        rw [if_pos (by rw [decide_eq_true_eq]; omega), ej, Int.toNat_natCast, Int.toNat_natCast]
        have m1 : List.getD d (j + 1) 0 ∈ d := mem_getD (by omega)
        have m2 : List.getD d j 0 ∈ d := mem_getD (by omega)
        refine ⟨idx_nat (by omega), by unfold inI; omega, idx_nat (by omega), p4 _ (hm _ m1) _ (hm _ m2), trivial, ?_⟩
        show if (decide ((cmp.2 (List.getD d (j + 1) 0, List.getD d j 0, ())).1 < 0)) = true then _ else _
        unfold bub at he
        by_cases g : decide ((cmp.2 (List.getD d (j + 1) 0, List.getD d j 0, ())).1 < 0) = true
        · rw [if_pos g]
          rw [if_pos g] at he
          refine ⟨by unfold inI; omega, by unfold inI; omega, idx_nat (by omega), idx_nat (by omega), idx_nat (by omega), by rw [List.length_set]; exact idx_nat (by omega), by unfold inI; omega, ?_⟩
          refine ihj (by omega) _ (by simp [hd]) (fun x hx => hm x ?_) he
          exact swapB_mem (j := j + 1) (by omega) hx
        · rw [if_neg g]
          rw [if_neg g] at he
          refine ⟨by unfold inI; omega, ?_⟩
          rw [he, show (i : Int) + 1 + 1 = ((i + 1 : Nat) : Int) + 1 by omega]
          exact ih
    exact inner (i + 1) (Nat.le_refl _) _ (insT_len _ _ _) (fun x hx => insT_mem _ _ i (by omega) x hx) rfl
abbrev cSymM : InC := { a := .int, B := (.cons .int (.cons .int (.cons .int (.cons (.fn (.cons .int (.cons .int .nil)) (.cons .int .nil)) .nil)))), pre := fun xs x => False, F := fun xs x => xs, ret := false }
theorem cSymM_ok : FunOK Go.Proofs.Try.prog 138 ∧ InF Go.Proofs.Try.prog 138 cSymM := by
  refine ⟨funB_ok (by kernel_rfl), ?_⟩
  intro w S xs x v ob vs hown hnS hv hp
  exact hp.elim
abbrev cStabS : InC := { a := .int, B := (.cons .int (.cons (.fn (.cons .int (.cons .int .nil)) (.cons .int .nil)) .nil)), pre := fun xs x => x.1 = xs.length ∧ xs.length ≤ 19 ∧ ∀ x', x' ∈ xs → ∀ y', y' ∈ xs → x.2.1.1 (x', y', ()), F := fun xs x => insT (fun x' y' => decide ((x.2.1.2 (x', y', ())).1 < 0)) xs (xs.length - 1), ret := false }
def cStabS_0 (Λ1 : Int → Int → (List Int) → Prop) (Λ2 : Int → (List Int) → Prop) (Λ3 : Int → Int → Int → (List Int) → Prop) (data : (List Int)) (n : Int) (cmp : (T.fn (.cons .int (.cons .int .nil)) (.cons .int .nil)).den) (y0 : (List Int)) : Prop :=
  Λ1 (0 : Int) (20 : Int) data
def cStabS_1 (Λ1 : Int → Int → (List Int) → Prop) (Λ2 : Int → (List Int) → Prop) (Λ3 : Int → Int → Int → (List Int) → Prop) (data : (List Int)) (n : Int) (cmp : (T.fn (.cons .int (.cons .int .nil)) (.cons .int .nil)).den) (y0 : (List Int))  (a_1 : Int) (b_1 : Int) (data_1 : (List Int)) : Prop :=
  if (decide (b_1 ≤ n)) = true then ((a_1 = 0 ∧ b_1 = data_1.length ∧ data_1.length ≤ 1000 ∧ ∀ x', x' ∈ data_1 → ∀ y', y' ∈ data_1 → cmp.1 (x', y', ())) ∧ (inI (b_1 + (20 : Int)) ∧ Λ1 b_1 (b_1 + (20 : Int)) (insT (fun x' y' => decide ((cmp.2 (x', y', ())).1 < 0)) data_1 (data_1.length - 1)))) else ((a_1 = 0 ∧ n = data_1.length ∧ data_1.length ≤ 1000 ∧ ∀ x', x' ∈ data_1 → ∀ y', y' ∈ data_1 → cmp.1 (x', y', ())) ∧ Λ2 (20 : Int) (insT (fun x' y' => decide ((cmp.2 (x', y', ())).1 < 0)) data_1 (data_1.length - 1)))
def cStabS_2 (Λ1 : Int → Int → (List Int) → Prop) (Λ2 : Int → (List Int) → Prop) (Λ3 : Int → Int → Int → (List Int) → Prop) (data : (List Int)) (n : Int) (cmp : (T.fn (.cons .int (.cons .int .nil)) (.cons .int .nil)).den) (y0 : (List Int))  (blockSize_2 : Int) (data_2 : (List Int)) : Prop :=
  if (decide (blockSize_2 < n)) = true then (inI ((2 : Int) * blockSize_2) ∧ Λ3 blockSize_2 (0 : Int) ((2 : Int) * blockSize_2) data_2) else data_2 = y0
def cStabS_3 (Λ1 : Int → Int → (List Int) → Prop) (Λ2 : Int → (List Int) → Prop) (Λ3 : Int → Int → Int → (List Int) → Prop) (data : (List Int)) (n : Int) (cmp : (T.fn (.cons .int (.cons .int .nil)) (.cons .int .nil)).den) (y0 : (List Int)) (blockSize_2 : Int) (a_3 : Int) (b_3 : Int) (data_3 : (List Int)) : Prop :=
  if (decide (b_3 ≤ n)) = true then (inI (a_3 + blockSize_2) ∧ (False ∧ (inI ((2 : Int) * blockSize_2) ∧ (inI (b_3 + ((2 : Int) * blockSize_2)) ∧ Λ3 blockSize_2 b_3 (b_3 + ((2 : Int) * blockSize_2)) (data_3))))) else (inI (a_3 + blockSize_2) ∧ (if (decide ((a_3 + blockSize_2) < n)) = true then (False ∧ (inI (blockSize_2 * (2 : Int)) ∧ Λ2 (blockSize_2 * (2 : Int)) (data_3))) else (inI (blockSize_2 * (2 : Int)) ∧ Λ2 (blockSize_2 * (2 : Int)) data_3)))
theorem cStabS_law (h : ∀ (data : (List Int)) (n : Int) (cmp : (T.fn (.cons .int (.cons .int .nil)) (.cons .int .nil)).den), (T.sl cStabS.a).wf data → cStabS.B.wf (n, cmp, ()) → (n = data.length ∧ data.length ≤ 19 ∧ ∀ x', x' ∈ data → ∀ y', y' ∈ data → cmp.1 (x', y', ())) → ∀ (Λ1 : Int → Int → (List Int) → Prop) (Λ2 : Int → (List Int) → Prop) (Λ3 : Int → Int → Int → (List Int) → Prop), (∀ (a_1 : Int) (b_1 : Int) (data_1 : (List Int)), cStabS_1 Λ1 Λ2 Λ3 data n cmp (insT (fun x' y' => decide ((cmp.2 (x', y', ())).1 < 0)) data (data.length - 1)) a_1 b_1 data_1 → Λ1 a_1 b_1 data_1) → (∀ (blockSize_2 : Int) (data_2 : (List Int)), cStabS_2 Λ1 Λ2 Λ3 data n cmp (insT (fun x' y' => decide ((cmp.2 (x', y', ())).1 < 0)) data (data.length - 1)) blockSize_2 data_2 → Λ2 blockSize_2 data_2) → (∀ (blockSize_2 : Int) (a_3 : Int) (b_3 : Int) (data_3 : (List Int)), cStabS_3 Λ1 Λ2 Λ3 data n cmp (insT (fun x' y' => decide ((cmp.2 (x', y', ())).1 < 0)) data (data.length - 1)) blockSize_2 a_3 b_3 data_3 → Λ3 blockSize_2 a_3 b_3 data_3) → cStabS_0 Λ1 Λ2 Λ3 data n cmp (insT (fun x' y' => decide ((cmp.2 (x', y', ())).1 < 0)) data (data.length - 1))) : InF Go.Proofs.Try.prog 124 cStabS := by
  refine lawI (X := { subs := [], frz := [], U := [], mul := [], nst := [], nls := [], itf := none, inp := [(137, cInsS), (138, cSymM)], arrs := [] }) (hX := xok0 _ ⟨cInsS_ok, cSymM_ok, trivial⟩) (Γ := []) (Θ := Th) (n := 63) [([1, 1, 0, 0], ⟨[(0, true), (1, false), (2, false), (6, true), (7, true), (8, true)], [(0, false)]⟩), ([1, 1, 1, 1, 0], ⟨[(0, true), (1, false), (2, false), (6, true)], [(0, false)]⟩), ([1, 1, 1, 1, 0, 0, 1, 0, 1, 0, 0], ⟨[(0, true), (1, false), (2, false), (6, true), (7, true), (8, true)], [(0, false)]⟩)] trivial (by kernel_rfl) th_ok mix_ok Go.Proofs.Try.func124 (by kernel_rfl) ?_
  intro xs x hs hw hp Λ hC
  have h0 := h xs x.1 x.2.1 hs hw hp (fun a_1 b_1 data_1 => Λ [1, 1, 0, 0] ([(0, .own 0 0), (1, .d false .int x.1), (2, .d false (.fn (.cons .int (.cons .int .nil)) (.cons .int .nil)) x.2.1), (6, .d true .int 20), (7, .d true .int a_1), (8, .d true .int b_1)], [(0, .sl false .int data_1)])) (fun blockSize_2 data_2 => Λ [1, 1, 1, 1, 0] ([(0, .own 0 0), (1, .d false .int x.1), (2, .d false (.fn (.cons .int (.cons .int .nil)) (.cons .int .nil)) x.2.1), (6, .d true .int blockSize_2)], [(0, .sl false .int data_2)])) (fun blockSize_2 a_3 b_3 data_3 => Λ [1, 1, 1, 1, 0, 0, 1, 0, 1, 0, 0] ([(0, .own 0 0), (1, .d false .int x.1), (2, .d false (.fn (.cons .int (.cons .int .nil)) (.cons .int .nil)) x.2.1), (6, .d true .int blockSize_2), (7, .d true .int a_3), (8, .d true .int b_3)], [(0, .sl false .int data_3)])) (fun a_1 b_1 data_1 hb => hC [1, 1, 0, 0] ([(0, .own 0 0), (1, .d false .int x.1), (2, .d false (.fn (.cons .int (.cons .int .nil)) (.cons .int .nil)) x.2.1), (6, .d true .int 20), (7, .d true .int a_1), (8, .d true .int b_1)], [(0, .sl false .int data_1)]) (Eq.mpr (by kernel_rfl) hb)) (fun blockSize_2 data_2 hb => hC [1, 1, 1, 1, 0] ([(0, .own 0 0), (1, .d false .int x.1), (2, .d false (.fn (.cons .int (.cons .int .nil)) (.cons .int .nil)) x.2.1), (6, .d true .int blockSize_2)], [(0, .sl false .int data_2)]) (Eq.mpr (by kernel_rfl) hb)) (fun blockSize_2 a_3 b_3 data_3 hb => hC [1, 1, 1, 1, 0, 0, 1, 0, 1, 0, 0] ([(0, .own 0 0), (1, .d false .int x.1), (2, .d false (.fn (.cons .int (.cons .int .nil)) (.cons .int .nil)) x.2.1), (6, .d true .int blockSize_2), (7, .d true .int a_3), (8, .d true .int b_3)], [(0, .sl false .int data_3)]) (Eq.mpr (by kernel_rfl) hb))
  exact Eq.mpr (by kernel_rfl) h0
theorem cStabS_ok : FunOK Go.Proofs.Try.prog 124 ∧ InF Go.Proofs.Try.prog 124 cStabS := by
  refine ⟨funB_ok (by kernel_rfl), cStabS_law ?_⟩
  intro data n cmp hs hw hp Λ1 Λ2 Λ3 h1 h2 h3
  unfold cStabS_0
  obtain ⟨rfl, p2, p3⟩ := hp
  apply h1; unfold cStabS_1
  rw [if_neg (by rw [decide_eq_true_eq]; omega)]
  refine ⟨⟨rfl, rfl, by omega, p3⟩, ?_⟩
  apply h2; unfold cStabS_2
  rw [if_neg (by rw [decide_eq_true_eq]; omega)]
abbrev cSortS : InC := { a := .int, B := (.cons (.fn (.cons .int (.cons .int .nil)) (.cons .int .nil)) .nil), pre := fun xs x => xs.length ≤ 19 ∧ ∀ x', x' ∈ xs → ∀ y', y' ∈ xs → x.1.1 (x', y', ()), F := fun xs x => insT (fun x' y' => decide ((x.1.2 (x', y', ())).1 < 0)) xs (xs.length - 1), ret := false }
def cSortS_0  (x : (List Int)) (cmp : (T.fn (.cons .int (.cons .int .nil)) (.cons .int .nil)).den) (y0 : (List Int)) : Prop :=
  ((List.length x : Int) = x.length ∧ x.length ≤ 19 ∧ ∀ x', x' ∈ x → ∀ y', y' ∈ x → cmp.1 (x', y', ())) ∧ (insT (fun x' y' => decide ((cmp.2 (x', y', ())).1 < 0)) x (x.length - 1)) = y0
theorem cSortS_law (h : ∀ (x : (List Int)) (cmp : (T.fn (.cons .int (.cons .int .nil)) (.cons .int .nil)).den), (T.sl cSortS.a).wf x → cSortS.B.wf (cmp, ()) → (x.length ≤ 19 ∧ ∀ x', x' ∈ x → ∀ y', y' ∈ x → cmp.1 (x', y', ())) → cSortS_0  x cmp (insT (fun x' y' => decide ((cmp.2 (x', y', ())).1 < 0)) x (x.length - 1))) : InF Go.Proofs.Try.prog 104 cSortS := by
  refine lawI (X := { subs := [], frz := [], U := [], mul := [], nst := [], nls := [], itf := none, inp := [(124, cStabS)], arrs := [] }) (hX := xok0 _ ⟨cStabS_ok, trivial⟩) (Γ := []) (Θ := Th) (n := 9) [] trivial (by kernel_rfl) th_ok mix_ok Go.Proofs.Try.func104 (by kernel_rfl) ?_
  intro xs x hs hw hp Λ hC
  have h0 := h xs x.1 hs hw hp  
  exact Eq.mpr (by kernel_rfl) h0
theorem cSortS_ok : FunOK Go.Proofs.Try.prog 104 ∧ InF Go.Proofs.Try.prog 104 cSortS := by
  refine ⟨funB_ok (by kernel_rfl), cSortS_law ?_⟩
  intro x cmp hs hw hp
  unfold cSortS_0
  exact ⟨⟨rfl, hp⟩, rfl⟩
abbrev cRank1 : Con := { A := (.cons .int (.cons .int (.cons (.ref (.sl tRa)) .nil))), R := (.cons .int .nil), pre := fun x => (∀ q', q' ∈ x.2.2.1 → ratB q') ∧ 0 ≤ x.1 ∧ x.1 < x.2.2.1.length ∧ 0 ≤ x.2.1 ∧ x.2.1 < x.2.2.1.length, F := fun x => ((List.getD x.2.2.1 (Int.toNat x.2.1) tRa.dflt).1 * (List.getD x.2.2.1 (Int.toNat x.1) tRa.dflt).2.1 - (List.getD x.2.2.1 (Int.toNat x.1) tRa.dflt).1 * (List.getD x.2.2.1 (Int.toNat x.2.1) tRa.dflt).2.1, ()) }
def cRank1_0  (a : Int) (b : Int) (c0 : (List Rtl)) (y0 : Int) : Prop :=
  idx b (List.length c0 : Int) ∧ (idx a (List.length c0 : Int) ∧ ((ratB (List.getD c0 (Int.toNat b) tRa.dflt) ∧ ratB (List.getD c0 (Int.toNat a) tRa.dflt)) ∧ (((List.getD c0 (Int.toNat b) tRa.dflt).1 * (List.getD c0 (Int.toNat a) tRa.dflt).2.1 - (List.getD c0 (Int.toNat a) tRa.dflt).1 * (List.getD c0 (Int.toNat b) tRa.dflt).2.1) = y0 ∧ True)))
theorem cRank1_law (h : ∀ (a : Int) (b : Int) (c0 : (List Rtl)), cRank1.A.wf (a, b, c0, ()) → ((∀ q', q' ∈ c0 → ratB q') ∧ 0 ≤ a ∧ a < c0.length ∧ 0 ≤ b ∧ b < c0.length) → cRank1_0  a b c0 ((List.getD c0 (Int.toNat b) tRa.dflt).1 * (List.getD c0 (Int.toNat a) tRa.dflt).2.1 - (List.getD c0 (Int.toNat a) tRa.dflt).1 * (List.getD c0 (Int.toNat b) tRa.dflt).2.1)) : ConOK Go.Proofs.Try.prog 105 cRank1 := by
  refine lawL (Γ := [(102, cCmpQ)]) (Θ := Th) (n := 15) [] ⟨cCmpQ_ok, trivial⟩ (by kernel_rfl) th_ok mix_ok Go.Proofs.Try.func105 (by kernel_rfl) ?_
  intro x hw hp Λ hC
  have h0 := h x.1 x.2.1 x.2.2.1 hw hp  
  exact Eq.mpr (by kernel_rfl) h0
theorem cRank1_ok : ConOK Go.Proofs.Try.prog 105 cRank1 := by
  refine cRank1_law ?_
  intro a b c0 hw hp
  unfold cRank1_0
  obtain ⟨p1, p2, p3, p4, p5⟩ := hp
  exact ⟨⟨p4, p5⟩, ⟨p2, p3⟩, ⟨p1 _ (mem_getD (by omega)), p1 _ (mem_getD (by omega))⟩, rfl, trivial⟩
abbrev cRank : Con := { A := (.cons (.sl tL) (.cons (.sl tTs) .nil)), R := (.cons (.sl .int) (.cons .int .nil)), pre := fun x => True, F := fun x => ((if errT [x.1] x.2.1 = 0 then rankT x.1 x.2.1 else []), errT [x.1] x.2.1, ()) }
def cRank_0 (Λ1 : Int → (List Int) → Prop) (p : (List Lin)) (l : (List Tst)) (y0 : (List Int)) (y1 : Int) : Prop :=
  True ∧ (if ((errT [p] l) != (0 : Int)) = true then (([] : List Int) = y0 ∧ (errT [p] l) = y1 ∧ True) else ((validP p = 0 ∧ validT l = 0) ∧ Λ1 (0 : Int) ([] : List Int)))
def cRank_1 (Λ1 : Int → (List Int) → Prop) (p : (List Lin)) (l : (List Tst)) (y0 : (List Int)) (y1 : Int)  (t26_1 : Int) (out_1 : (List Int)) : Prop :=
  if (decide (t26_1 < (List.length p : Int))) = true then (List.length out_1 + List.length [t26_1] ≤ 4294967296 ∧ (inI (t26_1 + (1 : Int)) ∧ Λ1 (t26_1 + (1 : Int)) (out_1 ++ [t26_1]))) else ((out_1.length ≤ 19 ∧ ∀ x', x' ∈ out_1 → ∀ y', y' ∈ out_1 → (fun (xx : (Int × Int × Unit)) => (∀ q', q' ∈ (scoresT p l) → ratB q') ∧ 0 ≤ xx.1 ∧ xx.1 < (scoresT p l).length ∧ 0 ≤ xx.2.1 ∧ xx.2.1 < (scoresT p l).length, fun (xx : (Int × Int × Unit)) => ((List.getD (scoresT p l) (Int.toNat xx.2.1) tRa.dflt).1 * (List.getD (scoresT p l) (Int.toNat xx.1) tRa.dflt).2.1 - (List.getD (scoresT p l) (Int.toNat xx.1) tRa.dflt).1 * (List.getD (scoresT p l) (Int.toNat xx.2.1) tRa.dflt).2.1, ())).1 (x', y', ())) ∧ ((insT (fun x' y' => decide (((fun (xx : (Int × Int × Unit)) => (∀ q', q' ∈ (scoresT p l) → ratB q') ∧ 0 ≤ xx.1 ∧ xx.1 < (scoresT p l).length ∧ 0 ≤ xx.2.1 ∧ xx.2.1 < (scoresT p l).length, fun (xx : (Int × Int × Unit)) => ((List.getD (scoresT p l) (Int.toNat xx.2.1) tRa.dflt).1 * (List.getD (scoresT p l) (Int.toNat xx.1) tRa.dflt).2.1 - (List.getD (scoresT p l) (Int.toNat xx.1) tRa.dflt).1 * (List.getD (scoresT p l) (Int.toNat xx.2.1) tRa.dflt).2.1, ())).2 (x', y', ())).1 < 0)) out_1 (out_1.length - 1)) = y0 ∧ (0 : Int) = y1 ∧ True))
theorem cRank_law (h : ∀ (p : (List Lin)) (l : (List Tst)), cRank.A.wf (p, l, ()) → ∀ (Λ1 : Int → (List Int) → Prop), (∀ (t26_1 : Int) (out_1 : (List Int)), cRank_1 Λ1 p l (if errT [p] l = 0 then rankT p l else []) (errT [p] l) t26_1 out_1 → Λ1 t26_1 out_1) → cRank_0 Λ1 p l (if errT [p] l = 0 then rankT p l else []) (errT [p] l)) : ConOK Go.Proofs.Try.prog 59 cRank := by
  refine lawX (X := { subs := [], frz := [], U := [], mul := [], nst := [], nls := [], itf := none, inp := [(104, cSortS)], arrs := [] }) (hX := xok0 _ ⟨cSortS_ok, trivial⟩) (Γ := [(105, cRank1), (62, cScores0), (61, cTested)]) (Θ := Th) (n := 38) [([1, 1, 1, 1, 0, 1, 0], ⟨[(7, true), (9, true), (25, true), (26, true)], [(7, true), (9, true)]⟩)] ⟨cRank1_ok, cScores0_ok, cTested_ok, trivial⟩ (by kernel_rfl) th_ok mix_ok Go.Proofs.Try.func59 (by kernel_rfl) ?_
  intro x hw hp Λ hC
  have h0 := h x.1 x.2.1 hw (fun t26_1 out_1 => Λ [1, 1, 1, 1, 0, 1, 0] ([(7, .ptr 7 0 []), (9, .own 9 0), (25, .d true .int (List.length x.1 : Int)), (26, .d true .int t26_1)], [(7, .box true (.sl tRa) (scoresT x.1 x.2.1)), (9, .sl true .int out_1)])) (fun t26_1 out_1 hb => hC [1, 1, 1, 1, 0, 1, 0] ([(7, .ptr 7 0 []), (9, .own 9 0), (25, .d true .int (List.length x.1 : Int)), (26, .d true .int t26_1)], [(7, .box true (.sl tRa) (scoresT x.1 x.2.1)), (9, .sl true .int out_1)]) (Eq.mpr (by kernel_rfl) hb))
  exact Eq.mpr (by kernel_rfl) h0
theorem cRank_ok : ConOK Go.Proofs.Try.prog 59 cRank := by
  refine cRank_law ?_
  intro p l hw Λ1 h1
  unfold cRank_0
  refine ⟨trivial, ?_⟩
  by_cases h : errT [p] l = 0
  · rw [if_neg (by simp [h])]
    obtain ⟨e1, e2⟩ := errT_ok h
    have hp8 := (validP_ok e1).1
    have hl8 := (validT_ok e2).1
    have hS := scores_ok (p := p) hl8
    have hsl := scores_len p l
    refine ⟨⟨e1, e2⟩, ?_⟩
    refine upto (n := p.length) (Q := fun i => Λ1 (i : Int) (numI i)) ?_ ?_ 0 (Nat.zero_le _)
    · apply h1; unfold cRank_1; rw [if_neg (by simp), if_pos h]
      refine ⟨⟨by rw [numI_len]; omega, fun x' hx y' hy => ?_⟩, ?_, h.symm, trivial⟩
      · have a1 := numI_mem.1 hx
        have a2 := numI_mem.1 hy
        exact ⟨fun q' hq => (hS q' hq).rat, a1.1, by show x' < ((scoresT p l).length : Int); omega, a2.1, by show y' < ((scoresT p l).length : Int); omega⟩
      · show insT (ltS (scoresT p l)) (numI p.length) ((numI p.length).length - 1) = insT (ltS (scoresT p l)) (numI (scoresT p l).length) ((scoresT p l).length - 1)
        rw [hsl, numI_len]
    · intro i hi ih
      apply h1; unfold cRank_1; rw [if_pos (by simpa using hi)]
      exact ⟨by rw [numI_len]; simp only [List.length_cons, List.length_nil]; omega, inI_succ hi (by omega), ih⟩
  · rw [if_pos (by simpa using h), if_neg h]
    exact ⟨rfl, rfl, trivial⟩
abbrev cLessR : Con := { A := (.cons tRa (.cons tRa .nil)), R := (.cons .bool .nil), pre := fun x => ratB x.1 ∧ ratB x.2.1, F := fun x => (decide (x.1.1 * x.2.1.2.1 < x.2.1.1 * x.1.2.1), ()) }
def cLessR_0  (a : Rtl) (b : Rtl) (y0 : Bool) : Prop :=
  inI (a.1 * b.2.1) ∧ (inI (b.1 * a.2.1) ∧ ((decide ((a.1 * b.2.1) < (b.1 * a.2.1))) = y0 ∧ True))
theorem cLessR_law (h : ∀ (a : Rtl) (b : Rtl), cLessR.A.wf (a, b, ()) → (ratB a ∧ ratB b) → cLessR_0  a b (decide (a.1 * b.2.1 < b.1 * a.2.1))) : ConOK Go.Proofs.Try.prog 103 cLessR := by
  refine lawL (Γ := []) (Θ := Th) (n := 16) [] trivial (by kernel_rfl) th_ok mix_ok Go.Proofs.Try.func103 (by kernel_rfl) ?_
  intro x hw hp Λ hC
  have h0 := h x.1 x.2.1 hw hp  
  exact Eq.mpr (by kernel_rfl) h0
theorem cLessR_ok : ConOK Go.Proofs.Try.prog 103 cLessR := by
  refine cLessR_law ?_
  intro a b hw hp
  unfold cLessR_0
  have m1 := ratB_mul hp.1 hp.2
  have m2 := ratB_mul hp.2 hp.1
  exact ⟨by unfold inI; omega, by unfold inI; omega, rfl, trivial⟩
abbrev cSuspR : Con := { A := (.cons (.sl tL) (.cons (.sl tTs) .nil)), R := (.cons (.sl .int) (.cons .int .nil)), pre := fun x => True, F := fun x => ((if errT [x.1] x.2.1 = 0 then suspT x.1 x.2.1 else []), errT [x.1] x.2.1, ()) }
def cSuspR_0 (Λ1 : Int → (List Int) → Prop) (Λ2 : Int → (List Int) → Bool → Int → Prop) (p : (List Lin)) (l : (List Tst)) (y0 : (List Int)) (y1 : Int) : Prop :=
  True ∧ (if ((errT [p] l) != (0 : Int)) = true then (([] : List Int) = y0 ∧ (errT [p] l) = y1 ∧ True) else (True ∧ Λ1 (0 : Int) ([] : List Int)))
def cSuspR_1 (Λ1 : Int → (List Int) → Prop) (Λ2 : Int → (List Int) → Bool → Int → Prop) (p : (List Lin)) (l : (List Tst)) (y0 : (List Int)) (y1 : Int)  (i_1 : Int) (out_1 : (List Int)) : Prop :=
  if (decide (i_1 < (List.length ((if errT [p] l = 0 then scoresT p l else [])) : Int))) = true then (True ∧ (if (bif true then (decide ((List.length ((if errT [p] l = 0 then failL p l else [])) : Int) > (0 : Int))) else false) = true then Λ2 i_1 out_1 true (0 : Int) else (out_1 = y0 ∧ (0 : Int) = y1 ∧ True))) else (false = false ∧ (out_1 = y0 ∧ (0 : Int) = y1 ∧ True))
def cSuspR_2 (Λ1 : Int → (List Int) → Prop) (Λ2 : Int → (List Int) → Bool → Int → Prop) (p : (List Lin)) (l : (List Tst)) (y0 : (List Int)) (y1 : Int) (i_1 : Int) (out_1 : (List Int)) (top_2 : Bool) (k_2 : Int) : Prop :=
  if (decide (k_2 < (List.length ((if errT [p] l = 0 then scoresT p l else [])) : Int))) = true then (if top_2 = true then (idx i_1 (List.length ((if errT [p] l = 0 then scoresT p l else [])) : Int) ∧ (idx k_2 (List.length ((if errT [p] l = 0 then scoresT p l else [])) : Int) ∧ ((ratB (List.getD ((if errT [p] l = 0 then scoresT p l else [])) (Int.toNat i_1) tRa.dflt) ∧ ratB (List.getD ((if errT [p] l = 0 then scoresT p l else [])) (Int.toNat k_2) tRa.dflt)) ∧ (True ∧ (inI (k_2 + (1 : Int)) ∧ Λ2 i_1 out_1 (bif true then (!(decide ((List.getD ((if errT [p] l = 0 then scoresT p l else [])) (Int.toNat i_1) tRa.dflt).1 * (List.getD ((if errT [p] l = 0 then scoresT p l else [])) (Int.toNat k_2) tRa.dflt).2.1 < (List.getD ((if errT [p] l = 0 then scoresT p l else [])) (Int.toNat k_2) tRa.dflt).1 * (List.getD ((if errT [p] l = 0 then scoresT p l else [])) (Int.toNat i_1) tRa.dflt).2.1))) else false) (k_2 + (1 : Int))))))) else (false = false ∧ (inI (k_2 + (1 : Int)) ∧ Λ2 i_1 out_1 false (k_2 + (1 : Int))))) else (if top_2 = true then (List.length out_1 + List.length [i_1] ≤ 4294967296 ∧ (inI (i_1 + (1 : Int)) ∧ Λ1 (i_1 + (1 : Int)) (out_1 ++ [i_1]))) else (inI (i_1 + (1 : Int)) ∧ Λ1 (i_1 + (1 : Int)) out_1))
theorem cSuspR_law (h : ∀ (p : (List Lin)) (l : (List Tst)), cSuspR.A.wf (p, l, ()) → ∀ (Λ1 : Int → (List Int) → Prop) (Λ2 : Int → (List Int) → Bool → Int → Prop), (∀ (i_1 : Int) (out_1 : (List Int)), cSuspR_1 Λ1 Λ2 p l (if errT [p] l = 0 then suspT p l else []) (errT [p] l) i_1 out_1 → Λ1 i_1 out_1) → (∀ (i_1 : Int) (out_1 : (List Int)) (top_2 : Bool) (k_2 : Int), cSuspR_2 Λ1 Λ2 p l (if errT [p] l = 0 then suspT p l else []) (errT [p] l) i_1 out_1 top_2 k_2 → Λ2 i_1 out_1 top_2 k_2) → cSuspR_0 Λ1 Λ2 p l (if errT [p] l = 0 then suspT p l else []) (errT [p] l)) : ConOK Go.Proofs.Try.prog 58 cSuspR := by
  refine lawL (Γ := [(36, cFailingR), (103, cLessR), (20, cScoresR)]) (Θ := Th) (n := 65) [([1, 1, 1, 1, 1, 0, 1, 0], ⟨[(6, true), (8, true), (10, true), (11, true)], [(10, true)]⟩), ([1, 1, 1, 1, 1, 0, 1, 0, 0, 1, 0, 0, 1, 0, 1, 0], ⟨[(6, true), (8, true), (10, true), (11, true), (12, true), (13, true), (34, true), (35, true), (36, true)], [(10, true)]⟩)] ⟨cFailingR_ok, cLessR_ok, cScoresR_ok, trivial⟩ (by kernel_rfl) th_ok mix_ok Go.Proofs.Try.func58 (by kernel_rfl) ?_
  intro x hw hp Λ hC
  have h0 := h x.1 x.2.1 hw (fun i_1 out_1 => Λ [1, 1, 1, 1, 1, 0, 1, 0] ([(6, .d true (.sl tRa) ((if errT [x.1] x.2.1 = 0 then scoresT x.1 x.2.1 else []))), (8, .d true (.sl .int) ((if errT [x.1] x.2.1 = 0 then failL x.1 x.2.1 else []))), (10, .own 10 0), (11, .d true .int i_1)], [(10, .sl true .int out_1)])) (fun i_1 out_1 top_2 k_2 => Λ [1, 1, 1, 1, 1, 0, 1, 0, 0, 1, 0, 0, 1, 0, 1, 0] ([(6, .d true (.sl tRa) ((if errT [x.1] x.2.1 = 0 then scoresT x.1 x.2.1 else []))), (8, .d true (.sl .int) ((if errT [x.1] x.2.1 = 0 then failL x.1 x.2.1 else []))), (10, .own 10 0), (11, .d true .int i_1), (12, .d true .bool top_2), (13, .d true .int k_2), (34, .d true (.sl .int) ((if errT [x.1] x.2.1 = 0 then failL x.1 x.2.1 else []))), (35, .d true .int (List.length ((if errT [x.1] x.2.1 = 0 then failL x.1 x.2.1 else [])) : Int)), (36, .d true .bool (decide ((List.length ((if errT [x.1] x.2.1 = 0 then failL x.1 x.2.1 else [])) : Int) > (0 : Int))))], [(10, .sl true .int out_1)])) (fun i_1 out_1 hb => hC [1, 1, 1, 1, 1, 0, 1, 0] ([(6, .d true (.sl tRa) ((if errT [x.1] x.2.1 = 0 then scoresT x.1 x.2.1 else []))), (8, .d true (.sl .int) ((if errT [x.1] x.2.1 = 0 then failL x.1 x.2.1 else []))), (10, .own 10 0), (11, .d true .int i_1)], [(10, .sl true .int out_1)]) (Eq.mpr (by kernel_rfl) hb)) (fun i_1 out_1 top_2 k_2 hb => hC [1, 1, 1, 1, 1, 0, 1, 0, 0, 1, 0, 0, 1, 0, 1, 0] ([(6, .d true (.sl tRa) ((if errT [x.1] x.2.1 = 0 then scoresT x.1 x.2.1 else []))), (8, .d true (.sl .int) ((if errT [x.1] x.2.1 = 0 then failL x.1 x.2.1 else []))), (10, .own 10 0), (11, .d true .int i_1), (12, .d true .bool top_2), (13, .d true .int k_2), (34, .d true (.sl .int) ((if errT [x.1] x.2.1 = 0 then failL x.1 x.2.1 else []))), (35, .d true .int (List.length ((if errT [x.1] x.2.1 = 0 then failL x.1 x.2.1 else [])) : Int)), (36, .d true .bool (decide ((List.length ((if errT [x.1] x.2.1 = 0 then failL x.1 x.2.1 else [])) : Int) > (0 : Int))))], [(10, .sl true .int out_1)]) (Eq.mpr (by kernel_rfl) hb))
  exact Eq.mpr (by kernel_rfl) h0
theorem cSuspR_ok : ConOK Go.Proofs.Try.prog 58 cSuspR := by
  refine cSuspR_law ?_
  intro p l hw Λ1 Λ2 h1 h2
  unfold cSuspR_0
  refine ⟨trivial, ?_⟩
  by_cases h : errT [p] l = 0
  · rw [if_neg (by simp [h])]
    obtain ⟨e1, e2⟩ := errT_ok h
    have hp8 := (validP_ok e1).1
    have hl8 := (validT_ok e2).1
    have hS := scores_ok (p := p) hl8
    have hsl := scores_len p l
    refine ⟨trivial, ?_⟩
    by_cases hF : failL p l = []
    · apply h1; unfold cSuspR_1
      have hT : suspT p l = [] := by unfold suspT; rw [if_pos hF]
      simp only [if_pos h, hT, hF]
      split <;> simp [h]
    · have hT : suspT p l = suspL (scoresT p l) p.length := by unfold suspT; rw [if_neg hF]
      have hFl : 0 < (failL p l).length := List.length_pos_iff.2 hF
      refine upto (n := p.length) (Q := fun i => Λ1 (i : Int) (suspL (scoresT p l) i)) ?_ ?_ 0 (Nat.zero_le _)
      · apply h1; unfold cSuspR_1
        rw [if_pos h, if_pos h, if_pos h, if_neg (by rw [hsl]; simp), hT]
        exact ⟨rfl, rfl, h.symm, trivial⟩
      · intro i hi ih
        rw [suspL_next] at ih
        have hle := suspL_len (scoresT p l) i
        apply h1; unfold cSuspR_1
        rw [if_pos h, if_pos h, if_pos (by rw [hsl]; simpa using hi)]
        refine ⟨trivial, ?_⟩
        rw [show (bif true then (decide ((List.length (failL p l) : Int) > (0 : Int))) else false) = true by simp; omega, if_pos rfl]
        have fin : ∀ t : Bool, t = topS (scoresT p l) i → Λ2 (i : Int) (suspL (scoresT p l) i) t (((scoresT p l).length : Nat) : Int) := by
          intro t ht
          apply h2; unfold cSuspR_2
          rw [if_pos h, if_neg (by simp)]
          subst ht
          by_cases g : topS (scoresT p l) i = true
          · rw [if_pos g] at ih ⊢
            exact ⟨by simp only [List.length_cons, List.length_nil]; omega, inI_succ hi (by omega), ih⟩
          · rw [if_neg g, List.append_nil] at ih
            rw [if_neg g]
            exact ⟨inI_succ hi (by omega), ih⟩
        have inner : ∀ k, k ≤ (scoresT p l).length → ∀ t : Bool, (t = true ↔ ∀ j, j < k → leQ ((scoresT p l).getD j tRa.dflt) ((scoresT p l).getD i tRa.dflt)) → Λ2 (i : Int) (suspL (scoresT p l) i) t (k : Int) := by
          refine upto ?_ ?_
          · intro t ht
            refine fin t ?_
            rw [Bool.eq_iff_iff, ht, topS_iff, Int.toNat_natCast]
            constructor
            · intro q r hr
              obtain ⟨j, hj, rfl⟩ := List.getElem_of_mem hr
              have := q j hj
              rw [List.getD_eq_getElem?_getD, List.getElem?_eq_getElem hj] at this
              exact this
            · exact fun q j hj => q _ (mem_getD hj)
          · intro k hk ihk t ht
            apply h2; unfold cSuspR_2
            rw [if_pos h, if_pos (by simpa using hk), Int.toNat_natCast, Int.toNat_natCast]
            have mi := hS _ (mem_getD (l := scoresT p l) (d := tRa.dflt) (show i < (scoresT p l).length by omega))
            have mk := hS _ (mem_getD (l := scoresT p l) (d := tRa.dflt) hk)
            cases t with
            | true =>
              rw [if_pos rfl]
              refine ⟨idx_nat (by omega), idx_nat hk, ⟨mi.rat, mk.rat⟩, trivial, inI_succ hk (by omega), ?_⟩
              refine ihk _ ?_
              show (!decide _) = true ↔ _
              rw [Bool.not_eq_true', decide_eq_false_iff_not]
              constructor
              · intro q j hj
                by_cases e : j = k
                · subst e; unfold leQ; omega
                · exact ht.1 rfl j (by omega)
              · intro q
                have := q k (by omega)
                unfold leQ at this; omega
            | false =>
              rw [if_neg (by simp)]
              refine ⟨rfl, inI_succ hk (by omega), ihk _ ?_⟩
              constructor
              · intro q; simp at q
              · intro q; exact ht.2 fun j hj => q j (by omega)
        exact inner 0 (Nat.zero_le _) true ⟨fun _ j hj => by omega, fun _ => rfl⟩
  · rw [if_pos (by simpa using h), if_neg h]
    exact ⟨rfl, rfl, trivial⟩
abbrev cRankR : Con := { A := (.cons (.sl tL) (.cons (.sl tTs) .nil)), R := (.cons (.sl .int) (.cons .int .nil)), pre := fun x => True, F := fun x => ((if errT [x.1] x.2.1 = 0 then rankT x.1 x.2.1 else []), errT [x.1] x.2.1, ()) }
def cRankR_0 (Λ1 : (List Int) → Prop) (Λ2 : (List Int) → Int → Int → Prop) (p : (List Lin)) (l : (List Tst)) (y0 : (List Int)) (y1 : Int) : Prop :=
  True ∧ (if ((errT [p] l) != (0 : Int)) = true then (([] : List Int) = y0 ∧ (errT [p] l) = y1 ∧ True) else Λ1 ([] : List Int))
def cRankR_1 (Λ1 : (List Int) → Prop) (Λ2 : (List Int) → Int → Int → Prop) (p : (List Lin)) (l : (List Tst)) (y0 : (List Int)) (y1 : Int)  (out_1 : (List Int)) : Prop :=
  if (decide ((List.length out_1 : Int) < (List.length p : Int))) = true then Λ2 out_1 (-1 : Int) (0 : Int) else (out_1 = y0 ∧ (0 : Int) = y1 ∧ True)
def cRankR_2 (Λ1 : (List Int) → Prop) (Λ2 : (List Int) → Int → Int → Prop) (p : (List Lin)) (l : (List Tst)) (y0 : (List Int)) (y1 : Int) (out_1 : (List Int)) (best_2 : Int) (i_2 : Int) : Prop :=
  if (decide (i_2 < (List.length ((if errT [p] l = 0 then scoresT p l else [])) : Int))) = true then (out_1.length ≤ 1000000 ∧ (if (!(decide (i_2 ∈ out_1))) = true then (if (decide (best_2 < (0 : Int))) = true then (true = true ∧ (True ∧ (if (bif true then true else false) = true then (inI (i_2 + (1 : Int)) ∧ Λ2 out_1 i_2 (i_2 + (1 : Int))) else (inI (i_2 + (1 : Int)) ∧ Λ2 out_1 best_2 (i_2 + (1 : Int)))))) else (idx best_2 (List.length ((if errT [p] l = 0 then scoresT p l else [])) : Int) ∧ (idx i_2 (List.length ((if errT [p] l = 0 then scoresT p l else [])) : Int) ∧ ((ratB (List.getD ((if errT [p] l = 0 then scoresT p l else [])) (Int.toNat best_2) tRa.dflt) ∧ ratB (List.getD ((if errT [p] l = 0 then scoresT p l else [])) (Int.toNat i_2) tRa.dflt)) ∧ (True ∧ (True ∧ (if (bif true then (bif false then true else (decide ((List.getD ((if errT [p] l = 0 then scoresT p l else [])) (Int.toNat best_2) tRa.dflt).1 * (List.getD ((if errT [p] l = 0 then scoresT p l else [])) (Int.toNat i_2) tRa.dflt).2.1 < (List.getD ((if errT [p] l = 0 then scoresT p l else [])) (Int.toNat i_2) tRa.dflt).1 * (List.getD ((if errT [p] l = 0 then scoresT p l else [])) (Int.toNat best_2) tRa.dflt).2.1))) else false) = true then (inI (i_2 + (1 : Int)) ∧ Λ2 out_1 i_2 (i_2 + (1 : Int))) else (inI (i_2 + (1 : Int)) ∧ Λ2 out_1 best_2 (i_2 + (1 : Int)))))))))) else (false = false ∧ (inI (i_2 + (1 : Int)) ∧ Λ2 out_1 best_2 (i_2 + (1 : Int)))))) else (List.length out_1 + List.length [best_2] ≤ 4294967296 ∧ Λ1 (out_1 ++ [best_2]))
theorem cRankR_law (h : ∀ (p : (List Lin)) (l : (List Tst)), cRankR.A.wf (p, l, ()) → ∀ (Λ1 : (List Int) → Prop) (Λ2 : (List Int) → Int → Int → Prop), (∀ (out_1 : (List Int)), cRankR_1 Λ1 Λ2 p l (if errT [p] l = 0 then rankT p l else []) (errT [p] l) out_1 → Λ1 out_1) → (∀ (out_1 : (List Int)) (best_2 : Int) (i_2 : Int), cRankR_2 Λ1 Λ2 p l (if errT [p] l = 0 then rankT p l else []) (errT [p] l) out_1 best_2 i_2 → Λ2 out_1 best_2 i_2) → cRankR_0 Λ1 Λ2 p l (if errT [p] l = 0 then rankT p l else []) (errT [p] l)) : ConOK Go.Proofs.Try.prog 60 cRankR := by
  refine lawL (Γ := [(63, cHasN), (103, cLessR), (20, cScoresR)]) (Θ := Th) (n := 56) [([1, 1, 1, 1, 0, 0], ⟨[(0, false), (6, true), (8, true)], [(8, true)]⟩), ([1, 1, 1, 1, 0, 0, 0, 1, 0, 1, 0, 1, 0], ⟨[(0, false), (6, true), (8, true), (9, true), (10, true)], [(8, true)]⟩)] ⟨cHasN_ok, cLessR_ok, cScoresR_ok, trivial⟩ (by kernel_rfl) th_ok mix_ok Go.Proofs.Try.func60 (by kernel_rfl) ?_
  intro x hw hp Λ hC
  have h0 := h x.1 x.2.1 hw (fun out_1 => Λ [1, 1, 1, 1, 0, 0] ([(0, .d false (.sl tL) x.1), (6, .d true (.sl tRa) ((if errT [x.1] x.2.1 = 0 then scoresT x.1 x.2.1 else []))), (8, .own 8 0)], [(8, .sl true .int out_1)])) (fun out_1 best_2 i_2 => Λ [1, 1, 1, 1, 0, 0, 0, 1, 0, 1, 0, 1, 0] ([(0, .d false (.sl tL) x.1), (6, .d true (.sl tRa) ((if errT [x.1] x.2.1 = 0 then scoresT x.1 x.2.1 else []))), (8, .own 8 0), (9, .d true .int best_2), (10, .d true .int i_2)], [(8, .sl true .int out_1)])) (fun out_1 hb => hC [1, 1, 1, 1, 0, 0] ([(0, .d false (.sl tL) x.1), (6, .d true (.sl tRa) ((if errT [x.1] x.2.1 = 0 then scoresT x.1 x.2.1 else []))), (8, .own 8 0)], [(8, .sl true .int out_1)]) (Eq.mpr (by kernel_rfl) hb)) (fun out_1 best_2 i_2 hb => hC [1, 1, 1, 1, 0, 0, 0, 1, 0, 1, 0, 1, 0] ([(0, .d false (.sl tL) x.1), (6, .d true (.sl tRa) ((if errT [x.1] x.2.1 = 0 then scoresT x.1 x.2.1 else []))), (8, .own 8 0), (9, .d true .int best_2), (10, .d true .int i_2)], [(8, .sl true .int out_1)]) (Eq.mpr (by kernel_rfl) hb))
  exact Eq.mpr (by kernel_rfl) h0
theorem cRankR_ok : ConOK Go.Proofs.Try.prog 60 cRankR := by
  refine cRankR_law ?_
  intro p l hw Λ1 Λ2 h1 h2
  unfold cRankR_0
  refine ⟨trivial, ?_⟩
  by_cases h : errT [p] l = 0
  · rw [if_neg (by simp [h])]
    obtain ⟨e1, e2⟩ := errT_ok h
    have hp8 := (validP_ok e1).1
    have hl8 := (validT_ok e2).1
    have hS := scores_ok (p := p) hl8
    have hsl := scores_len p l
    refine upto (n := p.length) (Q := fun i => Λ1 (selT (scoresT p l) i)) ?_ ?_ 0 (Nat.zero_le _)
    · apply h1; unfold cRankR_1
      rw [selT_len, if_neg (by simp), if_pos h]
      refine ⟨?_, h.symm, trivial⟩
      unfold rankT
      rw [← selT_rank hS, hsl]
    · intro k hk ih
      have sl := selT_len (scoresT p l) k
      apply h1; unfold cRankR_1
      rw [sl, if_pos (by simpa using hk)]
      refine upto (n := (scoresT p l).length) (Q := fun i => Λ2 (selT (scoresT p l) k) (bestTo (scoresT p l) (selT (scoresT p l) k) i) (i : Int)) ?_ ?_ 0 (Nat.zero_le _)
      · apply h2; unfold cRankR_2
        rw [if_pos h, if_neg (by simp)]
        exact ⟨by simp only [List.length_cons, List.length_nil]; omega, ih⟩
      · intro i hi ihi
        apply h2; unfold cRankR_2
        rw [if_pos h, if_pos (by simpa using hi), Int.toNat_natCast]
        refine ⟨by omega, ?_⟩
        have bo := bestTo_ok hS (selT (scoresT p l) k) i (by omega)
        have mi := hS _ (mem_getD (l := scoresT p l) (d := tRa.dflt) hi)
        unfold bestTo at ihi
        by_cases g : (i : Int) ∈ selT (scoresT p l) k
        · rw [if_neg (by simp [g])]
          rw [if_neg (fun q => q.1 g)] at ihi
          exact ⟨rfl, inI_succ hi (by omega), ihi⟩
        · rw [if_pos (by simp [g])]
          by_cases b : bestTo (scoresT p l) (selT (scoresT p l) k) i < 0
          · rw [if_pos (by simpa using b)]
            rw [if_pos ⟨g, .inl b⟩] at ihi
            refine ⟨rfl, trivial, ?_⟩
            rw [if_pos (by rfl)]
            exact ⟨inI_succ hi (by omega), ihi⟩
          · rw [if_neg (by simpa using b)]
            have bl : bestTo (scoresT p l) (selT (scoresT p l) k) i < i := by
              rcases bo with q | q
              · omega
              · exact q.2.1
            have mb := hS _ (mem_getD (l := scoresT p l) (d := tRa.dflt) (i := (bestTo (scoresT p l) (selT (scoresT p l) k) i).toNat) (by omega))
            refine ⟨⟨by omega, by omega⟩, idx_nat hi, ⟨mb.rat, mi.rat⟩, trivial, trivial, ?_⟩
            by_cases c : (List.getD (scoresT p l) (bestTo (scoresT p l) (selT (scoresT p l) k) i).toNat tRa.dflt).1 * (List.getD (scoresT p l) i tRa.dflt).2.1 < (List.getD (scoresT p l) i tRa.dflt).1 * (List.getD (scoresT p l) (bestTo (scoresT p l) (selT (scoresT p l) k) i).toNat tRa.dflt).2.1
            · rw [if_pos ⟨g, .inr c⟩] at ihi
              rw [if_pos (by simpa using c)]
              exact ⟨inI_succ hi (by omega), ihi⟩
            · rw [if_neg (fun q => q.2.elim b c)] at ihi
              rw [if_neg (by simpa using c)]
              exact ⟨inI_succ hi (by omega), ihi⟩
  · rw [if_pos (by simpa using h), if_neg h]
    exact ⟨rfl, rfl, trivial⟩
abbrev cRanksL : Con := { A := (.cons (.sl tL) (.cons (.sl tTs) .nil)), R := (.cons .bool .nil), pre := fun x => True, F := fun x => (true, ()) }
def cRanksL_0  (p : (List Lin)) (l : (List Tst)) (y0 : Bool) : Prop :=
  True ∧ (if (decide (100 < p.length)) = true then (true = true ∧ (True ∧ (true = y0 ∧ True))) else (True ∧ (True ∧ (if (bif false then true else (decide (l.length > 50) || l.any (fun t' => decide (100 < t'.1.length)))) = true then (True ∧ (true = y0 ∧ True)) else (True ∧ (True ∧ (True ∧ (True ∧ (((if errT [p] l = 0 then suspT p l else [])).length ≤ 1000000 ∧ (if (!(decide (((if errT [p] l = 0 then suspT p l else [])) = ((if errT [p] l = 0 then suspT p l else []))))) = true then (true = true ∧ (true = true ∧ (true = true ∧ (false = y0 ∧ True)))) else (True ∧ (if (bif false then true else ((errT [p] l) != (errT [p] l))) = true then (true = true ∧ (true = true ∧ (false = y0 ∧ True))) else (((if errT [p] l = 0 then rankT p l else [])).length ≤ 1000000 ∧ (True ∧ (if (bif false then true else (!(decide (((if errT [p] l = 0 then rankT p l else [])) = ((if errT [p] l = 0 then rankT p l else [])))))) = true then (true = true ∧ (false = y0 ∧ True)) else (True ∧ (if (bif false then true else ((errT [p] l) != (errT [p] l))) = true then (false = y0 ∧ True) else (if ((List.length ((if errT [p] l = 0 then suspT p l else [])) : Int) == (0 : Int)) = true then (true = true ∧ (True ∧ (True ∧ ((bif true then true else false) = y0 ∧ True)))) else ((0 ≤ (0 : Int) ∧ (0 : Int) ≤ (List.length ((if errT [p] l = 0 then suspT p l else [])) : Int) ∧ (List.length ((if errT [p] l = 0 then suspT p l else [])) : Int) ≤ (List.length ((if errT [p] l = 0 then rankT p l else [])) : Int) ∧ (List.length ((if errT [p] l = 0 then rankT p l else [])) : Int) ≤ (List.length ((if errT [p] l = 0 then rankT p l else [])) : Int)) ∧ (((if errT [p] l = 0 then suspT p l else [])).length ≤ 1000000 ∧ (True ∧ (if (bif false then true else (decide (((if errT [p] l = 0 then suspT p l else [])) = (List.drop (Int.toNat (0 : Int)) (List.take (Int.toNat (List.length ((if errT [p] l = 0 then suspT p l else [])) : Int)) ((if errT [p] l = 0 then rankT p l else []))))))) = true then (True ∧ (True ∧ ((bif true then true else false) = y0 ∧ True))) else (false = false ∧ (false = y0 ∧ True))))))))))))))))))))))))
theorem cRanksL_law (h : ∀ (p : (List Lin)) (l : (List Tst)), cRanksL.A.wf (p, l, ()) → cRanksL_0  p l true) : ConOK Go.Proofs.Try.prog 15 cRanksL := by
  refine lawL (Γ := [(18, cKnown2), (16, cLongL), (17, cMany), (59, cRank), (60, cRankR), (32, cSameIntsR), (57, cSusp), (58, cSuspR)]) (Θ := Th) (n := 78) [] ⟨cKnown2_ok, cLongL_ok, cMany_ok, cRank_ok, cRankR_ok, cSameIntsR_ok, cSusp_ok, cSuspR_ok, trivial⟩ (by kernel_rfl) th_ok mix_ok Go.Proofs.Try.func15 (by kernel_rfl) ?_
  intro x hw hp Λ hC
  have h0 := h x.1 x.2.1 hw  
  exact Eq.mpr (by kernel_rfl) h0
theorem cRanksL_ok : ConOK Go.Proofs.Try.prog 15 cRanksL := by
  refine cRanksL_law ?_
  intro p l hw
  unfold cRanksL_0
  have hr : (if errT [p] l = 0 then rankT p l else []).length ≤ 1000000 ∧ (if errT [p] l = 0 then suspT p l else []).length ≤ (if errT [p] l = 0 then rankT p l else []).length ∧ List.take (if errT [p] l = 0 then suspT p l else []).length (if errT [p] l = 0 then rankT p l else []) = (if errT [p] l = 0 then suspT p l else []) := by
    by_cases h : errT [p] l = 0
    · rw [if_pos h, if_pos h]
      obtain ⟨e1, e2⟩ := errT_ok h
      have hp8 := (validP_ok e1).1
      have hl8 := (validT_ok e2).1
      have hS := scores_ok (p := p) hl8
      have hsl := scores_len p l
      have hrl : (rankT p l).length = p.length := by unfold rankT rankL; rw [insT_len, numI_len, hsl]
      unfold suspT
      split
      · simp [hrl]; omega
      · have := suspL_len (scoresT p l) p.length
        refine ⟨by omega, by omega, ?_⟩
        have := susp_rank hS
        rw [hsl] at this
        exact this
    · rw [if_neg h, if_neg h]; simp
  generalize (if errT [p] l = 0 then rankT p l else []) = c at hr ⊢
  generalize (if errT [p] l = 0 then suspT p l else []) = a at hr ⊢
  obtain ⟨r1, r2, r3⟩ := hr
  by_cases c1 : 100 < p.length
  · simp [c1]
  cases c2 : (decide (l.length > 50) || l.any (fun t' => decide (100 < t'.1.length)))
  · have k1 : a.length ≤ 1000000 := by omega
    simp [c1, c2, k1, r1, r2, r3]
  · simp [c1, c2]
end Go.Tk
