import Derived.Test.YtolbkaphghjeeaaC2t
import Derived.Test.YtolbkaphghjeeaaC0
set_option linter.unusedSimpArgs false
set_option linter.unusedVariables false
namespace Go.Tk
open Go Go.RowKit

abbrev cIndexN : Con := { A := (.cons (.sl .int) (.cons .int .nil)), R := (.cons .int .nil), pre := fun x => True, F := fun x => (idxF (fun r' => x.2.1 == r') x.1, ()) }
def cIndexN_0 (Λ1 : Int → Prop) (s : (List Int)) (v : Int) (y0 : Int) : Prop :=
  Λ1 (0 : Int)
def cIndexN_1 (Λ1 : Int → Prop) (s : (List Int)) (v : Int) (y0 : Int)  (t8_1 : Int) : Prop :=
  if (decide (t8_1 < (List.length s : Int))) = true then (idx t8_1 (List.length s : Int) ∧ (if (v == (List.getD s (Int.toNat t8_1) 0)) = true then (t8_1 = y0 ∧ True) else (inI (t8_1 + (1 : Int)) ∧ Λ1 (t8_1 + (1 : Int))))) else ((-1 : Int) = y0 ∧ True)
theorem cIndexN_law (h : ∀ (s : (List Int)) (v : Int), cIndexN.A.wf (s, v, ()) → ∀ (Λ1 : Int → Prop), (∀ (t8_1 : Int), cIndexN_1 Λ1 s v (idxF (fun r' => v == r') s) t8_1 → Λ1 t8_1) → cIndexN_0 Λ1 s v (idxF (fun r' => v == r') s)) : ConOK Go.Proofs.Try.prog 126 cIndexN := by
  refine lawL (Γ := []) (Θ := Th) (n := 19) [([1, 0, 1, 0], ⟨[(0, false), (1, false), (7, true), (8, true)], []⟩)] trivial (by kernel_rfl) th_ok mix_ok Go.Proofs.Try.func126 (by kernel_rfl) ?_
  intro x hw hp Λ hC
  have h0 := h x.1 x.2.1 hw (fun t8_1 => Λ [1, 0, 1, 0] ([(0, .d false (.sl .int) x.1), (1, .d false .int x.2.1), (7, .d true .int (List.length x.1 : Int)), (8, .d true .int t8_1)], [])) (fun t8_1 hb => hC [1, 0, 1, 0] ([(0, .d false (.sl .int) x.1), (1, .d false .int x.2.1), (7, .d true .int (List.length x.1 : Int)), (8, .d true .int t8_1)], []) (Eq.mpr (by kernel_rfl) hb))
  exact Eq.mpr (by kernel_rfl) h0
theorem cIndexN_ok : ConOK Go.Proofs.Try.prog 126 cIndexN := by
  refine cIndexN_law ?_
  intro s v hw Λ1 h1
  unfold cIndexN_0
  refine upto (n := s.length) (Q := fun i => (s.take i).any (fun r => v == r) = false → Λ1 i) ?_ ?_ 0 (Nat.zero_le _) rfl
  · intro ha
    rw [List.take_length] at ha
    apply h1; unfold cIndexN_1; rw [if_neg (by simp), idxF_none ha]
    exact ⟨rfl, trivial⟩
  · intro i hi ih ha
    apply h1; unfold cIndexN_1; rw [if_pos (by simpa using hi), Int.toNat_natCast]
    refine ⟨idx_nat hi, ?_⟩
    cases hv : (v == List.getD s i 0)
    · rw [if_neg (by simp)]
      exact ⟨inI_succ hi hw.1.1, ih (any_take_next (p := fun r => v == r) 0 hi ha hv)⟩
    · rw [if_pos (by rfl), idxF_at (p := fun r => v == r) 0 hi ha hv]
      exact ⟨rfl, trivial⟩
abbrev cContN : Con := { A := (.cons (.sl .int) (.cons .int .nil)), R := (.cons .bool .nil), pre := fun x => True, F := fun x => (decide (x.2.1 ∈ x.1), ()) }
def cContN_0  (s : (List Int)) (v : Int) (y0 : Bool) : Prop :=
  True ∧ ((decide ((idxF (fun r' => v == r') s) ≥ (0 : Int))) = y0 ∧ True)
theorem cContN_law (h : ∀ (s : (List Int)) (v : Int), cContN.A.wf (s, v, ()) → cContN_0  s v (decide (v ∈ s))) : ConOK Go.Proofs.Try.prog 108 cContN := by
  refine lawL (Γ := [(126, cIndexN)]) (Θ := Th) (n := 9) [] ⟨cIndexN_ok, trivial⟩ (by kernel_rfl) th_ok mix_ok Go.Proofs.Try.func108 (by kernel_rfl) ?_
  intro x hw hp Λ hC
  have h0 := h x.1 x.2.1 hw  
  exact Eq.mpr (by kernel_rfl) h0
theorem cContN_ok : ConOK Go.Proofs.Try.prog 108 cContN := by
  refine cContN_law ?_
  intro s v hw
  unfold cContN_0
  refine ⟨trivial, ?_, trivial⟩
  rw [idxF_any, Bool.eq_iff_iff]
  simp
abbrev cHasN : Con := { A := (.cons (.sl .int) (.cons .int .nil)), R := (.cons .bool .nil), pre := fun x => x.1.length ≤ 1000000, F := fun x => (decide (x.2.1 ∈ x.1), ()) }
def cHasN_0 (Λ1 : Int → Prop) (l : (List Int)) (n : Int) (y0 : Bool) : Prop :=
  Λ1 (0 : Int)
def cHasN_1 (Λ1 : Int → Prop) (l : (List Int)) (n : Int) (y0 : Bool)  (i_1 : Int) : Prop :=
  if (decide (i_1 < (List.length l : Int))) = true then (idx i_1 (List.length l : Int) ∧ (if ((List.getD l (Int.toNat i_1) 0) == n) = true then (true = y0 ∧ True) else (inI (i_1 + (1 : Int)) ∧ Λ1 (i_1 + (1 : Int))))) else (false = y0 ∧ True)
theorem cHasN_law (h : ∀ (l : (List Int)) (n : Int), cHasN.A.wf (l, n, ()) → (l.length ≤ 1000000) → ∀ (Λ1 : Int → Prop), (∀ (i_1 : Int), cHasN_1 Λ1 l n (decide (n ∈ l)) i_1 → Λ1 i_1) → cHasN_0 Λ1 l n (decide (n ∈ l))) : ConOK Go.Proofs.Try.prog 63 cHasN := by
  refine lawL (Γ := []) (Θ := Th) (n := 18) [([1, 0, 1, 0], ⟨[(0, false), (1, false), (5, true)], []⟩)] trivial (by kernel_rfl) th_ok mix_ok Go.Proofs.Try.func63 (by kernel_rfl) ?_
  intro x hw hp Λ hC
  have h0 := h x.1 x.2.1 hw hp (fun i_1 => Λ [1, 0, 1, 0] ([(0, .d false (.sl .int) x.1), (1, .d false .int x.2.1), (5, .d true .int i_1)], [])) (fun i_1 hb => hC [1, 0, 1, 0] ([(0, .d false (.sl .int) x.1), (1, .d false .int x.2.1), (5, .d true .int i_1)], []) (Eq.mpr (by kernel_rfl) hb))
  exact Eq.mpr (by kernel_rfl) h0
theorem cHasN_ok : ConOK Go.Proofs.Try.prog 63 cHasN := by
  refine cHasN_law ?_
  intro l n hw hp Λ1 h1
  unfold cHasN_0
  refine upto (n := l.length) (Q := fun i => (l.take i).any (fun r => r == n) = false → Λ1 i) ?_ ?_ 0 (Nat.zero_le _) rfl
  · intro ha
    rw [List.take_length] at ha
    apply h1; unfold cHasN_1; rw [if_neg (by simp)]
    refine ⟨?_, trivial⟩
    have : ¬ n ∈ l := fun h => by
      have := List.any_eq_false.1 ha n h
      simp at this
    simp [this]
  · intro i hi ih ha
    apply h1; unfold cHasN_1; rw [if_pos (by simpa using hi), Int.toNat_natCast]
    refine ⟨idx_nat hi, ?_⟩
    cases hv : (List.getD l i 0 == n)
    · rw [if_neg (by simp)]
      exact ⟨inI_succ hi (by omega), ih (any_take_next (p := fun r => r == n) 0 hi ha hv)⟩
    · rw [if_pos (by rfl)]
      have : n ∈ l := by
        have e := eq_of_beq hv
        rw [← e]; exact mem_getD hi
      exact ⟨by simp [this], trivial⟩
abbrev cRatio : Con := { A := (.cons .int (.cons .int .nil)), R := (.cons tRa .nil), pre := fun x => 0 ≤ x.1 ∧ 0 < x.2.1 ∧ x.1 ≤ 1000000 ∧ x.2.1 ≤ 1000000, F := fun x => (ratioQ x.1 x.2.1, ()) }
def cRatio_0 (Λ1 : Int → Int → Prop) (num : Int) (den : Int) (y0 : Rtl) : Prop :=
  Λ1 num den
def cRatio_1 (Λ1 : Int → Int → Prop) (num : Int) (den : Int) (y0 : Rtl)  (a_1 : Int) (b_1 : Int) : Prop :=
  if (b_1 != (0 : Int)) = true then ((b_1 ≠ 0 ∧ inI (Int.tmod a_1 b_1)) ∧ Λ1 b_1 (Int.tmod a_1 b_1)) else ((a_1 ≠ 0 ∧ inI (Int.tdiv num a_1)) ∧ ((a_1 ≠ 0 ∧ inI (Int.tdiv den a_1)) ∧ (((Int.tdiv num a_1), (Int.tdiv den a_1), ()) = y0 ∧ True)))
theorem cRatio_law (h : ∀ (num : Int) (den : Int), cRatio.A.wf (num, den, ()) → (0 ≤ num ∧ 0 < den ∧ num ≤ 1000000 ∧ den ≤ 1000000) → ∀ (Λ1 : Int → Int → Prop), (∀ (a_1 : Int) (b_1 : Int), cRatio_1 Λ1 num den (ratioQ num den) a_1 b_1 → Λ1 a_1 b_1) → cRatio_0 Λ1 num den (ratioQ num den)) : ConOK Go.Proofs.Try.prog 109 cRatio := by
  refine lawL (Γ := []) (Θ := Th) (n := 22) [([1, 1, 0, 0], ⟨[(0, false), (1, false), (4, true), (5, false), (6, false)], [(4, true)]⟩)] trivial (by kernel_rfl) th_ok mix_ok Go.Proofs.Try.func109 (by kernel_rfl) ?_
  intro x hw hp Λ hC
  have h0 := h x.1 x.2.1 hw hp (fun a_1 b_1 => Λ [1, 1, 0, 0] ([(0, .d false .int x.1), (1, .d false .int x.2.1), (4, .ptr 4 0 []), (5, .d false .int a_1), (6, .d false .int b_1)], [(4, .box true tRa tRa.dflt)])) (fun a_1 b_1 hb => hC [1, 1, 0, 0] ([(0, .d false .int x.1), (1, .d false .int x.2.1), (4, .ptr 4 0 []), (5, .d false .int a_1), (6, .d false .int b_1)], [(4, .box true tRa tRa.dflt)]) (Eq.mpr (by kernel_rfl) hb))
  exact Eq.mpr (by kernel_rfl) h0
theorem cRatio_ok : ConOK Go.Proofs.Try.prog 109 cRatio := by
  refine cRatio_law ?_
  intro num den hw hp Λ1 h1
  unfold cRatio_0
  obtain ⟨p1, p2, p3, p4⟩ := hp
  have gpos : 0 < Int.gcd num den := by
    have := Int.gcd_pos_of_ne_zero_right num (show den ≠ 0 by omega); omega
  obtain ⟨N, rfl⟩ := Int.eq_ofNat_of_zero_le p1
  obtain ⟨D, rfl⟩ := Int.eq_ofNat_of_zero_le (show 0 ≤ den by omega)
  have key : ∀ k A B : Nat, B ≤ k → A ≤ 1000000 → B ≤ 1000000 → Nat.gcd A B = Int.gcd (N : Int) D → Λ1 (A : Int) B := by
    intro k
    induction k with
    | zero =>
      intro A B h0 hA hB hg
      have : B = 0 := by omega
      subst this
      rw [Nat.gcd_zero_right] at hg
      apply h1; unfold cRatio_1; rw [if_neg (by simp)]
      have hA0 : (A : Int) ≠ 0 := by omega
      have q1 : Int.tdiv (N : Int) A = (N : Int) / A := Int.tdiv_eq_ediv_of_nonneg (by omega)
      have q2 : Int.tdiv (D : Int) A = (D : Int) / A := Int.tdiv_eq_ediv_of_nonneg (by omega)
      have b1 : (N : Int) / A ≤ N := Int.ediv_le_self _ (by omega)
      have b2 : (D : Int) / A ≤ D := Int.ediv_le_self _ (by omega)
      have c1 : 0 ≤ (N : Int) / A := Int.ediv_nonneg (by omega) (by omega)
      have c2 : 0 ≤ (D : Int) / A := Int.ediv_nonneg (by omega) (by omega)
      rw [q1, q2]
      refine ⟨⟨hA0, by unfold inI; omega⟩, ⟨hA0, by unfold inI; omega⟩, ?_, trivial⟩
      unfold ratioQ
      rw [← hg]
    | succ k ih =>
      intro A B h0 hA hB hg
      by_cases hb : B = 0
      · subst hb; exact ih A 0 (by omega) hA (by omega) hg
      apply h1; unfold cRatio_1; rw [if_pos (by simpa using hb)]
      have q : Int.tmod (A : Int) B = ((A % B : Nat) : Int) := by rw [Int.tmod_eq_emod_of_nonneg (by omega)]; rfl
      have hlt := Nat.mod_lt A (show 0 < B by omega)
      rw [q]
      refine ⟨⟨by omega, by unfold inI; omega⟩, ih B (A % B) (by omega) hB (by omega) ?_⟩
      rw [← hg, Nat.gcd_comm A B, Nat.gcd_rec B A, Nat.gcd_comm]
  exact key D N D (Nat.le_refl _) (by omega) (by omega) rfl
abbrev cRatioR : Con := { A := (.cons .int (.cons .int .nil)), R := (.cons tRa .nil), pre := fun x => 0 ≤ x.1 ∧ 0 < x.2.1 ∧ x.1 ≤ 1000000 ∧ x.2.1 ≤ 1000000, F := fun x => (ratioQ x.1 x.2.1, ()) }
def cRatioR_0 (Λ1 : Int → Int → Prop) (n : Int) (d : Int) (y0 : Rtl) : Prop :=
  Λ1 n d
def cRatioR_1 (Λ1 : Int → Int → Prop) (n : Int) (d : Int) (y0 : Rtl)  (a_1 : Int) (b_1 : Int) : Prop :=
  if (b_1 != (0 : Int)) = true then ((b_1 ≠ 0 ∧ inI (Int.tmod a_1 b_1)) ∧ Λ1 b_1 (Int.tmod a_1 b_1)) else ((a_1 ≠ 0 ∧ inI (Int.tdiv n a_1)) ∧ ((a_1 ≠ 0 ∧ inI (Int.tdiv d a_1)) ∧ (((Int.tdiv n a_1), (Int.tdiv d a_1), ()) = y0 ∧ True)))
theorem cRatioR_law (h : ∀ (n : Int) (d : Int), cRatioR.A.wf (n, d, ()) → (0 ≤ n ∧ 0 < d ∧ n ≤ 1000000 ∧ d ≤ 1000000) → ∀ (Λ1 : Int → Int → Prop), (∀ (a_1 : Int) (b_1 : Int), cRatioR_1 Λ1 n d (ratioQ n d) a_1 b_1 → Λ1 a_1 b_1) → cRatioR_0 Λ1 n d (ratioQ n d)) : ConOK Go.Proofs.Try.prog 64 cRatioR := by
  refine lawL (Γ := []) (Θ := Th) (n := 22) [([1, 1, 0, 0], ⟨[(0, false), (1, false), (4, true), (5, false), (6, false)], [(4, true)]⟩)] trivial (by kernel_rfl) th_ok mix_ok Go.Proofs.Try.func64 (by kernel_rfl) ?_
  intro x hw hp Λ hC
  have h0 := h x.1 x.2.1 hw hp (fun a_1 b_1 => Λ [1, 1, 0, 0] ([(0, .d false .int x.1), (1, .d false .int x.2.1), (4, .ptr 4 0 []), (5, .d false .int a_1), (6, .d false .int b_1)], [(4, .box true tRa tRa.dflt)])) (fun a_1 b_1 hb => hC [1, 1, 0, 0] ([(0, .d false .int x.1), (1, .d false .int x.2.1), (4, .ptr 4 0 []), (5, .d false .int a_1), (6, .d false .int b_1)], [(4, .box true tRa tRa.dflt)]) (Eq.mpr (by kernel_rfl) hb))
  exact Eq.mpr (by kernel_rfl) h0
theorem cRatioR_ok : ConOK Go.Proofs.Try.prog 64 cRatioR := by
  refine cRatioR_law ?_
  intro n d hw hp Λ1 h1
  unfold cRatioR_0
  obtain ⟨p1, p2, p3, p4⟩ := hp
  have gpos : 0 < Int.gcd n d := by
    have := Int.gcd_pos_of_ne_zero_right n (show d ≠ 0 by omega); omega
  obtain ⟨N, rfl⟩ := Int.eq_ofNat_of_zero_le p1
  obtain ⟨D, rfl⟩ := Int.eq_ofNat_of_zero_le (show 0 ≤ d by omega)
  have key : ∀ k A B : Nat, B ≤ k → A ≤ 1000000 → B ≤ 1000000 → Nat.gcd A B = Int.gcd (N : Int) D → Λ1 (A : Int) B := by
    intro k
    induction k with
    | zero =>
      intro A B h0 hA hB hg
      have : B = 0 := by omega
      subst this
      rw [Nat.gcd_zero_right] at hg
      apply h1; unfold cRatioR_1; rw [if_neg (by simp)]
      have hA0 : (A : Int) ≠ 0 := by omega
      have q1 : Int.tdiv (N : Int) A = (N : Int) / A := Int.tdiv_eq_ediv_of_nonneg (by omega)
      have q2 : Int.tdiv (D : Int) A = (D : Int) / A := Int.tdiv_eq_ediv_of_nonneg (by omega)
      have b1 : (N : Int) / A ≤ N := Int.ediv_le_self _ (by omega)
      have b2 : (D : Int) / A ≤ D := Int.ediv_le_self _ (by omega)
      have c1 : 0 ≤ (N : Int) / A := Int.ediv_nonneg (by omega) (by omega)
      have c2 : 0 ≤ (D : Int) / A := Int.ediv_nonneg (by omega) (by omega)
      rw [q1, q2]
      refine ⟨⟨hA0, by unfold inI; omega⟩, ⟨hA0, by unfold inI; omega⟩, ?_, trivial⟩
      unfold ratioQ
      rw [← hg]
    | succ k ih =>
      intro A B h0 hA hB hg
      by_cases hb : B = 0
      · subst hb; exact ih A 0 (by omega) hA (by omega) hg
      apply h1; unfold cRatioR_1; rw [if_pos (by simpa using hb)]
      have q : Int.tmod (A : Int) B = ((A % B : Nat) : Int) := by rw [Int.tmod_eq_emod_of_nonneg (by omega)]; rfl
      have hlt := Nat.mod_lt A (show 0 < B by omega)
      rw [q]
      refine ⟨⟨by omega, by unfold inI; omega⟩, ih B (A % B) (by omega) hB (by omega) ?_⟩
      rw [← hg, Nat.gcd_comm A B, Nat.gcd_rec B A, Nat.gcd_comm]
  exact key D N D (Nat.le_refl _) (by omega) (by omega) rfl
abbrev cScores1 : Con := { A := (.cons tTs (.cons (.ref (.sl tL)) .nil)), R := (.cons .bool .nil), pre := fun x => validP x.2.1 = 0 ∧ isTst x.1 = true, F := fun x => (!(passT x.2.1 x.1), ()) }
def cScores1_0  (t : Tst) (c0 : (List Lin)) (y0 : Bool) : Prop :=
  (validP c0 = 0 ∧ isTst t = true) ∧ ((!(passT c0 t)) = y0 ∧ True)
theorem cScores1_law (h : ∀ (t : Tst) (c0 : (List Lin)), cScores1.A.wf (t, c0, ()) → (validP c0 = 0 ∧ isTst t = true) → cScores1_0  t c0 (!(passT c0 t))) : ConOK Go.Proofs.Try.prog 106 cScores1 := by
  refine lawL (Γ := [(70, cPassT)]) (Θ := Th) (n := 8) [] ⟨cPassT_ok, trivial⟩ (by kernel_rfl) th_ok mix_ok Go.Proofs.Try.func106 (by kernel_rfl) ?_
  intro x hw hp Λ hC
  have h0 := h x.1 x.2.1 hw hp  
  exact Eq.mpr (by kernel_rfl) h0
theorem cScores1_ok : ConOK Go.Proofs.Try.prog 106 cScores1 := by
  refine cScores1_law ?_
  intro t c0 hw hp
  unfold cScores1_0
  exact ⟨hp, rfl, trivial⟩
abbrev cScores0 : Con := { A := (.cons (.sl tL) (.cons (.sl tTs) .nil)), R := (.cons (.osl tRa) (.cons .bool .nil)), pre := fun x => validP x.1 = 0 ∧ validT x.2.1 = 0, F := fun x => (scoresT x.1 x.2.1, decide (failL x.1 x.2.1 ≠ []), ()) }
def cScores0_0 (Λ1 : Int → (List Rtl) → Prop) (Λ2 : (List Rtl) → Int → Int → Int → Int → Prop) (p : (List Lin)) (l : (List Tst)) (y0 : (List Rtl)) (y1 : Bool) : Prop :=
  (l.length ≤ 1000000 ∧ ∀ t' ∈ l, tTs.wf t' → (fun (xx : (Tst × Unit)) => validP p = 0 ∧ isTst xx.1 = true, fun (xx : (Tst × Unit)) => (!(passT p xx.1), ())).1 (t', ())) ∧ ((validP p = 0 ∧ validT l = 0) ∧ (([(0, 1, ())].length = 1 ∧ 0 ≤ (List.length p : Int) ∧ (List.length p : Int) ≤ 1000) ∧ (if ((List.length (whereL (fun t' => ((fun (xx : (Tst × Unit)) => validP p = 0 ∧ isTst xx.1 = true, fun (xx : (Tst × Unit)) => (!(passT p xx.1), ())).2 (t', ())).1) l) : Int) == (0 : Int)) = true then (false = y1 ∧ (List.replicate (Int.toNat (List.length p : Int)) (List.getD [(0, 1, ())] 0 tRa.dflt)) = y0) else Λ1 (0 : Int) (List.replicate (Int.toNat (List.length p : Int)) (List.getD [(0, 1, ())] 0 tRa.dflt)))))
def cScores0_1 (Λ1 : Int → (List Rtl) → Prop) (Λ2 : (List Rtl) → Int → Int → Int → Int → Prop) (p : (List Lin)) (l : (List Tst)) (y0 : (List Rtl)) (y1 : Bool)  (t31_1 : Int) (out_1 : (List Rtl)) : Prop :=
  if (decide (t31_1 < (List.length p : Int))) = true then Λ2 out_1 t31_1 (0 : Int) (0 : Int) (0 : Int) else (true = y1 ∧ out_1 = y0)
def cScores0_2 (Λ1 : Int → (List Rtl) → Prop) (Λ2 : (List Rtl) → Int → Int → Int → Int → Prop) (p : (List Lin)) (l : (List Tst)) (y0 : (List Rtl)) (y1 : Bool) (out_1 : (List Rtl)) (t31_1 : Int) (bad_2 : Int) (good_2 : Int) (t36_2 : Int) : Prop :=
  if (decide (t36_2 < (List.length (tableT p l) : Int))) = true then (idx t36_2 (List.length (tableT p l) : Int) ∧ (True ∧ (if (decide (t36_2 ∈ (whereL (fun t' => ((fun (xx : (Tst × Unit)) => validP p = 0 ∧ isTst xx.1 = true, fun (xx : (Tst × Unit)) => (!(passT p xx.1), ())).2 (t', ())).1) l))) = true then (idx t31_1 (List.length (List.getD (tableT p l) (Int.toNat t36_2) ([] : List Int)) : Int) ∧ (inI (bad_2 + (List.getD (List.getD (tableT p l) (Int.toNat t36_2) ([] : List Int)) (Int.toNat t31_1) 0)) ∧ (inI (t36_2 + (1 : Int)) ∧ Λ2 out_1 t31_1 (bad_2 + (List.getD (List.getD (tableT p l) (Int.toNat t36_2) ([] : List Int)) (Int.toNat t31_1) 0)) good_2 (t36_2 + (1 : Int))))) else (idx t31_1 (List.length (List.getD (tableT p l) (Int.toNat t36_2) ([] : List Int)) : Int) ∧ (inI (good_2 + (List.getD (List.getD (tableT p l) (Int.toNat t36_2) ([] : List Int)) (Int.toNat t31_1) 0)) ∧ (inI (t36_2 + (1 : Int)) ∧ Λ2 out_1 t31_1 bad_2 (good_2 + (List.getD (List.getD (tableT p l) (Int.toNat t36_2) ([] : List Int)) (Int.toNat t31_1) 0)) (t36_2 + (1 : Int)))))))) else (inI ((List.length (whereL (fun t' => ((fun (xx : (Tst × Unit)) => validP p = 0 ∧ isTst xx.1 = true, fun (xx : (Tst × Unit)) => (!(passT p xx.1), ())).2 (t', ())).1) l) : Int) + good_2) ∧ ((0 ≤ bad_2 ∧ 0 < ((List.length (whereL (fun t' => ((fun (xx : (Tst × Unit)) => validP p = 0 ∧ isTst xx.1 = true, fun (xx : (Tst × Unit)) => (!(passT p xx.1), ())).2 (t', ())).1) l) : Int) + good_2) ∧ bad_2 ≤ 1000000 ∧ ((List.length (whereL (fun t' => ((fun (xx : (Tst × Unit)) => validP p = 0 ∧ isTst xx.1 = true, fun (xx : (Tst × Unit)) => (!(passT p xx.1), ())).2 (t', ())).1) l) : Int) + good_2) ≤ 1000000) ∧ (idx t31_1 (List.length out_1 : Int) ∧ (inI (t31_1 + (1 : Int)) ∧ Λ1 (t31_1 + (1 : Int)) (List.set out_1 (Int.toNat t31_1) (ratioQ bad_2 ((List.length (whereL (fun t' => ((fun (xx : (Tst × Unit)) => validP p = 0 ∧ isTst xx.1 = true, fun (xx : (Tst × Unit)) => (!(passT p xx.1), ())).2 (t', ())).1) l) : Int) + good_2)))))))
theorem cScores0_law (h : ∀ (p : (List Lin)) (l : (List Tst)), cScores0.A.wf (p, l, ()) → (validP p = 0 ∧ validT l = 0) → ∀ (Λ1 : Int → (List Rtl) → Prop) (Λ2 : (List Rtl) → Int → Int → Int → Int → Prop), (∀ (t31_1 : Int) (out_1 : (List Rtl)), cScores0_1 Λ1 Λ2 p l (scoresT p l) (decide (failL p l ≠ [])) t31_1 out_1 → Λ1 t31_1 out_1) → (∀ (out_1 : (List Rtl)) (t31_1 : Int) (bad_2 : Int) (good_2 : Int) (t36_2 : Int), cScores0_2 Λ1 Λ2 p l (scoresT p l) (decide (failL p l ≠ [])) out_1 t31_1 bad_2 good_2 t36_2 → Λ2 out_1 t31_1 bad_2 good_2 t36_2) → cScores0_0 Λ1 Λ2 p l (scoresT p l) (decide (failL p l ≠ []))) : ConOK Go.Proofs.Try.prog 62 cScores0 := by
  refine lawX (X := { subs := [], frz := [2], U := [], mul := [], nst := [], nls := [], itf := none }) (hX := xok0 _) (Γ := [(108, cContN), (109, cRatio), (107, cRepeat), (106, cScores1), (84, cTable0), (73, cWhere)]) (Θ := Th) (n := 68) [([1, 1, 1, 1, 0, 1, 0], ⟨[(6, true), (7, true), (8, true), (30, true), (31, true)], [(16, true), (19, true), (24, true)]⟩), ([1, 1, 1, 1, 0, 1, 0, 0, 1, 1, 0, 0, 1, 1, 0, 1, 0], ⟨[(6, true), (7, true), (8, true), (9, true), (10, true), (11, true), (30, true), (31, true), (34, true), (35, true), (36, true)], [(16, true), (19, true), (24, true)]⟩)] ⟨cContN_ok, cRatio_ok, cRepeat_ok, cScores1_ok, cTable0_ok, cWhere_ok, trivial⟩ (by kernel_rfl) th_ok mix_ok Go.Proofs.Try.func62 (by kernel_rfl) ?_
  intro x hw hp Λ hC
  have h0 := h x.1 x.2.1 hw hp (fun t31_1 out_1 => Λ [1, 1, 1, 1, 0, 1, 0] ([(6, .own 16 0), (7, .own 19 0), (8, .own 24 0), (30, .d true .int (List.length x.1 : Int)), (31, .d true .int t31_1)], [(16, .sl true .int (whereL (fun t' => ((fun (xx : (Tst × Unit)) => validP x.1 = 0 ∧ isTst xx.1 = true, fun (xx : (Tst × Unit)) => (!(passT x.1 xx.1), ())).2 (t', ())).1) x.2.1)), (19, .sl true (.sl .int) (tableT x.1 x.2.1)), (24, .sl true tRa out_1)])) (fun out_1 t31_1 bad_2 good_2 t36_2 => Λ [1, 1, 1, 1, 0, 1, 0, 0, 1, 1, 0, 0, 1, 1, 0, 1, 0] ([(6, .own 16 0), (7, .own 19 0), (8, .own 24 0), (9, .d true .int t31_1), (10, .d true .int bad_2), (11, .d true .int good_2), (30, .d true .int (List.length x.1 : Int)), (31, .d true .int t31_1), (34, .own 19 0), (35, .d true .int (List.length (tableT x.1 x.2.1) : Int)), (36, .d true .int t36_2)], [(16, .sl true .int (whereL (fun t' => ((fun (xx : (Tst × Unit)) => validP x.1 = 0 ∧ isTst xx.1 = true, fun (xx : (Tst × Unit)) => (!(passT x.1 xx.1), ())).2 (t', ())).1) x.2.1)), (19, .sl true (.sl .int) (tableT x.1 x.2.1)), (24, .sl true tRa out_1)])) (fun t31_1 out_1 hb => hC [1, 1, 1, 1, 0, 1, 0] ([(6, .own 16 0), (7, .own 19 0), (8, .own 24 0), (30, .d true .int (List.length x.1 : Int)), (31, .d true .int t31_1)], [(16, .sl true .int (whereL (fun t' => ((fun (xx : (Tst × Unit)) => validP x.1 = 0 ∧ isTst xx.1 = true, fun (xx : (Tst × Unit)) => (!(passT x.1 xx.1), ())).2 (t', ())).1) x.2.1)), (19, .sl true (.sl .int) (tableT x.1 x.2.1)), (24, .sl true tRa out_1)]) (Eq.mpr (by kernel_rfl) hb)) (fun out_1 t31_1 bad_2 good_2 t36_2 hb => hC [1, 1, 1, 1, 0, 1, 0, 0, 1, 1, 0, 0, 1, 1, 0, 1, 0] ([(6, .own 16 0), (7, .own 19 0), (8, .own 24 0), (9, .d true .int t31_1), (10, .d true .int bad_2), (11, .d true .int good_2), (30, .d true .int (List.length x.1 : Int)), (31, .d true .int t31_1), (34, .own 19 0), (35, .d true .int (List.length (tableT x.1 x.2.1) : Int)), (36, .d true .int t36_2)], [(16, .sl true .int (whereL (fun t' => ((fun (xx : (Tst × Unit)) => validP x.1 = 0 ∧ isTst xx.1 = true, fun (xx : (Tst × Unit)) => (!(passT x.1 xx.1), ())).2 (t', ())).1) x.2.1)), (19, .sl true (.sl .int) (tableT x.1 x.2.1)), (24, .sl true tRa out_1)]) (Eq.mpr (by kernel_rfl) hb))
  exact Eq.mpr (by kernel_rfl) h0
theorem cScores0_ok : ConOK Go.Proofs.Try.prog 62 cScores0 := by
  refine cScores0_law ?_
  intro p l hw hp Λ1 Λ2 h1 h2
  unfold cScores0_0
  obtain ⟨p1, p2⟩ := hp
  obtain ⟨h8, hall⟩ := validT_ok p2
  have hp8 := (validP_ok p1).1
  refine ⟨⟨by omega, fun t' ht _ => ⟨p1, hall t' ht⟩⟩, ⟨p1, p2⟩, ⟨rfl, by omega, by omega⟩, ?_⟩
  show if ((List.length (failL p l) : Int) == (0 : Int)) = true then _ else _
  by_cases hF : failL p l = []
  · rw [if_pos (by simp [hF])]
    refine ⟨by simp [hF], ?_⟩
    unfold scoresT
    rw [Int.toNat_natCast]
    symm
    rw [List.eq_replicate_iff]
    refine ⟨by simp, fun x hx => ?_⟩
    obtain ⟨k, _, rfl⟩ := List.mem_map.1 hx
    unfold scoreAt
    rw [if_pos hF]; rfl
  · have hFl : 0 < (failL p l).length := List.length_pos_iff.2 hF
    have hFle : (failL p l).length ≤ l.length := whereL_len _ _
    rw [if_neg (by simp [hF])]
    have key : ∀ i, i ≤ p.length → ∀ out : List Rtl, out.length = p.length → out.take i = (scoresT p l).take i → Λ1 (i : Int) out := by
      refine upto ?_ ?_
      · intro out hl ht
        apply h1; unfold cScores0_1; rw [if_neg (by simp)]
        refine ⟨by simp [hF], ?_⟩
        rw [List.take_of_length_le (by omega), List.take_of_length_le (by unfold scoresT; simp)] at ht
        exact ht
      · intro i hi ih out hl ht
        apply h1; unfold cScores0_1; rw [if_pos (by simpa using hi)]
        refine upto (n := l.length) (Q := fun j => Λ2 out (i : Int) (badTo (tableT p l) (failL p l) i j) (goodTo (tableT p l) (failL p l) i j) (j : Int)) ?_ ?_ 0 (Nat.zero_le _)
        · apply h2; unfold cScores0_2
          rw [if_neg (by unfold tableT; simp)]
          have bd := bad_good_bd p l (failL p l) i l.length
          show inI ((List.length (failL p l) : Int) + goodTo (tableT p l) (failL p l) i l.length) ∧ _
          refine ⟨by unfold inI; omega, ⟨bd.1, by show (0 : Int) < (List.length (failL p l) : Int) + _; omega, by omega, by show (List.length (failL p l) : Int) + _ ≤ _; omega⟩, idx_nat (by omega), inI_succ hi (by omega), ?_⟩
          rw [Int.toNat_natCast]
          refine ih _ (by simp [hl]) ?_
          have e : (scoresT p l).take (i + 1) = (scoresT p l).take i ++ [scoreAt p l i] := by
            unfold scoresT
            rw [map_take_next (scoreAt p l) (List.range p.length) 0 (by simpa using hi)]
            simp [List.getD_eq_getElem?_getD, hi]
          rw [e, ← ht, take_snoc tRa.dflt (by rw [List.length_set]; omega), List.take_set_of_le (Nat.le_refl _)]
          congr 2
          rw [List.getD_eq_getElem?_getD, List.getElem?_set_self (by omega)]
          unfold scoreAt
          rw [if_neg hF]; rfl
        · intro j hj ihj
          have hr : (List.getD (tableT p l) j []).length = p.length := table_row (mem_getD (by unfold tableT; simpa using hj))
          have bd := bad_good_bd p l (failL p l) i j
          have bd2 := bad_good_bd p l (failL p l) i (j + 1)
          unfold badTo goodTo at bd2 ihj
          apply h2; unfold cScores0_2
          rw [if_pos (by unfold tableT; simpa using hj), Int.toNat_natCast, Int.toNat_natCast]
          refine ⟨idx_nat (by unfold tableT; simpa using hj), trivial, ?_⟩
          show if (decide ((j : Int) ∈ failL p l)) = true then _ else _
          by_cases hm : (j : Int) ∈ failL p l
          · rw [if_pos (decide_eq_true hm)]
            rw [if_pos hm, if_pos hm] at bd2 ihj
            rw [Int.add_zero] at ihj
            exact ⟨idx_nat (by omega), by unfold inI; omega, inI_succ hj (by omega), ihj⟩
          · rw [if_neg (by simpa using hm)]
            rw [if_neg hm, if_neg hm] at bd2 ihj
            rw [Int.add_zero] at ihj
            exact ⟨idx_nat (by omega), by unfold inI; omega, inI_succ hj (by omega), ihj⟩
    exact key 0 (Nat.zero_le _) _ (by simp) rfl
abbrev cScores : Con := { A := (.cons (.sl tL) (.cons (.sl tTs) .nil)), R := (.cons (.sl tRa) (.cons .int .nil)), pre := fun x => True, F := fun x => ((if errT [x.1] x.2.1 = 0 then scoresT x.1 x.2.1 else []), errT [x.1] x.2.1, ()) }
def cScores_0  (p : (List Lin)) (l : (List Tst)) (y0 : (List Rtl)) (y1 : Int) : Prop :=
  True ∧ (if ((errT [p] l) != (0 : Int)) = true then (([] : List Rtl) = y0 ∧ (errT [p] l) = y1 ∧ True) else ((validP p = 0 ∧ validT l = 0) ∧ ((scoresT p l) = y0 ∧ (0 : Int) = y1 ∧ True)))
theorem cScores_law (h : ∀ (p : (List Lin)) (l : (List Tst)), cScores.A.wf (p, l, ()) → cScores_0  p l (if errT [p] l = 0 then scoresT p l else []) (errT [p] l)) : ConOK Go.Proofs.Try.prog 19 cScores := by
  refine lawL (Γ := [(62, cScores0), (61, cTested)]) (Θ := Th) (n := 23) [] ⟨cScores0_ok, cTested_ok, trivial⟩ (by kernel_rfl) th_ok mix_ok Go.Proofs.Try.func19 (by kernel_rfl) ?_
  intro x hw hp Λ hC
  have h0 := h x.1 x.2.1 hw  
  exact Eq.mpr (by kernel_rfl) h0
theorem cScores_ok : ConOK Go.Proofs.Try.prog 19 cScores := by
  refine cScores_law ?_
  intro p l hw
  unfold cScores_0
  refine ⟨trivial, ?_⟩
  by_cases h : errT [p] l = 0
  · rw [if_neg (by simp [h]), if_pos h]
    obtain ⟨h1, h2⟩ := errT_ok h
    exact ⟨⟨h1, h2⟩, rfl, h.symm, trivial⟩
  · rw [if_pos (by simpa using h), if_neg h]
    exact ⟨rfl, rfl, trivial⟩
abbrev cScoresR : Con := { A := (.cons (.sl tL) (.cons (.sl tTs) .nil)), R := (.cons (.sl tRa) (.cons .int .nil)), pre := fun x => True, F := fun x => ((if errT [x.1] x.2.1 = 0 then scoresT x.1 x.2.1 else []), errT [x.1] x.2.1, ()) }
def cScoresR_0 (Λ1 : Int → (List Rtl) → Prop) (Λ2 : Int → (List Rtl) → Int → Int → Int → Prop) (p : (List Lin)) (l : (List Tst)) (y0 : (List Rtl)) (y1 : Int) : Prop :=
  True ∧ (if ((errT [p] l) != (0 : Int)) = true then (([] : List Rtl) = y0 ∧ (errT [p] l) = y1 ∧ True) else (True ∧ Λ1 (0 : Int) ([] : List Rtl)))
def cScoresR_1 (Λ1 : Int → (List Rtl) → Prop) (Λ2 : Int → (List Rtl) → Int → Int → Int → Prop) (p : (List Lin)) (l : (List Tst)) (y0 : (List Rtl)) (y1 : Int)  (line_1 : Int) (out_1 : (List Rtl)) : Prop :=
  if (decide (line_1 < (List.length p : Int))) = true then Λ2 line_1 out_1 (0 : Int) (List.length ((if errT [p] l = 0 then failL p l else [])) : Int) (0 : Int) else (out_1 = y0 ∧ (0 : Int) = y1 ∧ True)
def cScoresR_2 (Λ1 : Int → (List Rtl) → Prop) (Λ2 : Int → (List Rtl) → Int → Int → Int → Prop) (p : (List Lin)) (l : (List Tst)) (y0 : (List Rtl)) (y1 : Int) (line_1 : Int) (out_1 : (List Rtl)) (n_2 : Int) (d_2 : Int) (i_2 : Int) : Prop :=
  if (decide (i_2 < (List.length ((if errT [p] l = 0 then tableT p l else [])) : Int))) = true then (idx i_2 (List.length ((if errT [p] l = 0 then tableT p l else [])) : Int) ∧ (idx line_1 (List.length (List.getD ((if errT [p] l = 0 then tableT p l else [])) (Int.toNat i_2) ([] : List Int)) : Int) ∧ (if ((List.getD (List.getD ((if errT [p] l = 0 then tableT p l else [])) (Int.toNat i_2) ([] : List Int)) (Int.toNat line_1) 0) == (0 : Int)) = true then (inI (i_2 + (1 : Int)) ∧ Λ2 line_1 out_1 n_2 d_2 (i_2 + (1 : Int))) else (((if errT [p] l = 0 then failL p l else [])).length ≤ 1000000 ∧ (if (decide (i_2 ∈ ((if errT [p] l = 0 then failL p l else [])))) = true then (inI (n_2 + (1 : Int)) ∧ (inI (i_2 + (1 : Int)) ∧ Λ2 line_1 out_1 (n_2 + (1 : Int)) d_2 (i_2 + (1 : Int)))) else (inI (d_2 + (1 : Int)) ∧ (inI (i_2 + (1 : Int)) ∧ Λ2 line_1 out_1 n_2 (d_2 + (1 : Int)) (i_2 + (1 : Int))))))))) else (if ((List.length ((if errT [p] l = 0 then failL p l else [])) : Int) == (0 : Int)) = true then ((0 ≤ (0 : Int) ∧ 0 < (1 : Int) ∧ (0 : Int) ≤ 1000000 ∧ (1 : Int) ≤ 1000000) ∧ (List.length out_1 + List.length [(ratioQ (0 : Int) (1 : Int))] ≤ 4294967296 ∧ (inI (line_1 + (1 : Int)) ∧ Λ1 (line_1 + (1 : Int)) (out_1 ++ [(ratioQ (0 : Int) (1 : Int))])))) else ((0 ≤ n_2 ∧ 0 < d_2 ∧ n_2 ≤ 1000000 ∧ d_2 ≤ 1000000) ∧ (List.length out_1 + List.length [(ratioQ n_2 d_2)] ≤ 4294967296 ∧ (inI (line_1 + (1 : Int)) ∧ Λ1 (line_1 + (1 : Int)) (out_1 ++ [(ratioQ n_2 d_2)])))))
theorem cScoresR_law (h : ∀ (p : (List Lin)) (l : (List Tst)), cScoresR.A.wf (p, l, ()) → ∀ (Λ1 : Int → (List Rtl) → Prop) (Λ2 : Int → (List Rtl) → Int → Int → Int → Prop), (∀ (line_1 : Int) (out_1 : (List Rtl)), cScoresR_1 Λ1 Λ2 p l (if errT [p] l = 0 then scoresT p l else []) (errT [p] l) line_1 out_1 → Λ1 line_1 out_1) → (∀ (line_1 : Int) (out_1 : (List Rtl)) (n_2 : Int) (d_2 : Int) (i_2 : Int), cScoresR_2 Λ1 Λ2 p l (if errT [p] l = 0 then scoresT p l else []) (errT [p] l) line_1 out_1 n_2 d_2 i_2 → Λ2 line_1 out_1 n_2 d_2 i_2) → cScoresR_0 Λ1 Λ2 p l (if errT [p] l = 0 then scoresT p l else []) (errT [p] l)) : ConOK Go.Proofs.Try.prog 20 cScoresR := by
  refine lawL (Γ := [(36, cFailingR), (63, cHasN), (64, cRatioR), (40, cTableR)]) (Θ := Th) (n := 69) [([1, 1, 1, 1, 1, 0, 1, 0], ⟨[(0, false), (6, true), (8, true), (10, true), (11, true)], [(10, true)]⟩), ([1, 1, 1, 1, 1, 0, 1, 0, 0, 1, 0, 0, 1, 0, 1, 0], ⟨[(0, false), (6, true), (8, true), (10, true), (11, true), (12, true), (13, true), (14, true)], [(10, true)]⟩)] ⟨cFailingR_ok, cHasN_ok, cRatioR_ok, cTableR_ok, trivial⟩ (by kernel_rfl) th_ok mix_ok Go.Proofs.Try.func20 (by kernel_rfl) ?_
  intro x hw hp Λ hC
  have h0 := h x.1 x.2.1 hw (fun line_1 out_1 => Λ [1, 1, 1, 1, 1, 0, 1, 0] ([(0, .d false (.sl tL) x.1), (6, .d true (.sl (.sl .int)) ((if errT [x.1] x.2.1 = 0 then tableT x.1 x.2.1 else []))), (8, .d true (.sl .int) ((if errT [x.1] x.2.1 = 0 then failL x.1 x.2.1 else []))), (10, .own 10 0), (11, .d true .int line_1)], [(10, .sl true tRa out_1)])) (fun line_1 out_1 n_2 d_2 i_2 => Λ [1, 1, 1, 1, 1, 0, 1, 0, 0, 1, 0, 0, 1, 0, 1, 0] ([(0, .d false (.sl tL) x.1), (6, .d true (.sl (.sl .int)) ((if errT [x.1] x.2.1 = 0 then tableT x.1 x.2.1 else []))), (8, .d true (.sl .int) ((if errT [x.1] x.2.1 = 0 then failL x.1 x.2.1 else []))), (10, .own 10 0), (11, .d true .int line_1), (12, .d true .int n_2), (13, .d true .int d_2), (14, .d true .int i_2)], [(10, .sl true tRa out_1)])) (fun line_1 out_1 hb => hC [1, 1, 1, 1, 1, 0, 1, 0] ([(0, .d false (.sl tL) x.1), (6, .d true (.sl (.sl .int)) ((if errT [x.1] x.2.1 = 0 then tableT x.1 x.2.1 else []))), (8, .d true (.sl .int) ((if errT [x.1] x.2.1 = 0 then failL x.1 x.2.1 else []))), (10, .own 10 0), (11, .d true .int line_1)], [(10, .sl true tRa out_1)]) (Eq.mpr (by kernel_rfl) hb)) (fun line_1 out_1 n_2 d_2 i_2 hb => hC [1, 1, 1, 1, 1, 0, 1, 0, 0, 1, 0, 0, 1, 0, 1, 0] ([(0, .d false (.sl tL) x.1), (6, .d true (.sl (.sl .int)) ((if errT [x.1] x.2.1 = 0 then tableT x.1 x.2.1 else []))), (8, .d true (.sl .int) ((if errT [x.1] x.2.1 = 0 then failL x.1 x.2.1 else []))), (10, .own 10 0), (11, .d true .int line_1), (12, .d true .int n_2), (13, .d true .int d_2), (14, .d true .int i_2)], [(10, .sl true tRa out_1)]) (Eq.mpr (by kernel_rfl) hb))
  exact Eq.mpr (by kernel_rfl) h0
theorem cScoresR_ok : ConOK Go.Proofs.Try.prog 20 cScoresR := by
  refine cScoresR_law ?_
  intro p l hw Λ1 Λ2 h1 h2
  unfold cScoresR_0
  refine ⟨trivial, ?_⟩
  by_cases h : errT [p] l = 0
  · rw [if_neg (by simp [h])]
    refine ⟨trivial, ?_⟩
    obtain ⟨p1, p2⟩ := errT_ok h
    obtain ⟨h8, hall⟩ := validT_ok p2
    have hp8 := (validP_ok p1).1
    have hFle : (failL p l).length ≤ l.length := whereL_len _ _
    have hsl : (scoresT p l).length = p.length := by unfold scoresT; simp
    refine upto (n := p.length) (Q := fun i => Λ1 (i : Int) ((scoresT p l).take i)) ?_ ?_ 0 (Nat.zero_le _)
    · apply h1; unfold cScoresR_1; rw [if_neg (by simp), List.take_of_length_le (by omega), if_pos h]
      exact ⟨rfl, h.symm, trivial⟩
    · intro i hi ih
      have e : (scoresT p l).take (i + 1) = (scoresT p l).take i ++ [scoreAt p l i] := by
        unfold scoresT
        rw [map_take_next (scoreAt p l) (List.range p.length) 0 (by simpa using hi)]
        simp [List.getD_eq_getElem?_getD, hi]
      rw [e] at ih
      apply h1; unfold cScoresR_1; rw [if_pos (by simpa using hi), if_pos h]
      have start : Λ2 (i : Int) ((scoresT p l).take i) (badTo (tableT p l) (failL p l) i 0) ((failL p l).length + goodTo (tableT p l) (failL p l) i 0) ((0 : Nat) : Int) := by
        refine upto (n := l.length) (Q := fun j => Λ2 (i : Int) ((scoresT p l).take i) (badTo (tableT p l) (failL p l) i j) ((failL p l).length + goodTo (tableT p l) (failL p l) i j) (j : Int)) ?_ ?_ 0 (Nat.zero_le _)
        · apply h2; unfold cScoresR_2
          rw [if_pos h, if_pos h, if_neg (by unfold tableT; simp)]
          have hlen : ∀ x : Rtl, List.length ((scoresT p l).take i) + List.length [x] ≤ 4294967296 := fun x => by simp only [List.length_take, List.length_cons, List.length_nil]; omega
          unfold scoreAt at ih
          have bd := bad_good_bd p l (failL p l) i l.length
          by_cases hF : failL p l = []
          · rw [if_pos (by simp [hF])]
            rw [if_pos hF] at ih
            exact ⟨⟨by omega, by omega, by omega, by omega⟩, hlen _, inI_succ hi (by omega), ih⟩
          · have hFl : 0 < (failL p l).length := List.length_pos_iff.2 hF
            rw [if_neg (by simp [hF])]
            rw [if_neg hF] at ih
            exact ⟨⟨bd.1, by omega, by omega, by omega⟩, hlen _, inI_succ hi (by omega), ih⟩
        · intro j hj ihj
          have hr : (List.getD (tableT p l) j []).length = p.length := table_row (mem_getD (by unfold tableT; simpa using hj))
          have bd := bad_good_bd p l (failL p l) i j
          have bit := table_bit p l j i
          unfold badTo goodTo at ihj
          apply h2; unfold cScoresR_2
          rw [if_pos h, if_pos h, if_pos (by unfold tableT; simpa using hj), Int.toNat_natCast, Int.toNat_natCast]
          refine ⟨idx_nat (by unfold tableT; simpa using hj), idx_nat (by omega), ?_⟩
          by_cases hz : List.getD (List.getD (tableT p l) j []) i 0 = 0
          · rw [if_pos (by simpa using hz)]
            simp only [hz, ite_self, Int.add_zero] at ihj
            exact ⟨inI_succ hj (by omega), ihj⟩
          · have h1' : List.getD (List.getD (tableT p l) j []) i 0 = 1 := by omega
            rw [if_neg (by simpa using hz)]
            refine ⟨by omega, ?_⟩
            by_cases hm : (j : Int) ∈ failL p l
            · rw [if_pos (decide_eq_true hm)]
              rw [if_pos hm, if_pos hm, h1', Int.add_zero] at ihj
              exact ⟨by unfold inI; omega, inI_succ hj (by omega), ihj⟩
            · rw [if_neg (by simpa using hm)]
              rw [if_neg hm, if_neg hm, h1', Int.add_zero, ← Int.add_assoc] at ihj
              exact ⟨by unfold inI; omega, inI_succ hj (by omega), ihj⟩
      simpa [badTo, goodTo] using start
  · rw [if_pos (by simpa using h), if_neg h]
    exact ⟨rfl, rfl, trivial⟩
abbrev cSameRats : Con := { A := (.cons (.sl tRa) (.cons (.sl tRa) .nil)), R := (.cons .bool .nil), pre := fun x => x.1.length ≤ 1000000, F := fun x => (decide (x.1 = x.2.1), ()) }
def cSameRats_0 (Λ1 : Int → Prop) (a : (List Rtl)) (b : (List Rtl)) (y0 : Bool) : Prop :=
  if ((List.length a : Int) != (List.length b : Int)) = true then (false = y0 ∧ True) else Λ1 (0 : Int)
def cSameRats_1 (Λ1 : Int → Prop) (a : (List Rtl)) (b : (List Rtl)) (y0 : Bool)  (i_1 : Int) : Prop :=
  if (decide (i_1 < (List.length a : Int))) = true then (idx i_1 (List.length a : Int) ∧ (idx i_1 (List.length b : Int) ∧ (if (!(T.eqB tRa (List.getD a (Int.toNat i_1) tRa.dflt) (List.getD b (Int.toNat i_1) tRa.dflt))) = true then (false = y0 ∧ True) else (inI (i_1 + (1 : Int)) ∧ Λ1 (i_1 + (1 : Int)))))) else (true = y0 ∧ True)
theorem cSameRats_law (h : ∀ (a : (List Rtl)) (b : (List Rtl)), cSameRats.A.wf (a, b, ()) → (a.length ≤ 1000000) → ∀ (Λ1 : Int → Prop), (∀ (i_1 : Int), cSameRats_1 Λ1 a b (decide (a = b)) i_1 → Λ1 i_1) → cSameRats_0 Λ1 a b (decide (a = b))) : ConOK Go.Proofs.Try.prog 21 cSameRats := by
  refine lawL (Γ := []) (Θ := Th) (n := 26) [([1, 1, 0, 1, 0], ⟨[(0, false), (1, false), (5, true)], []⟩)] trivial (by kernel_rfl) th_ok mix_ok Go.Proofs.Try.func21 (by kernel_rfl) ?_
  intro x hw hp Λ hC
  have h0 := h x.1 x.2.1 hw hp (fun i_1 => Λ [1, 1, 0, 1, 0] ([(0, .d false (.sl tRa) x.1), (1, .d false (.sl tRa) x.2.1), (5, .d true .int i_1)], [])) (fun i_1 hb => hC [1, 1, 0, 1, 0] ([(0, .d false (.sl tRa) x.1), (1, .d false (.sl tRa) x.2.1), (5, .d true .int i_1)], []) (Eq.mpr (by kernel_rfl) hb))
  exact Eq.mpr (by kernel_rfl) h0
theorem cSameRats_ok : ConOK Go.Proofs.Try.prog 21 cSameRats := by
  refine cSameRats_law ?_
  intro a b hw hp Λ1 h1
  unfold cSameRats_0
  by_cases hl : a.length = b.length
  · rw [if_neg (by simp [hl])]
    refine upto (n := a.length) (Q := fun i => a.take i = b.take i → Λ1 i) ?_ ?_ 0 (Nat.zero_le _) rfl
    · intro ha
      rw [List.take_length, List.take_of_length_le (by omega)] at ha
      apply h1; unfold cSameRats_1; rw [if_neg (by simp)]
      exact ⟨by simp [ha], trivial⟩
    · intro i hi ih ha
      apply h1; unfold cSameRats_1; rw [if_pos (by simpa using hi), Int.toNat_natCast]
      refine ⟨idx_nat hi, idx_nat (by omega), ?_⟩
      have heq := eqB_iff (t := tRa) (x := List.getD a i tRa.dflt) (y := List.getD b i tRa.dflt) rfl
      by_cases hv : List.getD a i tRa.dflt = List.getD b i tRa.dflt
      · rw [if_neg (by rw [heq.2 hv]; simp)]
        exact ⟨inI_succ hi (by omega), ih (take_eq_next tRa.dflt hi hl ha hv)⟩
      · rw [if_pos (by
          cases hq : T.eqB tRa (List.getD a i tRa.dflt) (List.getD b i tRa.dflt)
          · rfl
          · exact absurd (heq.1 hq) hv)]
        exact ⟨by simp [ne_at tRa.dflt hv], trivial⟩
  · rw [if_pos (by simp; omega)]
    exact ⟨by simp; exact fun e => hl (by rw [e]), trivial⟩
abbrev cBoxR2e : Con := { A := (.cons tCt .nil), R := (.cons .int (.cons .int .nil)), pre := fun x => True, F := fun x => ((if validC x.1 = 0 then sizeC x.1 else 0), validC x.1, ()) }
def cBoxR2e_0  (c : Ctr) (y0 : Int) (y1 : Int) : Prop :=
  True ∧ (if ((validC c) != (0 : Int)) = true then ((0 : Int) = y0 ∧ (validC c) = y1 ∧ True) else (boxC c ∧ ((min (sizeC c) 401) = y0 ∧ (0 : Int) = y1 ∧ True)))
theorem cBoxR2e_law (h : ∀ (c : Ctr), cBoxR2e.A.wf (c, ()) → cBoxR2e_0  c (if validC c = 0 then sizeC c else 0) (validC c)) : ConOK Go.Proofs.Try.prog 24 cBoxR2e := by
  refine lawL (Γ := [(66, cBoxR2), (26, cValCR)]) (Θ := Th) (n := 12) [] ⟨cBoxR2_ok, cValCR_ok, trivial⟩ (by kernel_rfl) th_ok mix_ok Go.Proofs.Try.func24 (by kernel_rfl) ?_
  intro x hw hp Λ hC
  have h0 := h x.1 hw  
  exact Eq.mpr (by kernel_rfl) h0
theorem cBoxR2e_ok : ConOK Go.Proofs.Try.prog 24 cBoxR2e := by
  refine cBoxR2e_law ?_
  intro c hw
  unfold cBoxR2e_0
  refine ⟨trivial, ?_⟩
  by_cases h : validC c = 0
  · rw [if_neg (by simp [h]), if_pos h, h]
    obtain ⟨i1, i2⟩ := validC_ok h
    exact ⟨(isCtr_box i1).1, by omega, rfl, trivial⟩
  · rw [if_pos (by simpa using h), if_neg h]
    exact ⟨rfl, rfl, trivial⟩
abbrev cKnown2 : Con := { A := .nil, R := (.cons .bool .nil), pre := fun x => True, F := fun x => (true, ()) }
def cKnown2_0   (y0 : Bool) : Prop :=
  True ∧ (True ∧ (if ((errT [[(1, 0, 3, 0, ()), (3, 0, 0, 0, ())]] ([([(0 : Int), (0 : Int), (0 : Int), (0 : Int)], 0, 6, ()), ([(0 : Int), (0 : Int), (0 : Int), (0 : Int)], 0, 7, ())])) == (0 : Int)) = true then (((if errT [[(1, 0, 3, 0, ()), (3, 0, 0, 0, ())]] ([([(0 : Int), (0 : Int), (0 : Int), (0 : Int)], 0, 6, ()), ([(0 : Int), (0 : Int), (0 : Int), (0 : Int)], 0, 7, ())]) = 0 then scoresT [(1, 0, 3, 0, ()), (3, 0, 0, 0, ())] ([([(0 : Int), (0 : Int), (0 : Int), (0 : Int)], 0, 6, ()), ([(0 : Int), (0 : Int), (0 : Int), (0 : Int)], 0, 7, ())]) else [])).length ≤ 1000000 ∧ (True ∧ (if (bif true then (decide (((if errT [[(1, 0, 3, 0, ()), (3, 0, 0, 0, ())]] ([([(0 : Int), (0 : Int), (0 : Int), (0 : Int)], 0, 6, ()), ([(0 : Int), (0 : Int), (0 : Int), (0 : Int)], 0, 7, ())]) = 0 then scoresT [(1, 0, 3, 0, ()), (3, 0, 0, 0, ())] ([([(0 : Int), (0 : Int), (0 : Int), (0 : Int)], 0, 6, ()), ([(0 : Int), (0 : Int), (0 : Int), (0 : Int)], 0, 7, ())]) else [])) = [(1, 2, ()), (1, 2, ())])) else false) = true then (True ∧ (if (bif true then ((validC ([(0 : Int), (0 : Int), (0 : Int), (0 : Int)], [(1 : Int), (0 : Int), (0 : Int), (2 : Int)], 3, 0, 1, ())) == (0 : Int)) else false) = true then (True ∧ ((bif true then (((if validC ([(0 : Int), (0 : Int), (0 : Int), (0 : Int)], [(1 : Int), (0 : Int), (0 : Int), (2 : Int)], 3, 0, 1, ()) = 0 then sizeC ([(0 : Int), (0 : Int), (0 : Int), (0 : Int)], [(1 : Int), (0 : Int), (0 : Int), (2 : Int)], 3, 0, 1, ()) else 0)) == (6 : Int)) else false) = y0 ∧ True)) else (false = false ∧ (false = y0 ∧ True)))) else (false = false ∧ (false = false ∧ (false = y0 ∧ True)))))) else (false = false ∧ (false = false ∧ (false = false ∧ (false = y0 ∧ True))))))
theorem cKnown2_law (h : cKnown2.A.wf (()) → cKnown2_0   true) : ConOK Go.Proofs.Try.prog 18 cKnown2 := by
  refine lawL (Γ := [(23, cBox2), (21, cSameRats), (19, cScores)]) (Θ := Th) (n := 47) [] ⟨cBox2_ok, cSameRats_ok, cScores_ok, trivial⟩ (by kernel_rfl) th_ok mix_ok Go.Proofs.Try.func18 (by kernel_rfl) ?_
  intro x hw hp Λ hC
  have h0 := h  hw  
  exact Eq.mpr (by kernel_rfl) h0
theorem cKnown2_ok : ConOK Go.Proofs.Try.prog 18 cKnown2 := by
  refine cKnown2_law ?_
  intro hw
  unfold cKnown2_0
  decide +kernel
abbrev cMany : Con := { A := (.cons (.sl tTs) .nil), R := (.cons .bool .nil), pre := fun x => True, F := fun x => (decide (x.1.length > 50) || x.1.any (fun t' => decide (100 < t'.1.length)), ()) }
def cMany_0 (Λ1 : Int → Prop) (l : (List Tst)) (y0 : Bool) : Prop :=
  if (decide ((List.length l : Int) > (50 : Int))) = true then (true = y0 ∧ True) else Λ1 (0 : Int)
def cMany_1 (Λ1 : Int → Prop) (l : (List Tst)) (y0 : Bool)  (i_1 : Int) : Prop :=
  if (decide (i_1 < (List.length l : Int))) = true then (idx i_1 (List.length l : Int) ∧ (True ∧ (if (decide (100 < ((List.getD l (Int.toNat i_1) tTs.dflt).1).length)) = true then (true = y0 ∧ True) else (inI (i_1 + (1 : Int)) ∧ Λ1 (i_1 + (1 : Int)))))) else (false = y0 ∧ True)
theorem cMany_law (h : ∀ (l : (List Tst)), cMany.A.wf (l, ()) → ∀ (Λ1 : Int → Prop), (∀ (i_1 : Int), cMany_1 Λ1 l (decide (l.length > 50) || l.any (fun t' => decide (100 < t'.1.length))) i_1 → Λ1 i_1) → cMany_0 Λ1 l (decide (l.length > 50) || l.any (fun t' => decide (100 < t'.1.length)))) : ConOK Go.Proofs.Try.prog 17 cMany := by
  refine lawL (Γ := [(27, cLarge2)]) (Θ := Th) (n := 19) [([1, 1, 0, 1, 0], ⟨[(0, false), (3, true)], []⟩)] ⟨cLarge2_ok, trivial⟩ (by kernel_rfl) th_ok mix_ok Go.Proofs.Try.func17 (by kernel_rfl) ?_
  intro x hw hp Λ hC
  have h0 := h x.1 hw (fun i_1 => Λ [1, 1, 0, 1, 0] ([(0, .d false (.sl tTs) x.1), (3, .d true .int i_1)], [])) (fun i_1 hb => hC [1, 1, 0, 1, 0] ([(0, .d false (.sl tTs) x.1), (3, .d true .int i_1)], []) (Eq.mpr (by kernel_rfl) hb))
  exact Eq.mpr (by kernel_rfl) h0
theorem cMany_ok : ConOK Go.Proofs.Try.prog 17 cMany := by
  refine cMany_law ?_
  intro l hw Λ1 h1
  unfold cMany_0
  by_cases h : l.length > 50
  · rw [if_pos (by simp; omega)]; exact ⟨by simp [h], trivial⟩
  · rw [if_neg (by simp; omega)]
    refine upto (n := l.length) (Q := fun i => (l.take i).any (fun t => decide (100 < t.1.length)) = false → Λ1 i) ?_ ?_ 0 (Nat.zero_le _) rfl
    · intro ha
      rw [List.take_length] at ha
      apply h1; unfold cMany_1; rw [if_neg (by simp), ha]
      exact ⟨by simp; omega, trivial⟩
    · intro i hi ih ha
      apply h1; unfold cMany_1; rw [if_pos (by simpa using hi), Int.toNat_natCast]
      refine ⟨idx_nat hi, trivial, ?_⟩
      cases hv : decide (100 < (List.getD l i tTs.dflt).1.length)
      · rw [if_neg (by simp)]
        exact ⟨inI_succ hi (by omega), ih (any_take_next (p := fun t : Tst => decide (100 < t.1.length)) tTs.dflt hi ha hv)⟩
      · rw [if_pos (by rfl)]
        have : l.any (fun t => decide (100 < t.1.length)) = true := List.any_eq_true.2 ⟨_, mem_getD hi, hv⟩
        rw [this]
        exact ⟨by simp, trivial⟩
end Go.Tk
