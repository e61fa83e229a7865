import Derived.Test.YtmedjckknalpbaaC8i
set_option linter.unusedSimpArgs false
set_option linter.unusedVariables false
set_option linter.unnecessarySimpa false
namespace Go.Tk
open Go Go.RowKit
def exK (t : Ste) (k : Nat) : List Int := ((setsL (goals8 t)).take k).foldl (stepB (goodR t)) []
theorem exK_succ (t : Ste) {i : Nat} (hi : i < 2 ^ goals8 t) : exK t (i + 1) = stepB (goodR t) (exK t i) (setOf (goals8 t) i) := stepB_take t hi
theorem exK_len (t : Ste) : ∀ k, k ≤ 2 ^ goals8 t → (exK t k).length ≤ goals8 t
  | 0, _ => by simp [exK]
  | k + 1, h => by
    rw [exK_succ t (by omega)]
    unfold stepB
    split
    · exact setOf_len _ _
    · exact exK_len t k (by omega)
def okRow (s r : List Int) : Bool := decide (sumG r s < 2)
theorem exclB_all (t : Ste) (s : List Int) : exclB t s = t.all (okRow s) := by
  unfold exclB
  have : (fun r => decide (sumG r s > 1)) = fun r => !okRow s r := by
    funext r
    unfold okRow
    rw [← decide_not, decide_eq_decide]
    omega
  rw [this, any_not_all, Bool.not_not]
abbrev cExclR : Con := { A := (.cons (.sl (.sl .int)) .nil), R := (.cons (.sl .int) (.cons .int .nil)), pre := fun x => True, F := fun x => ((if validT x.1 = 0 then exclT x.1 else []), validT x.1, ()) }
def cExclR_0 (Λ1 : (List Int) → Int → Prop) (Λ2 : Int → (List Int) → Bool → Int → Prop) (Λ3 : Int → (List Int) → Bool → Int → Prop) (Λ4 : Int → Bool → Int → (List Int) → Int → Int → Prop) (t : (List (List Int))) (y0 : (List Int)) (y1 : Int) : Prop :=
  True ∧ (if ((validT t) != (0 : Int)) = true then (([] : List Int) = y0 ∧ (validT t) = y1 ∧ True) else (okT t ∧ Λ1 ([] : List Int) (0 : Int)))
def cExclR_1 (Λ1 : (List Int) → Int → Prop) (Λ2 : Int → (List Int) → Bool → Int → Prop) (Λ3 : Int → (List Int) → Bool → Int → Prop) (Λ4 : Int → Bool → Int → (List Int) → Int → Int → Prop) (t : (List (List Int))) (y0 : (List Int)) (y1 : Int)  (out_1 : (List Int)) (bits_1 : Int) : Prop :=
  True ∧ ((0 ≤ ((goals8 t : Int)) ∧ ((goals8 t : Int)) < 64 ∧ inI ((1 : Int) * 2 ^ (Int.toNat ((goals8 t : Int))))) ∧ (if (decide (bits_1 < ((1 : Int) * 2 ^ (Int.toNat ((goals8 t : Int)))))) = true then (True ∧ ((0 ≤ bits_1 ∧ bits_1 < 4294967296 ∧ 0 ≤ ((goals8 t : Int)) ∧ ((goals8 t : Int)) ≤ 60) ∧ Λ2 bits_1 out_1 true (0 : Int))) else (out_1 = y0 ∧ (0 : Int) = y1 ∧ True)))
def cExclR_2 (Λ1 : (List Int) → Int → Prop) (Λ2 : Int → (List Int) → Bool → Int → Prop) (Λ3 : Int → (List Int) → Bool → Int → Prop) (Λ4 : Int → Bool → Int → (List Int) → Int → Int → Prop) (t : (List (List Int))) (y0 : (List Int)) (y1 : Int) (bits_1 : Int) (out_2 : (List Int)) (good_2 : Bool) (i_2 : Int) : Prop :=
  if (decide (i_2 < (List.length (setOf ((goals8 t : Int)).toNat bits_1.toNat) : Int))) = true then (if good_2 = true then (idx i_2 (List.length (setOf ((goals8 t : Int)).toNat bits_1.toNat) : Int) ∧ ((openL t).length ≤ 1000000 ∧ (True ∧ (inI (i_2 + (1 : Int)) ∧ Λ2 bits_1 out_2 (bif true then (decide ((List.getD (setOf ((goals8 t : Int)).toNat bits_1.toNat) (Int.toNat i_2) 0) ∈ (openL t))) else false) (i_2 + (1 : Int)))))) else (false = false ∧ (inI (i_2 + (1 : Int)) ∧ Λ2 bits_1 out_2 false (i_2 + (1 : Int))))) else Λ3 bits_1 out_2 good_2 (0 : Int)
def cExclR_3 (Λ1 : (List Int) → Int → Prop) (Λ2 : Int → (List Int) → Bool → Int → Prop) (Λ3 : Int → (List Int) → Bool → Int → Prop) (Λ4 : Int → Bool → Int → (List Int) → Int → Int → Prop) (t : (List (List Int))) (y0 : (List Int)) (y1 : Int) (bits_1 : Int) (out_3 : (List Int)) (good_3 : Bool) (r_3 : Int) : Prop :=
  if (decide (r_3 < (List.length t : Int))) = true then (True ∧ (if (bif true then good_3 else false) = true then Λ4 bits_1 good_3 r_3 out_3 (0 : Int) (0 : Int) else (if good_3 = true then (if (decide ((List.length (setOf ((goals8 t : Int)).toNat bits_1.toNat) : Int) > (List.length out_3 : Int))) = true then (true = true ∧ (True ∧ (if (bif true then true else false) = true then (inI (bits_1 + (1 : Int)) ∧ Λ1 (setOf ((goals8 t : Int)).toNat bits_1.toNat) (bits_1 + (1 : Int))) else (inI (bits_1 + (1 : Int)) ∧ Λ1 out_3 (bits_1 + (1 : Int)))))) else (if ((List.length (setOf ((goals8 t : Int)).toNat bits_1.toNat) : Int) == (List.length out_3 : Int)) = true then (((setOf ((goals8 t : Int)).toNat bits_1.toNat).length ≤ 1000000 ∧ out_3.length ≤ 1000000) ∧ (True ∧ (True ∧ (True ∧ (if (bif true then (bif false then true else (bif true then (decide (cmpL (setOf ((goals8 t : Int)).toNat bits_1.toNat) out_3 < 0)) else false)) else false) = true then (inI (bits_1 + (1 : Int)) ∧ Λ1 (setOf ((goals8 t : Int)).toNat bits_1.toNat) (bits_1 + (1 : Int))) else (inI (bits_1 + (1 : Int)) ∧ Λ1 out_3 (bits_1 + (1 : Int)))))))) else (false = false ∧ (True ∧ (True ∧ (if (bif true then (bif false then true else false) else false) = true then (inI (bits_1 + (1 : Int)) ∧ Λ1 (setOf ((goals8 t : Int)).toNat bits_1.toNat) (bits_1 + (1 : Int))) else (inI (bits_1 + (1 : Int)) ∧ Λ1 out_3 (bits_1 + (1 : Int))))))))) else (false = false ∧ (inI (bits_1 + (1 : Int)) ∧ Λ1 out_3 (bits_1 + (1 : Int))))))) else (false = false ∧ (if good_3 = true then (if (decide ((List.length (setOf ((goals8 t : Int)).toNat bits_1.toNat) : Int) > (List.length out_3 : Int))) = true then (true = true ∧ (True ∧ (if (bif true then true else false) = true then (inI (bits_1 + (1 : Int)) ∧ Λ1 (setOf ((goals8 t : Int)).toNat bits_1.toNat) (bits_1 + (1 : Int))) else (inI (bits_1 + (1 : Int)) ∧ Λ1 out_3 (bits_1 + (1 : Int)))))) else (if ((List.length (setOf ((goals8 t : Int)).toNat bits_1.toNat) : Int) == (List.length out_3 : Int)) = true then (((setOf ((goals8 t : Int)).toNat bits_1.toNat).length ≤ 1000000 ∧ out_3.length ≤ 1000000) ∧ (True ∧ (True ∧ (True ∧ (if (bif true then (bif false then true else (bif true then (decide (cmpL (setOf ((goals8 t : Int)).toNat bits_1.toNat) out_3 < 0)) else false)) else false) = true then (inI (bits_1 + (1 : Int)) ∧ Λ1 (setOf ((goals8 t : Int)).toNat bits_1.toNat) (bits_1 + (1 : Int))) else (inI (bits_1 + (1 : Int)) ∧ Λ1 out_3 (bits_1 + (1 : Int)))))))) else (false = false ∧ (True ∧ (True ∧ (if (bif true then (bif false then true else false) else false) = true then (inI (bits_1 + (1 : Int)) ∧ Λ1 (setOf ((goals8 t : Int)).toNat bits_1.toNat) (bits_1 + (1 : Int))) else (inI (bits_1 + (1 : Int)) ∧ Λ1 out_3 (bits_1 + (1 : Int))))))))) else (false = false ∧ (inI (bits_1 + (1 : Int)) ∧ Λ1 out_3 (bits_1 + (1 : Int))))))
def cExclR_4 (Λ1 : (List Int) → Int → Prop) (Λ2 : Int → (List Int) → Bool → Int → Prop) (Λ3 : Int → (List Int) → Bool → Int → Prop) (Λ4 : Int → Bool → Int → (List Int) → Int → Int → Prop) (t : (List (List Int))) (y0 : (List Int)) (y1 : Int) (bits_1 : Int) (good_3 : Bool) (r_3 : Int) (out_4 : (List Int)) (n_4 : Int) (i_4 : Int) : Prop :=
  if (decide (i_4 < (List.length (setOf ((goals8 t : Int)).toNat bits_1.toNat) : Int))) = true then (idx r_3 (List.length t : Int) ∧ (idx i_4 (List.length (setOf ((goals8 t : Int)).toNat bits_1.toNat) : Int) ∧ (idx (List.getD (setOf ((goals8 t : Int)).toNat bits_1.toNat) (Int.toNat i_4) 0) (List.length (List.getD t (Int.toNat r_3) ([] : List Int)) : Int) ∧ (inI (n_4 + (List.getD (List.getD t (Int.toNat r_3) ([] : List Int)) (Int.toNat (List.getD (setOf ((goals8 t : Int)).toNat bits_1.toNat) (Int.toNat i_4) 0)) 0)) ∧ (inI (i_4 + (1 : Int)) ∧ Λ4 bits_1 good_3 r_3 out_4 (n_4 + (List.getD (List.getD t (Int.toNat r_3) ([] : List Int)) (Int.toNat (List.getD (setOf ((goals8 t : Int)).toNat bits_1.toNat) (Int.toNat i_4) 0)) 0)) (i_4 + (1 : Int))))))) else (inI (r_3 + (1 : Int)) ∧ Λ3 bits_1 out_4 (decide (n_4 < (2 : Int))) (r_3 + (1 : Int)))
theorem cExclR_law (h : ∀ (t : (List (List Int))), cExclR.A.wf (t, ()) → ∀ (Λ1 : (List Int) → Int → Prop) (Λ2 : Int → (List Int) → Bool → Int → Prop) (Λ3 : Int → (List Int) → Bool → Int → Prop) (Λ4 : Int → Bool → Int → (List Int) → Int → Int → Prop), (∀ (out_1 : (List Int)) (bits_1 : Int), cExclR_1 Λ1 Λ2 Λ3 Λ4 t (if validT t = 0 then exclT t else []) (validT t) out_1 bits_1 → Λ1 out_1 bits_1) → (∀ (bits_1 : Int) (out_2 : (List Int)) (good_2 : Bool) (i_2 : Int), cExclR_2 Λ1 Λ2 Λ3 Λ4 t (if validT t = 0 then exclT t else []) (validT t) bits_1 out_2 good_2 i_2 → Λ2 bits_1 out_2 good_2 i_2) → (∀ (bits_1 : Int) (out_3 : (List Int)) (good_3 : Bool) (r_3 : Int), cExclR_3 Λ1 Λ2 Λ3 Λ4 t (if validT t = 0 then exclT t else []) (validT t) bits_1 out_3 good_3 r_3 → Λ3 bits_1 out_3 good_3 r_3) → (∀ (bits_1 : Int) (good_3 : Bool) (r_3 : Int) (out_4 : (List Int)) (n_4 : Int) (i_4 : Int), cExclR_4 Λ1 Λ2 Λ3 Λ4 t (if validT t = 0 then exclT t else []) (validT t) bits_1 good_3 r_3 out_4 n_4 i_4 → Λ4 bits_1 good_3 r_3 out_4 n_4 i_4) → cExclR_0 Λ1 Λ2 Λ3 Λ4 t (if validT t = 0 then exclT t else []) (validT t)) : ConOK Go.Proofs.Try.prog 20 cExclR := by
  refine lawL (Γ := [(65, cBefore8r), (62, cGoals8r), (64, cHas8r), (61, cOpen8r), (63, cSub8r), (36, cVal8r)]) (Θ := Th) (n := 98) [([1, 1, 1, 1, 1, 0, 1, 0], ⟨[(0, false), (5, true), (6, true), (7, true)], [(20, true)]⟩), ([1, 1, 1, 1, 1, 0, 1, 0, 0, 1, 0, 0, 1, 1, 0, 1, 0], ⟨[(0, false), (5, true), (6, true), (7, true), (8, true), (9, true), (10, true)], [(20, true), (31, true)]⟩), ([1, 1, 1, 1, 1, 0, 1, 0, 0, 1, 0, 0, 1, 1, 1, 0, 1, 0], ⟨[(0, false), (5, true), (6, true), (7, true), (8, true), (9, true), (11, true)], [(20, true), (31, true)]⟩), ([1, 1, 1, 1, 1, 0, 1, 0, 0, 1, 0, 0, 1, 1, 1, 0, 1, 0, 0, 1, 0, 0, 1, 0, 1, 0], ⟨[(0, false), (5, true), (6, true), (7, true), (8, true), (11, true), (12, true), (13, true), (52, true)], [(20, true), (31, true)]⟩)] ⟨cBefore8r_ok, cGoals8r_ok, cHas8r_ok, cOpen8r_ok, cSub8r_ok, cVal8r_ok, trivial⟩ (by kernel_rfl) th_ok mix_ok Go.Proofs.Try.func20 (by kernel_rfl) ?_
  intro x hw hp Λ hC
  have h0 := h x.1 hw (fun out_1 bits_1 => Λ [1, 1, 1, 1, 1, 0, 1, 0] ([(0, .d false (.sl (.sl .int)) x.1), (5, .own 20 0), (6, .d true (.sl .int) out_1), (7, .d true .int bits_1)], [(20, .sl true .int (openL x.1))])) (fun bits_1 out_2 good_2 i_2 => Λ [1, 1, 1, 1, 1, 0, 1, 0, 0, 1, 0, 0, 1, 1, 0, 1, 0] ([(0, .d false (.sl (.sl .int)) x.1), (5, .own 20 0), (6, .d true (.sl .int) out_2), (7, .d true .int bits_1), (8, .own 31 0), (9, .d true .bool good_2), (10, .d true .int i_2)], [(20, .sl true .int (openL x.1)), (31, .sl true .int (setOf ((goals8 x.1 : Int)).toNat bits_1.toNat))])) (fun bits_1 out_3 good_3 r_3 => Λ [1, 1, 1, 1, 1, 0, 1, 0, 0, 1, 0, 0, 1, 1, 1, 0, 1, 0] ([(0, .d false (.sl (.sl .int)) x.1), (5, .own 20 0), (6, .d true (.sl .int) out_3), (7, .d true .int bits_1), (8, .own 31 0), (9, .d true .bool good_3), (11, .d true .int r_3)], [(20, .sl true .int (openL x.1)), (31, .sl true .int (setOf ((goals8 x.1 : Int)).toNat bits_1.toNat))])) (fun bits_1 good_3 r_3 out_4 n_4 i_4 => Λ [1, 1, 1, 1, 1, 0, 1, 0, 0, 1, 0, 0, 1, 1, 1, 0, 1, 0, 0, 1, 0, 0, 1, 0, 1, 0] ([(0, .d false (.sl (.sl .int)) x.1), (5, .own 20 0), (6, .d true (.sl .int) out_4), (7, .d true .int bits_1), (8, .own 31 0), (11, .d true .int r_3), (12, .d true .int n_4), (13, .d true .int i_4), (52, .d true .bool good_3)], [(20, .sl true .int (openL x.1)), (31, .sl true .int (setOf ((goals8 x.1 : Int)).toNat bits_1.toNat))])) (fun out_1 bits_1 hb => hC [1, 1, 1, 1, 1, 0, 1, 0] ([(0, .d false (.sl (.sl .int)) x.1), (5, .own 20 0), (6, .d true (.sl .int) out_1), (7, .d true .int bits_1)], [(20, .sl true .int (openL x.1))]) (Eq.mpr (by kernel_rfl) hb)) (fun bits_1 out_2 good_2 i_2 hb => hC [1, 1, 1, 1, 1, 0, 1, 0, 0, 1, 0, 0, 1, 1, 0, 1, 0] ([(0, .d false (.sl (.sl .int)) x.1), (5, .own 20 0), (6, .d true (.sl .int) out_2), (7, .d true .int bits_1), (8, .own 31 0), (9, .d true .bool good_2), (10, .d true .int i_2)], [(20, .sl true .int (openL x.1)), (31, .sl true .int (setOf ((goals8 x.1 : Int)).toNat bits_1.toNat))]) (Eq.mpr (by kernel_rfl) hb)) (fun bits_1 out_3 good_3 r_3 hb => hC [1, 1, 1, 1, 1, 0, 1, 0, 0, 1, 0, 0, 1, 1, 1, 0, 1, 0] ([(0, .d false (.sl (.sl .int)) x.1), (5, .own 20 0), (6, .d true (.sl .int) out_3), (7, .d true .int bits_1), (8, .own 31 0), (9, .d true .bool good_3), (11, .d true .int r_3)], [(20, .sl true .int (openL x.1)), (31, .sl true .int (setOf ((goals8 x.1 : Int)).toNat bits_1.toNat))]) (Eq.mpr (by kernel_rfl) hb)) (fun bits_1 good_3 r_3 out_4 n_4 i_4 hb => hC [1, 1, 1, 1, 1, 0, 1, 0, 0, 1, 0, 0, 1, 1, 1, 0, 1, 0, 0, 1, 0, 0, 1, 0, 1, 0] ([(0, .d false (.sl (.sl .int)) x.1), (5, .own 20 0), (6, .d true (.sl .int) out_4), (7, .d true .int bits_1), (8, .own 31 0), (11, .d true .int r_3), (12, .d true .int n_4), (13, .d true .int i_4), (52, .d true .bool good_3)], [(20, .sl true .int (openL x.1)), (31, .sl true .int (setOf ((goals8 x.1 : Int)).toNat bits_1.toNat))]) (Eq.mpr (by kernel_rfl) hb))
  exact Eq.mpr (by kernel_rfl) h0
theorem cExclR_ok : ConOK Go.Proofs.Try.prog 20 cExclR := by
  refine cExclR_law ?_
  intro t hw Λ1 Λ2 Λ3 Λ4 h1 h2 h3 h4
  unfold cExclR_0
  refine ⟨trivial, ?_⟩
  by_cases h0 : validT t = 0
  · rw [if_neg (by simp [h0])]
    rw [if_pos h0, h0] at h1 h2 h3 h4
    have ht := validT_ok.1 h0
    have h8 := ht.1
    obtain ⟨G, hG⟩ : ∃ G, G = goals8 t := ⟨_, rfl⟩
    have hG10 : G ≤ 10 := by rw [hG]; exact ht.2.1
    have h2n : 2 ^ G ≤ 1024 := Nat.le_trans (Nat.pow_le_pow_right (by omega) hG10) (by decide)
    obtain ⟨N, hN⟩ : ∃ N : Nat, N = 2 ^ G := ⟨_, rfl⟩
    rw [← hN] at h2n
    have e : (1 : Int) * 2 ^ (Int.toNat ((goals8 t : Nat) : Int)) = (N : Int) := by rw [Int.toNat_natCast, ← hG, Int.one_mul, hN]; norm_cast
    have hpl : (openL t).length ≤ 1000000 := by have := openL_len t; omega
    refine ⟨ht, ?_⟩
    refine upto (n := N) (Q := fun b => Λ1 (exK t b) b) ?_ ?_ 0 (Nat.zero_le _)
    · apply h1; unfold cExclR_1
      refine ⟨trivial, ⟨by omega, by omega, by rw [e]; unfold inI; omega⟩, ?_⟩
      rw [if_neg (by rw [decide_eq_true_eq, e]; omega)]
      refine ⟨?_, rfl, trivial⟩
      rw [← excl_same]
      unfold exK
      rw [List.take_of_length_le (by rw [setsL_len, ← hG, ← hN]; exact Nat.le_refl _)]
    · intro b hb ih
      apply h1; unfold cExclR_1
      refine ⟨trivial, ⟨by omega, by omega, by rw [e]; unfold inI; omega⟩, ?_⟩
      rw [if_pos (by rw [decide_eq_true_eq, e]; omega)]
      refine ⟨trivial, ⟨by omega, by omega, by omega, by omega⟩, ?_⟩
      rw [exK_succ t (by rw [← hG, ← hN]; exact hb)] at ih
      have hol : (exK t b).length ≤ 1000000 := by
        have := exK_len t b (by rw [← hG, ← hN]; omega)
        omega
      generalize exK t b = out at ih hol ⊢
      have hin : inI ((b : Int) + 1) := by unfold inI; omega
      obtain ⟨S, hS⟩ : ∃ S, S = setOf (goals8 t) b := ⟨_, rfl⟩
      have hSl : S.length ≤ 10 := by rw [hS]; have := setOf_len (goals8 t) b; omega
      have hSm : ∀ g ∈ S, 0 ≤ g ∧ g < goals8 t := fun g hg => setOf_mem (by rw [← hS]; exact hg)
      rw [← hS] at ih
      have hSe : setOf (Int.toNat ((goals8 t : Nat) : Int)) (Int.toNat (b : Int)) = S := by rw [Int.toNat_natCast, Int.toNat_natCast, hS]
      have hno : goodR t S = false → Λ1 out ((b : Int) + 1) := fun h => by
        unfold stepB at ih
        rw [if_neg (by simp [h])] at ih
        exact ih
      have ih' : goodR t S = true → Λ1 (if better S out = true then S else out) ((b : Int) + 1) := fun h => by
        unfold stepB at ih
        simp only [h, and_true] at ih
        exact ih
      clear ih
      obtain ⟨g0, hg0⟩ : ∃ g0, g0 = S.all fun g => decide (g ∈ openL t) := ⟨_, rfl⟩
      have hgood : goodR t S = (g0 && t.all (okRow S)) := by unfold goodR; rw [exclB_all, hg0]
      have hend : ∀ r : Nat, r ≤ t.length → ∀ gd, gd = (g0 && (t.take r).all (okRow S)) → Λ3 (b : Int) out gd (r : Int) := by
        refine upto ?_ ?_
        · intro gd hgd
          rw [List.take_length, ← hgood] at hgd
          apply h3; unfold cExclR_3
          rw [if_neg (by simp), hSe]
          cases gd
          · rw [if_neg (by simp)]
            exact ⟨rfl, rfl, hin, hno hgd.symm⟩
          · have ih2 := ih' hgd.symm
            rw [if_pos rfl]
            refine ⟨rfl, ?_⟩
            by_cases g1 : S.length > out.length
            · rw [if_pos (by simpa using g1)]
              rw [if_pos (better_iff.2 (.inl g1))] at ih2
              refine ⟨rfl, trivial, ?_⟩
              rw [if_pos (by rfl)]
              exact ⟨hin, ih2⟩
            · rw [if_neg (by simpa using g1)]
              by_cases g2 : S.length = out.length
              · rw [if_pos (by simp [g2])]
                refine ⟨⟨by omega, hol⟩, trivial, trivial, trivial, ?_⟩
                by_cases g3 : cmpL S out < 0
                · rw [if_pos (by simpa using g3)]
                  rw [if_pos (better_iff.2 (.inr ⟨g2, g3⟩))] at ih2
                  exact ⟨hin, ih2⟩
                · rw [if_neg (by simpa using g3)]
                  rw [if_neg (by rw [better_iff]; omega)] at ih2
                  exact ⟨hin, ih2⟩
              · rw [if_neg (by simp; omega)]
                rw [if_neg (by rw [better_iff]; omega)] at ih2
                refine ⟨rfl, trivial, trivial, ?_⟩
                rw [if_neg (by simp)]
                exact ⟨hin, ih2⟩
        · intro r hr ihr gd hgd
          apply h3; unfold cExclR_3
          rw [if_pos (by simpa using hr), hSe]
          refine ⟨trivial, ?_⟩
          cases gd
          · rw [if_neg (by simp), if_neg (by simp)]
            refine ⟨rfl, hin, hno ?_⟩
            rw [hgood]
            have hsp : t.all (okRow S) = ((t.take r).all (okRow S) && (t.drop r).all (okRow S)) := by rw [← List.all_append, List.take_append_drop]
            rw [hsp, ← Bool.and_assoc, ← hgd]; rfl
          · rw [if_pos (by rfl)]
            have hrl := okT_row ht hr
            have hr01 : ∀ x ∈ t.getD r [], x = 0 ∨ x = 1 := (ht.2.2 _ (mem_getD hr)).2
            have hv : ∀ g ∈ S, 0 ≤ (t.getD r []).getD g.toNat 0 ∧ (t.getD r []).getD g.toNat 0 ≤ 1 := fun g hg => by
              have q := hSm g hg
              rcases hr01 _ (mem_getD (d := 0) (i := g.toNat) (by omega)) with e | e <;> rw [e] <;> omega
            have hsb : ∀ i, 0 ≤ ((S.take i).map fun g => (t.getD r []).getD g.toNat 0).sum ∧ ((S.take i).map fun g => (t.getD r []).getD g.toNat 0).sum ≤ S.length := sum01 hv
            refine upto (n := S.length) (Q := fun i => Λ4 (b : Int) true (r : Int) out (((S.take i).map fun g => (t.getD r []).getD g.toNat 0).sum) (i : Int)) ?_ ?_ 0 (Nat.zero_le _)
            · apply h4; unfold cExclR_4
              rw [hSe, if_neg (by simp), List.take_length]
              refine ⟨by unfold inI; omega, ihr _ ?_⟩
              rw [take_snoc [] hr, List.all_append, ← Bool.and_assoc, ← hgd]
              simp only [List.all_cons, List.all_nil, Bool.and_true, Bool.true_and]
              rfl
            · intro i hi ihi
              apply h4; unfold cExclR_4
              rw [hSe, if_pos (by simpa using hi), Int.toNat_natCast, Int.toNat_natCast]
              have h5 := hsb i
              have h6 := hSm _ (mem_getD (d := 0) hi)
              have h7 := hv _ (mem_getD (d := 0) hi)
              rw [sum_take (f := fun g => (t.getD r []).getD g.toNat 0) hi] at ihi
              generalize S.getD i 0 = g at h6 h7 ihi ⊢
              exact ⟨idx_nat hr, idx_nat hi, ⟨h6.1, by omega⟩, by unfold inI; omega, by unfold inI; omega, ihi⟩
      refine upto (n := S.length) (Q := fun i => Λ2 (b : Int) out ((S.take i).all fun g => decide (g ∈ openL t)) (i : Int)) ?_ ?_ 0 (Nat.zero_le _)
      · apply h2; unfold cExclR_2
        rw [hSe, if_neg (by simp), List.take_length, ← hg0]
        exact hend 0 (Nat.zero_le _) g0 (by simp)
      · intro i hi ihi
        apply h2; unfold cExclR_2
        rw [hSe, if_pos (by simpa using hi)]
        rw [take_snoc 0 hi, List.all_append] at ihi
        have hini : inI ((i : Int) + 1) := by unfold inI; omega
        cases hp : (S.take i).all fun g => decide (g ∈ openL t)
        · rw [hp] at ihi
          rw [if_neg (by simp)]
          exact ⟨rfl, hini, ihi⟩
        · rw [hp] at ihi
          rw [if_pos rfl]
          refine ⟨idx_nat hi, hpl, trivial, hini, ?_⟩
          rw [Int.toNat_natCast]
          simpa using ihi
  · rw [if_pos (by simp [h0]), if_neg h0]
    exact ⟨rfl, rfl, trivial⟩
abbrev cExcludesL : Con := { A := (.cons (.sl (.sl .int)) .nil), R := (.cons .bool .nil), pre := fun x => True, F := fun x => (true, ()) }
def cExcludesL_0  (t : (List (List Int))) (y0 : Bool) : Prop :=
  True ∧ (if (longT t) = true then (True ∧ (true = y0 ∧ True)) else (True ∧ (True ∧ (True ∧ (if (decide (((if validT t = 0 then exclT t else [])) = ((if validT t = 0 then exclT t else [])))) = true then (True ∧ (if (bif true then ((validT t) == (validT t)) else false) = true then (True ∧ (True ∧ ((bif true then true else false) = y0 ∧ True))) else (false = false ∧ (false = y0 ∧ True)))) else (false = false ∧ (false = false ∧ (false = y0 ∧ True))))))))
theorem cExcludesL_law (h : ∀ (t : (List (List Int))), cExcludesL.A.wf (t, ()) → cExcludesL_0  t true) : ConOK Go.Proofs.Try.prog 3 cExcludesL := by
  refine lawL (Γ := [(20, cExclR), (19, cExcluding), (17, cLong8), (21, cSameI8), (18, cSane8)]) (Θ := Th) (n := 31) [] ⟨cExclR_ok, cExcluding_ok, cLong8_ok, cSameI8_ok, cSane8_ok, trivial⟩ (by kernel_rfl) th_ok mix_ok Go.Proofs.Try.func3 (by kernel_rfl) ?_
  intro x hw hp Λ hC
  have h0 := h x.1 hw  
  exact Eq.mpr (by kernel_rfl) h0
theorem cExcludesL_ok : ConOK Go.Proofs.Try.prog 3 cExcludesL := by
  refine cExcludesL_law ?_
  intro t hw
  unfold cExcludesL_0
  refine ⟨trivial, ?_⟩
  cases hL : longT t
  · rw [if_neg (by simp)]
    simp
  · rw [if_pos rfl]
    exact ⟨trivial, rfl, trivial⟩
end Go.Tk
