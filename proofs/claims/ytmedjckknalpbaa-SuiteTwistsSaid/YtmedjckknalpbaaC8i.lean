import Derived.Test.YtmedjckknalpbaaC8h
import Derived.Test.YtmedjckknalpbaaP8x
set_option linter.unusedSimpArgs false
set_option linter.unusedVariables false
set_option linter.unnecessarySimpa false
namespace Go.Tk
open Go Go.RowKit
abbrev cHas8r : Con := { A := (.cons (.sl .int) (.cons .int .nil)), R := (.cons .bool .nil), pre := fun x => x.1.length ≤ 1000000, F := fun x => (decide (x.2.1 ∈ x.1), ()) }
def cHas8r_0 (Λ1 : Int → Prop) (l : (List Int)) (n : Int) (y0 : Bool) : Prop :=
  Λ1 (0 : Int)
def cHas8r_1 (Λ1 : Int → Prop) (l : (List Int)) (n : Int) (y0 : Bool)  (i_1 : Int) : Prop :=
  if (decide (i_1 < (List.length l : Int))) = true then (idx i_1 (List.length l : Int) ∧ (if ((List.getD l (Int.toNat i_1) 0) == n) = true then (true = y0 ∧ True) else (inI (i_1 + (1 : Int)) ∧ Λ1 (i_1 + (1 : Int))))) else (false = y0 ∧ True)
theorem cHas8r_law (h : ∀ (l : (List Int)) (n : Int), cHas8r.A.wf (l, n, ()) → (l.length ≤ 1000000) → ∀ (Λ1 : Int → Prop), (∀ (i_1 : Int), cHas8r_1 Λ1 l n (decide (n ∈ l)) i_1 → Λ1 i_1) → cHas8r_0 Λ1 l n (decide (n ∈ l))) : ConOK Go.Proofs.Try.prog 64 cHas8r := by
  refine lawL (Γ := []) (Θ := Th) (n := 18) [([1, 0, 1, 0], ⟨[(0, false), (1, false), (5, true)], []⟩)] trivial (by kernel_rfl) th_ok mix_ok Go.Proofs.Try.func64 (by kernel_rfl) ?_
  intro x hw hp Λ hC
  have h0 := h x.1 x.2.1 hw hp (fun i_1 => Λ [1, 0, 1, 0] ([(0, .d false (.sl .int) x.1), (1, .d false .int x.2.1), (5, .d true .int i_1)], [])) (fun i_1 hb => hC [1, 0, 1, 0] ([(0, .d false (.sl .int) x.1), (1, .d false .int x.2.1), (5, .d true .int i_1)], []) (Eq.mpr (by kernel_rfl) hb))
  exact Eq.mpr (by kernel_rfl) h0
theorem cHas8r_ok : ConOK Go.Proofs.Try.prog 64 cHas8r := by
  refine cHas8r_law ?_
  intro l n hw hp Λ1 h1
  unfold cHas8r_0
  refine upto (n := l.length) (Q := fun i => (l.take i).any (fun r => r == n) = false → Λ1 i) ?_ ?_ 0 (Nat.zero_le _) rfl
  · intro ha
    rw [List.take_length] at ha
    apply h1; unfold cHas8r_1; rw [if_neg (by simp)]
    refine ⟨?_, trivial⟩
    have : ¬ n ∈ l := fun h => by
      have := List.any_eq_false.1 ha n h
      simp at this
    simp [this]
  · intro i hi ih ha
    apply h1; unfold cHas8r_1; rw [if_pos (by simpa using hi), Int.toNat_natCast]
    refine ⟨idx_nat hi, ?_⟩
    cases hv : (List.getD l i 0 == n)
    · rw [if_neg (by simp)]
      exact ⟨inI_succ hi (by omega), ih (any_take_next (p := fun r => r == n) 0 hi ha hv)⟩
    · rw [if_pos (by rfl)]
      have : n ∈ l := by
        have e := eq_of_beq hv
        rw [← e]; exact mem_getD hi
      exact ⟨by simp [this], trivial⟩
theorem bit_test1 (m k : Nat) (h : m < 9223372036854775808) : (IntKind.i64.wrap (BitVec.ofInt 64 (Int.fdiv (m : Int) (2 ^ k)) &&& BitVec.ofInt 64 (1 : Int)).toNat == (1 : Int)) = m.testBit k := by
  have e : Int.fdiv (m : Int) (2 ^ k) = ((m / 2 ^ k : Nat) : Int) := by
    rw [show ((2 : Int) ^ k) = ((2 ^ k : Nat) : Int) by norm_cast]
    exact (Int.ofNat_fdiv m (2 ^ k)).symm
  rw [e, bit_and _ (Nat.lt_of_le_of_lt (Nat.div_le_self ..) h), Nat.testBit_eq_decide_div_mod_eq]
  rcases Nat.mod_two_eq_zero_or_one (m / 2 ^ k) with e | e <;> rw [e] <;> decide
abbrev cSub8r : Con := { A := (.cons .int (.cons .int .nil)), R := (.cons (.osl .int) .nil), pre := fun x => 0 ≤ x.1 ∧ x.1 < 4294967296 ∧ 0 ≤ x.2.1 ∧ x.2.1 ≤ 60, F := fun x => (setOf x.2.1.toNat x.1.toNat, ()) }
def cSub8r_0 (Λ1 : Int → (List Int) → Prop) (bits : Int) (n : Int) (y0 : (List Int)) : Prop :=
  Λ1 (0 : Int) ([] : List Int)
def cSub8r_1 (Λ1 : Int → (List Int) → Prop) (bits : Int) (n : Int) (y0 : (List Int))  (i_1 : Int) (out_1 : (List Int)) : Prop :=
  if (decide (i_1 < n)) = true then ((0 ≤ i_1 ∧ i_1 < 64) ∧ (True ∧ (if ((IntKind.i64.wrap (BitVec.ofInt 64 (Int.fdiv bits (2 ^ (Int.toNat i_1))) &&& BitVec.ofInt 64 (1 : Int)).toNat) == (1 : Int)) = true then (List.length out_1 + List.length [i_1] ≤ 4294967296 ∧ (inI (i_1 + (1 : Int)) ∧ Λ1 (i_1 + (1 : Int)) (out_1 ++ [i_1]))) else (inI (i_1 + (1 : Int)) ∧ Λ1 (i_1 + (1 : Int)) out_1)))) else out_1 = y0
theorem cSub8r_law (h : ∀ (bits : Int) (n : Int), cSub8r.A.wf (bits, n, ()) → (0 ≤ bits ∧ bits < 4294967296 ∧ 0 ≤ n ∧ n ≤ 60) → ∀ (Λ1 : Int → (List Int) → Prop), (∀ (i_1 : Int) (out_1 : (List Int)), cSub8r_1 Λ1 bits n (setOf n.toNat bits.toNat) i_1 out_1 → Λ1 i_1 out_1) → cSub8r_0 Λ1 bits n (setOf n.toNat bits.toNat)) : ConOK Go.Proofs.Try.prog 63 cSub8r := by
  refine lawL (Γ := []) (Θ := Th) (n := 22) [([1, 1, 0, 1, 0], ⟨[(0, false), (1, false), (5, true), (6, true)], [(5, true)]⟩)] trivial (by kernel_rfl) th_ok mix_ok Go.Proofs.Try.func63 (by kernel_rfl) ?_
  intro x hw hp Λ hC
  have h0 := h x.1 x.2.1 hw hp (fun i_1 out_1 => Λ [1, 1, 0, 1, 0] ([(0, .d false .int x.1), (1, .d false .int x.2.1), (5, .own 5 0), (6, .d true .int i_1)], [(5, .sl true .int out_1)])) (fun i_1 out_1 hb => hC [1, 1, 0, 1, 0] ([(0, .d false .int x.1), (1, .d false .int x.2.1), (5, .own 5 0), (6, .d true .int i_1)], [(5, .sl true .int out_1)]) (Eq.mpr (by kernel_rfl) hb))
  exact Eq.mpr (by kernel_rfl) h0
theorem cSub8r_ok : ConOK Go.Proofs.Try.prog 63 cSub8r := by
  refine cSub8r_law ?_
  intro bits n hw hp Λ1 h1
  unfold cSub8r_0
  obtain ⟨p1, p2, p3, p4⟩ := hp
  obtain ⟨m, rfl⟩ : ∃ m : Nat, n = m := ⟨n.toNat, by omega⟩
  obtain ⟨b, rfl⟩ : ∃ b : Nat, bits = b := ⟨bits.toNat, by omega⟩
  rw [Int.toNat_natCast, Int.toNat_natCast] at h1
  refine upto (n := m) (Q := fun i => Λ1 i (setOf i b)) ?_ ?_ 0 (Nat.zero_le _)
  · apply h1; unfold cSub8r_1; rw [if_neg (by simp)]
  · intro i hi ih
    apply h1; unfold cSub8r_1; rw [if_pos (by simpa using hi)]
    refine ⟨⟨by omega, by omega⟩, trivial, ?_⟩
    rw [Int.toNat_natCast, bit_test1 b i (by omega)]
    have hs : setOf (i + 1) b = if b.testBit i = true then setOf i b ++ [(i : Int)] else setOf i b := by
      unfold setOf
      rw [filt_nums_succ]
      simp
    rw [hs] at ih
    have hl := setOf_len i b
    cases hv : b.testBit i
    · rw [hv] at ih
      rw [if_neg (by simp)]
      exact ⟨by unfold inI; omega, by simpa using ih⟩
    · rw [hv] at ih
      rw [if_pos rfl]
      exact ⟨by simp; omega, by unfold inI; omega, by simpa using ih⟩
abbrev cBefore8r : Con := { A := (.cons (.sl .int) (.cons (.sl .int) .nil)), R := (.cons .bool .nil), pre := fun x => x.1.length ≤ 1000000 ∧ x.2.1.length ≤ 1000000, F := fun x => (decide (cmpL x.1 x.2.1 < 0), ()) }
def cBefore8r_0 (Λ1 : Int → Prop) (a : (List Int)) (b : (List Int)) (y0 : Bool) : Prop :=
  Λ1 (0 : Int)
def cBefore8r_1 (Λ1 : Int → Prop) (a : (List Int)) (b : (List Int)) (y0 : Bool)  (i_1 : Int) : Prop :=
  if (decide (i_1 < (List.length a : Int))) = true then (True ∧ (if (bif true then (decide (i_1 < (List.length b : Int))) else false) = true then (idx i_1 (List.length a : Int) ∧ (idx i_1 (List.length b : Int) ∧ (if ((List.getD a (Int.toNat i_1) 0) != (List.getD b (Int.toNat i_1) 0)) = true then (idx i_1 (List.length a : Int) ∧ (idx i_1 (List.length b : Int) ∧ ((decide ((List.getD a (Int.toNat i_1) 0) < (List.getD b (Int.toNat i_1) 0))) = y0 ∧ True))) else (inI (i_1 + (1 : Int)) ∧ Λ1 (i_1 + (1 : Int)))))) else ((decide ((List.length a : Int) < (List.length b : Int))) = y0 ∧ True))) else (false = false ∧ ((decide ((List.length a : Int) < (List.length b : Int))) = y0 ∧ True))
theorem cBefore8r_law (h : ∀ (a : (List Int)) (b : (List Int)), cBefore8r.A.wf (a, b, ()) → (a.length ≤ 1000000 ∧ b.length ≤ 1000000) → ∀ (Λ1 : Int → Prop), (∀ (i_1 : Int), cBefore8r_1 Λ1 a b (decide (cmpL a b < 0)) i_1 → Λ1 i_1) → cBefore8r_0 Λ1 a b (decide (cmpL a b < 0))) : ConOK Go.Proofs.Try.prog 65 cBefore8r := by
  refine lawL (Γ := []) (Θ := Th) (n := 41) [([1, 0, 1, 0], ⟨[(0, false), (1, false), (5, true)], []⟩)] trivial (by kernel_rfl) th_ok mix_ok Go.Proofs.Try.func65 (by kernel_rfl) ?_
  intro x hw hp Λ hC
  have h0 := h x.1 x.2.1 hw hp (fun i_1 => Λ [1, 0, 1, 0] ([(0, .d false (.sl .int) x.1), (1, .d false (.sl .int) x.2.1), (5, .d true .int i_1)], [])) (fun i_1 hb => hC [1, 0, 1, 0] ([(0, .d false (.sl .int) x.1), (1, .d false (.sl .int) x.2.1), (5, .d true .int i_1)], []) (Eq.mpr (by kernel_rfl) hb))
  exact Eq.mpr (by kernel_rfl) h0
theorem cBefore8r_ok : ConOK Go.Proofs.Try.prog 65 cBefore8r := by
  refine cBefore8r_law ?_
  intro a b hw hp Λ1 h1
  unfold cBefore8r_0
  obtain ⟨p1, p2⟩ := hp
  have key : ∀ i, i ≤ a.length → i ≤ b.length → a.take i = b.take i → Λ1 (i : Int) := by
    refine upto ?_ ?_
    · intro h2 ha
      apply h1; unfold cBefore8r_1
      rw [if_neg (by simp), cmpL_end ha h2]
      refine ⟨rfl, ?_, trivial⟩
      by_cases hlt : a.length < b.length
      · rw [if_pos hlt]; simp; omega
      · rw [if_neg hlt]; simp; omega
    · intro i hi ih h2 ha
      apply h1; unfold cBefore8r_1
      rw [if_pos (by simpa using hi)]
      refine ⟨trivial, ?_⟩
      by_cases hlt : i < b.length
      · rw [if_pos (by simpa using hlt), Int.toNat_natCast]
        refine ⟨idx_nat hi, idx_nat hlt, ?_⟩
        by_cases hv : a.getD i 0 = b.getD i 0
        · rw [hv, if_neg (by simp)]
          exact ⟨by unfold inI; omega, ih hlt (by rw [take_snoc 0 hi, take_snoc 0 hlt, ha, hv])⟩
        · rw [if_pos (by rw [bne_iff_ne]; exact hv), cmpL_at ha hi hlt hv]
          refine ⟨idx_nat hi, idx_nat hlt, ?_, trivial⟩
          rw [decide_eq_decide]
          unfold cmpI
          generalize a.getD i 0 = x
          generalize b.getD i 0 = y
          split
          · omega
          · split
            · omega
            · omega
      · rw [if_neg (by simp; omega), cmpL_gt ha hi (by omega) h2]
        exact ⟨by simp; omega, trivial⟩
  exact key 0 (Nat.zero_le _) (Nat.zero_le _) rfl
theorem stepB_take (t : Ste) {i : Nat} (hi : i < 2 ^ goals8 t) : ((setsL (goals8 t)).take (i + 1)).foldl (stepB (goodR t)) [] = stepB (goodR t) (((setsL (goals8 t)).take i).foldl (stepB (goodR t)) []) (setOf (goals8 t) i) := by
  rw [foldl_take [] (stepB (goodR t)) [] (by rw [setsL_len]; exact hi), setsL_get hi]
abbrev cEssR : Con := { A := (.cons (.sl (.sl .int)) .nil), R := (.cons (.osl .int) (.cons .int .nil)), pre := fun x => True, F := fun x => ((if validT x.1 = 0 then essT x.1 else []), validT x.1, ()) }
def cEssR_0 (Λ1 : Int → (List Int) → Prop) (Λ2 : (List Int) → Int → Int → (List Int) → Prop) (t : (List (List Int))) (y0 : (List Int)) (y1 : Int) : Prop :=
  True ∧ (if ((validT t) != (0 : Int)) = true then ((validT t) = y1 ∧ ([] : List Int) = y0) else Λ1 (0 : Int) ([] : List Int))
def cEssR_1 (Λ1 : Int → (List Int) → Prop) (Λ2 : (List Int) → Int → Int → (List Int) → Prop) (t : (List (List Int))) (y0 : (List Int)) (y1 : Int)  (r_1 : Int) (out_1 : (List Int)) : Prop :=
  if (decide (r_1 < (List.length t : Int))) = true then Λ2 out_1 r_1 (0 : Int) ([] : List Int) else ((0 : Int) = y1 ∧ out_1 = y0)
def cEssR_2 (Λ1 : Int → (List Int) → Prop) (Λ2 : (List Int) → Int → Int → (List Int) → Prop) (t : (List (List Int))) (y0 : (List Int)) (y1 : Int) (out_1 : (List Int)) (r_1 : Int) (i_2 : Int) (others_2 : (List Int)) : Prop :=
  if (decide (i_2 < (List.length t : Int))) = true then (if (i_2 != r_1) = true then (List.length others_2 + List.length [i_2] ≤ 4294967296 ∧ (inI (i_2 + (1 : Int)) ∧ Λ2 out_1 r_1 (i_2 + (1 : Int)) (others_2 ++ [i_2]))) else (inI (i_2 + (1 : Int)) ∧ Λ2 out_1 r_1 (i_2 + (1 : Int)) others_2)) else ((okT t ∧ inT t others_2 ∧ others_2.length ≤ 1000000) ∧ (okT t ∧ (if (decide ((List.length (metL t others_2) : Int) < (List.length (openL t) : Int))) = true then (List.length out_1 + List.length [r_1] ≤ 4294967296 ∧ (inI (r_1 + (1 : Int)) ∧ Λ1 (r_1 + (1 : Int)) (out_1 ++ [r_1]))) else (inI (r_1 + (1 : Int)) ∧ Λ1 (r_1 + (1 : Int)) out_1))))
theorem cEssR_law (h : ∀ (t : (List (List Int))), cEssR.A.wf (t, ()) → ∀ (Λ1 : Int → (List Int) → Prop) (Λ2 : (List Int) → Int → Int → (List Int) → Prop), (∀ (r_1 : Int) (out_1 : (List Int)), cEssR_1 Λ1 Λ2 t (if validT t = 0 then essT t else []) (validT t) r_1 out_1 → Λ1 r_1 out_1) → (∀ (out_1 : (List Int)) (r_1 : Int) (i_2 : Int) (others_2 : (List Int)), cEssR_2 Λ1 Λ2 t (if validT t = 0 then essT t else []) (validT t) out_1 r_1 i_2 others_2 → Λ2 out_1 r_1 i_2 others_2) → cEssR_0 Λ1 Λ2 t (if validT t = 0 then essT t else []) (validT t)) : ConOK Go.Proofs.Try.prog 23 cEssR := by
  refine lawL (Γ := [(71, cMet8r), (61, cOpen8r), (36, cVal8r)]) (Θ := Th) (n := 46) [([1, 1, 1, 1, 0, 1, 0], ⟨[(0, false), (5, true), (6, true)], [(5, true)]⟩), ([1, 1, 1, 1, 0, 1, 0, 0, 1, 0, 0, 1, 0, 1, 0], ⟨[(0, false), (5, true), (6, true), (7, true), (8, true)], [(5, true), (7, true)]⟩)] ⟨cMet8r_ok, cOpen8r_ok, cVal8r_ok, trivial⟩ (by kernel_rfl) th_ok mix_ok Go.Proofs.Try.func23 (by kernel_rfl) ?_
  intro x hw hp Λ hC
  have h0 := h x.1 hw (fun r_1 out_1 => Λ [1, 1, 1, 1, 0, 1, 0] ([(0, .d false (.sl (.sl .int)) x.1), (5, .own 5 0), (6, .d true .int r_1)], [(5, .sl true .int out_1)])) (fun out_1 r_1 i_2 others_2 => Λ [1, 1, 1, 1, 0, 1, 0, 0, 1, 0, 0, 1, 0, 1, 0] ([(0, .d false (.sl (.sl .int)) x.1), (5, .own 5 0), (6, .d true .int r_1), (7, .own 7 0), (8, .d true .int i_2)], [(5, .sl true .int out_1), (7, .sl true .int others_2)])) (fun r_1 out_1 hb => hC [1, 1, 1, 1, 0, 1, 0] ([(0, .d false (.sl (.sl .int)) x.1), (5, .own 5 0), (6, .d true .int r_1)], [(5, .sl true .int out_1)]) (Eq.mpr (by kernel_rfl) hb)) (fun out_1 r_1 i_2 others_2 hb => hC [1, 1, 1, 1, 0, 1, 0, 0, 1, 0, 0, 1, 0, 1, 0] ([(0, .d false (.sl (.sl .int)) x.1), (5, .own 5 0), (6, .d true .int r_1), (7, .own 7 0), (8, .d true .int i_2)], [(5, .sl true .int out_1), (7, .sl true .int others_2)]) (Eq.mpr (by kernel_rfl) hb))
  exact Eq.mpr (by kernel_rfl) h0
theorem cEssR_ok : ConOK Go.Proofs.Try.prog 23 cEssR := by
  refine cEssR_law ?_
  intro t hw Λ1 Λ2 h1 h2
  unfold cEssR_0
  refine ⟨trivial, ?_⟩
  by_cases h0 : validT t = 0
  · rw [if_neg (by simp [h0])]
    rw [if_pos h0, h0] at h1 h2
    have ht := validT_ok.1 h0
    have h8 := ht.1
    refine upto (n := t.length) (Q := fun k => Λ1 k (essK t k)) ?_ ?_ 0 (Nat.zero_le _)
    · apply h1; unfold cEssR_1
      rw [if_neg (by simp)]
      exact ⟨rfl, rfl⟩
    · intro k hk ih
      apply h1; unfold cEssR_1
      rw [if_pos (by simpa using hk)]
      have hin : inI ((k : Int) + 1) := by unfold inI; omega
      have hel := filt_nums_len (fun r => !coverB t (others t r)) k
      unfold essK at ih
      rw [filt_nums_succ] at ih
      change (essK t k).length ≤ k at hel
      refine upto (n := t.length) (Q := fun i => Λ2 (essK t k) (k : Int) (i : Int) (othK k i)) ?_ ?_ 0 (Nat.zero_le _)
      · apply h2; unfold cEssR_2
        rw [if_neg (by simp)]
        have hoth : inT t (othK k t.length) := nums_filter_in t _
        have hol := filt_nums_len (fun i => !(i == (k : Int))) t.length
        change (othK k t.length).length ≤ _ at hol
        have hcov := cover_lt hoth
        have ih2 : Λ1 ((k : Int) + 1) (if (!coverB t (othK k t.length)) = true then essK t k ++ [(k : Int)] else essK t k) := ih
        rw [hcov] at ih2
        have hap : (essK t k).length + 1 ≤ 4294967296 := by omega
        have hol2 : (othK (↑k) t.length).length ≤ 1000000 := by omega
        refine ⟨⟨ht, hoth, hol2⟩, ht, ?_⟩
        generalize (metL t (othK (↑k) t.length)).length = x at ih2 ⊢
        generalize (openL t).length = y at ih2 ⊢
        by_cases hxy : x < y
        · rw [if_pos (by simpa using hxy)]
          rw [if_pos (by simpa using hxy)] at ih2
          exact ⟨hap, hin, ih2⟩
        · rw [if_neg (by simpa using hxy)]
          rw [if_neg (by simpa using hxy)] at ih2
          exact ⟨hin, ih2⟩
      · intro i hi ihi
        apply h2; unfold cEssR_2
        rw [if_pos (by simpa using hi)]
        have hs : othK k (i + 1) = if (!((i : Int) == (k : Int))) = true then othK k i ++ [(i : Int)] else othK k i := by
          unfold othK
          rw [filt_nums_succ]
        rw [hs] at ihi
        have hol := filt_nums_len (fun i => !(i == (k : Int))) i
        change (othK k i).length ≤ i at hol
        have hin2 : inI ((i : Int) + 1) := by unfold inI; omega
        by_cases e : (i : Int) = (k : Int)
        · rw [if_neg (by simp [e])]
          rw [if_neg (by simp [e])] at ihi
          exact ⟨hin2, ihi⟩
        · rw [if_pos (by simpa using e)]
          rw [if_pos (by simpa using e)] at ihi
          exact ⟨by simp; omega, hin2, ihi⟩
  · rw [if_pos (by simp [h0]), if_neg h0]
    exact ⟨rfl, rfl⟩
abbrev cNeedR : Con := { A := (.cons (.sl (.sl .int)) .nil), R := (.cons (.osl .int) (.cons .int .nil)), pre := fun x => True, F := fun x => ((if validT x.1 = 0 then needT x.1 else []), validT x.1, ()) }
def cNeedR_0 (Λ1 : Int → (List Int) → Prop) (Λ2 : (List Int) → Int → Int → Prop) (Λ3 : Int → (List Int) → Int → Int → Int → Int → Prop) (Λ4 : Int → Int → Int → (List Int) → Int → Int → Prop) (t : (List (List Int))) (y0 : (List Int)) (y1 : Int) : Prop :=
  True ∧ (if ((validT t) != (0 : Int)) = true then ((validT t) = y1 ∧ ([] : List Int) = y0) else Λ1 (0 : Int) ([] : List Int))
def cNeedR_1 (Λ1 : Int → (List Int) → Prop) (Λ2 : (List Int) → Int → Int → Prop) (Λ3 : Int → (List Int) → Int → Int → Int → Int → Prop) (Λ4 : Int → Int → Int → (List Int) → Int → Int → Prop) (t : (List (List Int))) (y0 : (List Int)) (y1 : Int)  (r_1 : Int) (out_1 : (List Int)) : Prop :=
  if (decide (r_1 < (List.length t : Int))) = true then Λ2 out_1 r_1 (0 : Int) else ((0 : Int) = y1 ∧ out_1 = y0)
def cNeedR_2 (Λ1 : Int → (List Int) → Prop) (Λ2 : (List Int) → Int → Int → Prop) (Λ3 : Int → (List Int) → Int → Int → Int → Int → Prop) (Λ4 : Int → Int → Int → (List Int) → Int → Int → Prop) (t : (List (List Int))) (y0 : (List Int)) (y1 : Int) (out_1 : (List Int)) (r_1 : Int) (i_2 : Int) : Prop :=
  if (decide (i_2 < (List.length t : Int))) = true then (if (i_2 == r_1) = true then (inI (i_2 + (1 : Int)) ∧ Λ2 out_1 r_1 (i_2 + (1 : Int))) else Λ3 i_2 out_1 r_1 (0 : Int) (0 : Int) (0 : Int)) else (inI (r_1 + (1 : Int)) ∧ Λ1 (r_1 + (1 : Int)) out_1)
def cNeedR_3 (Λ1 : Int → (List Int) → Prop) (Λ2 : (List Int) → Int → Int → Prop) (Λ3 : Int → (List Int) → Int → Int → Int → Int → Prop) (Λ4 : Int → Int → Int → (List Int) → Int → Int → Prop) (t : (List (List Int))) (y0 : (List Int)) (y1 : Int) (i_2 : Int) (out_1 : (List Int)) (r_1 : Int) (more_3 : Int) (less_3 : Int) (g_3 : Int) : Prop :=
  True ∧ (if (decide (g_3 < ((goals8 t : Int)))) = true then (idx i_2 (List.length t : Int) ∧ (idx g_3 (List.length (List.getD t (Int.toNat i_2) ([] : List Int)) : Int) ∧ (idx r_1 (List.length t : Int) ∧ (idx g_3 (List.length (List.getD t (Int.toNat r_1) ([] : List Int)) : Int) ∧ (if (decide ((List.getD (List.getD t (Int.toNat i_2) ([] : List Int)) (Int.toNat g_3) 0) > (List.getD (List.getD t (Int.toNat r_1) ([] : List Int)) (Int.toNat g_3) 0))) = true then (inI (more_3 + (1 : Int)) ∧ Λ4 g_3 i_2 less_3 out_1 r_1 (more_3 + (1 : Int))) else Λ4 g_3 i_2 less_3 out_1 r_1 more_3))))) else (if (less_3 == (0 : Int)) = true then (if (decide (more_3 > (0 : Int))) = true then (true = true ∧ (True ∧ (if (bif true then true else false) = true then (List.length out_1 + List.length [r_1] ≤ 4294967296 ∧ (inI (r_1 + (1 : Int)) ∧ Λ1 (r_1 + (1 : Int)) (out_1 ++ [r_1]))) else (inI (i_2 + (1 : Int)) ∧ Λ2 out_1 r_1 (i_2 + (1 : Int)))))) else (True ∧ (True ∧ (if (bif true then (bif false then true else (decide (i_2 < r_1))) else false) = true then (List.length out_1 + List.length [r_1] ≤ 4294967296 ∧ (inI (r_1 + (1 : Int)) ∧ Λ1 (r_1 + (1 : Int)) (out_1 ++ [r_1]))) else (inI (i_2 + (1 : Int)) ∧ Λ2 out_1 r_1 (i_2 + (1 : Int))))))) else (false = false ∧ (inI (i_2 + (1 : Int)) ∧ Λ2 out_1 r_1 (i_2 + (1 : Int))))))
def cNeedR_4 (Λ1 : Int → (List Int) → Prop) (Λ2 : (List Int) → Int → Int → Prop) (Λ3 : Int → (List Int) → Int → Int → Int → Int → Prop) (Λ4 : Int → Int → Int → (List Int) → Int → Int → Prop) (t : (List (List Int))) (y0 : (List Int)) (y1 : Int) (g_3 : Int) (i_2 : Int) (less_3 : Int) (out_1 : (List Int)) (r_1 : Int) (more_4 : Int) : Prop :=
  idx i_2 (List.length t : Int) ∧ (idx g_3 (List.length (List.getD t (Int.toNat i_2) ([] : List Int)) : Int) ∧ (idx r_1 (List.length t : Int) ∧ (idx g_3 (List.length (List.getD t (Int.toNat r_1) ([] : List Int)) : Int) ∧ (if (decide ((List.getD (List.getD t (Int.toNat i_2) ([] : List Int)) (Int.toNat g_3) 0) < (List.getD (List.getD t (Int.toNat r_1) ([] : List Int)) (Int.toNat g_3) 0))) = true then (inI (less_3 + (1 : Int)) ∧ (inI (g_3 + (1 : Int)) ∧ Λ3 i_2 out_1 r_1 more_4 (less_3 + (1 : Int)) (g_3 + (1 : Int)))) else (inI (g_3 + (1 : Int)) ∧ Λ3 i_2 out_1 r_1 more_4 less_3 (g_3 + (1 : Int)))))))
theorem cNeedR_law (h : ∀ (t : (List (List Int))), cNeedR.A.wf (t, ()) → ∀ (Λ1 : Int → (List Int) → Prop) (Λ2 : (List Int) → Int → Int → Prop) (Λ3 : Int → (List Int) → Int → Int → Int → Int → Prop) (Λ4 : Int → Int → Int → (List Int) → Int → Int → Prop), (∀ (r_1 : Int) (out_1 : (List Int)), cNeedR_1 Λ1 Λ2 Λ3 Λ4 t (if validT t = 0 then needT t else []) (validT t) r_1 out_1 → Λ1 r_1 out_1) → (∀ (out_1 : (List Int)) (r_1 : Int) (i_2 : Int), cNeedR_2 Λ1 Λ2 Λ3 Λ4 t (if validT t = 0 then needT t else []) (validT t) out_1 r_1 i_2 → Λ2 out_1 r_1 i_2) → (∀ (i_2 : Int) (out_1 : (List Int)) (r_1 : Int) (more_3 : Int) (less_3 : Int) (g_3 : Int), cNeedR_3 Λ1 Λ2 Λ3 Λ4 t (if validT t = 0 then needT t else []) (validT t) i_2 out_1 r_1 more_3 less_3 g_3 → Λ3 i_2 out_1 r_1 more_3 less_3 g_3) → (∀ (g_3 : Int) (i_2 : Int) (less_3 : Int) (out_1 : (List Int)) (r_1 : Int) (more_4 : Int), cNeedR_4 Λ1 Λ2 Λ3 Λ4 t (if validT t = 0 then needT t else []) (validT t) g_3 i_2 less_3 out_1 r_1 more_4 → Λ4 g_3 i_2 less_3 out_1 r_1 more_4) → cNeedR_0 Λ1 Λ2 Λ3 Λ4 t (if validT t = 0 then needT t else []) (validT t)) : ConOK Go.Proofs.Try.prog 25 cNeedR := by
  refine lawL (Γ := [(62, cGoals8r), (36, cVal8r)]) (Θ := Th) (n := 87) [([1, 1, 1, 1, 0, 1, 0], ⟨[(0, false), (5, true), (6, true)], [(5, true)]⟩), ([1, 1, 1, 1, 0, 1, 0, 0, 1, 0, 0, 1, 0], ⟨[(0, false), (5, true), (6, true), (7, true)], [(5, true)]⟩), ([1, 1, 1, 1, 0, 1, 0, 0, 1, 0, 0, 1, 0, 0, 1, 0, 0, 1, 1, 0, 1, 0], ⟨[(0, false), (5, true), (6, true), (7, true), (8, true), (9, true), (10, true)], [(5, true)]⟩), ([1, 1, 1, 1, 0, 1, 0, 0, 1, 0, 0, 1, 0, 0, 1, 0, 0, 1, 1, 0, 1, 0, 0, 1, 0, 0, 2], ⟨[(0, false), (5, true), (6, true), (7, true), (8, true), (9, true), (10, true)], [(5, true)]⟩)] ⟨cGoals8r_ok, cVal8r_ok, trivial⟩ (by kernel_rfl) th_ok mix_ok Go.Proofs.Try.func25 (by kernel_rfl) ?_
  intro x hw hp Λ hC
  have h0 := h x.1 hw (fun r_1 out_1 => Λ [1, 1, 1, 1, 0, 1, 0] ([(0, .d false (.sl (.sl .int)) x.1), (5, .own 5 0), (6, .d true .int r_1)], [(5, .sl true .int out_1)])) (fun out_1 r_1 i_2 => Λ [1, 1, 1, 1, 0, 1, 0, 0, 1, 0, 0, 1, 0] ([(0, .d false (.sl (.sl .int)) x.1), (5, .own 5 0), (6, .d true .int r_1), (7, .d true .int i_2)], [(5, .sl true .int out_1)])) (fun i_2 out_1 r_1 more_3 less_3 g_3 => Λ [1, 1, 1, 1, 0, 1, 0, 0, 1, 0, 0, 1, 0, 0, 1, 0, 0, 1, 1, 0, 1, 0] ([(0, .d false (.sl (.sl .int)) x.1), (5, .own 5 0), (6, .d true .int r_1), (7, .d true .int i_2), (8, .d true .int more_3), (9, .d true .int less_3), (10, .d true .int g_3)], [(5, .sl true .int out_1)])) (fun g_3 i_2 less_3 out_1 r_1 more_4 => Λ [1, 1, 1, 1, 0, 1, 0, 0, 1, 0, 0, 1, 0, 0, 1, 0, 0, 1, 1, 0, 1, 0, 0, 1, 0, 0, 2] ([(0, .d false (.sl (.sl .int)) x.1), (5, .own 5 0), (6, .d true .int r_1), (7, .d true .int i_2), (8, .d true .int more_4), (9, .d true .int less_3), (10, .d true .int g_3)], [(5, .sl true .int out_1)])) (fun r_1 out_1 hb => hC [1, 1, 1, 1, 0, 1, 0] ([(0, .d false (.sl (.sl .int)) x.1), (5, .own 5 0), (6, .d true .int r_1)], [(5, .sl true .int out_1)]) (Eq.mpr (by kernel_rfl) hb)) (fun out_1 r_1 i_2 hb => hC [1, 1, 1, 1, 0, 1, 0, 0, 1, 0, 0, 1, 0] ([(0, .d false (.sl (.sl .int)) x.1), (5, .own 5 0), (6, .d true .int r_1), (7, .d true .int i_2)], [(5, .sl true .int out_1)]) (Eq.mpr (by kernel_rfl) hb)) (fun i_2 out_1 r_1 more_3 less_3 g_3 hb => hC [1, 1, 1, 1, 0, 1, 0, 0, 1, 0, 0, 1, 0, 0, 1, 0, 0, 1, 1, 0, 1, 0] ([(0, .d false (.sl (.sl .int)) x.1), (5, .own 5 0), (6, .d true .int r_1), (7, .d true .int i_2), (8, .d true .int more_3), (9, .d true .int less_3), (10, .d true .int g_3)], [(5, .sl true .int out_1)]) (Eq.mpr (by kernel_rfl) hb)) (fun g_3 i_2 less_3 out_1 r_1 more_4 hb => hC [1, 1, 1, 1, 0, 1, 0, 0, 1, 0, 0, 1, 0, 0, 1, 0, 0, 1, 1, 0, 1, 0, 0, 1, 0, 0, 2] ([(0, .d false (.sl (.sl .int)) x.1), (5, .own 5 0), (6, .d true .int r_1), (7, .d true .int i_2), (8, .d true .int more_4), (9, .d true .int less_3), (10, .d true .int g_3)], [(5, .sl true .int out_1)]) (Eq.mpr (by kernel_rfl) hb))
  exact Eq.mpr (by kernel_rfl) h0
theorem cNeedR_ok : ConOK Go.Proofs.Try.prog 25 cNeedR := by
  refine cNeedR_law ?_
  intro t hw Λ1 Λ2 Λ3 Λ4 h1 h2 h3 h4
  unfold cNeedR_0
  refine ⟨trivial, ?_⟩
  by_cases h0 : validT t = 0
  · rw [if_neg (by simp [h0])]
    rw [if_pos h0, h0] at h1 h2 h3 h4
    have ht := validT_ok.1 h0
    have h8 := ht.1
    have hg10 := ht.2.1
    refine upto (n := t.length) (Q := fun k => Λ1 k (needK t k)) ?_ ?_ 0 (Nat.zero_le _)
    · apply h1; unfold cNeedR_1
      rw [if_neg (by simp)]
      exact ⟨rfl, rfl⟩
    · intro k hk ih
      apply h1; unfold cNeedR_1
      rw [if_pos (by simpa using hk)]
      have hin : inI ((k : Int) + 1) := by unfold inI; omega
      have hel := filt_nums_len (fun r => (nums t.length).any fun k => beatsB t k r) k
      unfold needK at ih
      rw [filt_nums_succ] at ih
      change (needK t k).length ≤ k at hel
      have hyes : (∃ i, i < t.length ∧ beatsB t (i : Int) k = true) → Λ1 ((k : Int) + 1) (needK t k ++ [(k : Int)]) := by
        rintro ⟨i, hi, hb⟩
        have hany : ((nums t.length).any fun q => beatsB t q (k : Int)) = true := List.any_eq_true.2 ⟨(i : Int), nums_mem.2 ⟨by omega, by omega⟩, hb⟩
        rw [if_pos hany] at ih
        exact ih
      have hno : (∀ i, i < t.length → beatsB t (i : Int) k = false) → Λ1 ((k : Int) + 1) (needK t k) := by
        intro hall
        have hany : ¬ ((nums t.length).any fun q => beatsB t q (k : Int)) = true := by
          rw [Bool.not_eq_true, List.any_eq_false]
          intro r hr
          have := nums_mem.1 hr
          have h2 := hall r.toNat (by omega)
          rw [show ((r.toNat : Nat) : Int) = r by omega] at h2
          rw [h2]; simp
        rw [if_neg hany] at ih
        exact ih
      have hkT : (0 : Int) ≤ k ∧ (k : Int) < t.length := ⟨by omega, by omega⟩
      have hrk := okT_row ht hk
      refine upto (n := t.length) (Q := fun i => (∀ j, j < i → beatsB t (j : Int) k = false) → Λ2 (needK t k) (k : Int) (i : Int)) ?_ ?_ 0 (Nat.zero_le _) (fun j hj => by omega)
      · intro ha
        apply h2; unfold cNeedR_2
        rw [if_neg (by simp)]
        exact ⟨hin, hno ha⟩
      · intro i hi ihi ha
        apply h2; unfold cNeedR_2
        rw [if_pos (by simpa using hi)]
        have hin2 : inI ((i : Int) + 1) := by unfold inI; omega
        have hiT : (0 : Int) ≤ i ∧ (i : Int) < t.length := ⟨by omega, by omega⟩
        have hri := okT_row ht hi
        have hnx : beatsB t (i : Int) k = false → Λ2 (needK t k) (k : Int) ((i : Int) + 1) := fun h => ihi fun j hj => by
          rcases Nat.lt_or_ge j i with q | q
          · exact ha j q
          · obtain rfl : j = i := by omega
            exact h
        by_cases e : (i : Int) = (k : Int)
        · rw [if_pos (by simpa using e)]
          exact ⟨hin2, hnx (by unfold beatsB; simp [e])⟩
        · rw [if_neg (by simpa using e)]
          have hbe := beats_eq ht hiT hkT
          rw [show (!((i : Int) == (k : Int))) = true by simpa using e, Bool.true_and] at hbe
          refine upto (n := goals8 t) (Q := fun g => Λ3 (i : Int) (needK t k) (k : Int) ((cntM t i k g : Nat) : Int) ((cntL t i k g : Nat) : Int) (g : Int)) ?_ ?_ 0 (Nat.zero_le _)
          · apply h3; unfold cNeedR_3
            refine ⟨trivial, ?_⟩
            rw [if_neg (by simp)]
            generalize cntM t i k (goals8 t) = M at hbe ⊢
            generalize cntL t i k (goals8 t) = L at hbe ⊢
            have hap : (needK t k).length + 1 ≤ 4294967296 := by omega
            by_cases l0 : L = 0
            · rw [if_pos (by simpa using l0)]
              by_cases m0 : M > 0
              · rw [if_pos (by simpa using m0)]
                refine ⟨rfl, trivial, ?_⟩
                rw [if_pos (by rfl)]
                exact ⟨hap, hin, hyes ⟨i, hi, by rw [hbe]; simp [l0, m0]⟩⟩
              · rw [if_neg (by simpa using m0)]
                refine ⟨trivial, trivial, ?_⟩
                by_cases lt : (i : Int) < (k : Int)
                · rw [if_pos (by simpa using lt)]
                  exact ⟨hap, hin, hyes ⟨i, hi, by rw [hbe]; simp [l0, m0]; omega⟩⟩
                · rw [if_neg (by simpa using lt)]
                  exact ⟨hin2, hnx (by rw [hbe]; simp [l0, m0]; omega)⟩
            · rw [if_neg (by simpa using l0)]
              exact ⟨rfl, hin2, hnx (by rw [hbe]; simp [l0])⟩
          · intro g hg ihg
            rw [cntM_succ, cntL_succ] at ihg
            have hM := cntM_le t i k g
            have hL := cntL_le t i k g
            have hing : inI ((g : Int) + 1) := by unfold inI; omega
            have gi : idx (g : Int) ((t.getD i []).length : Int) := ⟨by omega, by omega⟩
            have gk : idx (g : Int) ((t.getD k []).length : Int) := ⟨by omega, by omega⟩
            have ei : valT t i g = (t.getD i []).getD g 0 := by unfold valT; rw [Int.toNat_natCast]
            have ek : valT t k g = (t.getD k []).getD g 0 := by unfold valT; rw [Int.toNat_natCast]
            rw [ei, ek] at ihg
            have h4' : ∀ M : Int, (((t.getD i []).getD g 0 < (t.getD k []).getD g 0 → Λ3 (i : Int) (needK t k) (k : Int) M ((cntL t i k g : Nat) + 1 : Int) ((g : Int) + 1)) ∧ (¬ (t.getD i []).getD g 0 < (t.getD k []).getD g 0 → Λ3 (i : Int) (needK t k) (k : Int) M ((cntL t i k g : Nat) : Int) ((g : Int) + 1))) → Λ4 (g : Int) (i : Int) ((cntL t i k g : Nat) : Int) (needK t k) (k : Int) M := by
              intro M hM
              apply h4; unfold cNeedR_4
              rw [Int.toNat_natCast, Int.toNat_natCast, Int.toNat_natCast]
              refine ⟨idx_nat hi, gi, idx_nat hk, gk, ?_⟩
              by_cases lt : (t.getD i []).getD g 0 < (t.getD k []).getD g 0
              · rw [if_pos (by simpa using lt)]
                exact ⟨by unfold inI; omega, hing, hM.1 lt⟩
              · rw [if_neg (by simpa using lt)]
                exact ⟨hing, hM.2 lt⟩
            apply h3; unfold cNeedR_3
            refine ⟨trivial, ?_⟩
            rw [if_pos (by simpa using hg), Int.toNat_natCast, Int.toNat_natCast, Int.toNat_natCast]
            refine ⟨idx_nat hi, gi, idx_nat hk, gk, ?_⟩
            by_cases gt : (t.getD i []).getD g 0 > (t.getD k []).getD g 0
            · rw [if_pos (by simpa using gt)]
              rw [if_pos gt, if_neg (by omega)] at ihg
              exact ⟨by unfold inI; omega, h4' _ ⟨fun lt => absurd lt (by omega), fun _ => ihg⟩⟩
            · rw [if_neg (by simpa using gt)]
              rw [if_neg gt] at ihg
              refine h4' _ ⟨fun lt => ?_, fun lt => ?_⟩
              · rw [if_pos lt] at ihg; exact ihg
              · rw [if_neg lt] at ihg; exact ihg
  · rw [if_pos (by simp [h0]), if_neg h0]
    exact ⟨rfl, rfl⟩
abbrev cEssentialsL : Con := { A := (.cons (.sl (.sl .int)) .nil), R := (.cons .bool .nil), pre := fun x => True, F := fun x => (true, ()) }
def cEssentialsL_0 (Λ1 : Int → Prop) (t : (List (List Int))) (y0 : Bool) : Prop :=
  True ∧ (if (longT t) = true then (True ∧ (true = y0 ∧ True)) else (True ∧ (True ∧ (True ∧ (True ∧ (True ∧ (if (!(decide (((if validT t = 0 then essT t else [])) = ((if validT t = 0 then essT t else []))))) = true then (true = true ∧ (true = true ∧ (true = true ∧ (false = y0 ∧ True)))) else (True ∧ (if (bif false then true else ((validT t) != (validT t))) = true then (true = true ∧ (true = true ∧ (false = y0 ∧ True))) else (True ∧ (True ∧ (if (bif false then true else (!(decide (((if validT t = 0 then needT t else [])) = ((if validT t = 0 then needT t else [])))))) = true then (true = true ∧ (false = y0 ∧ True)) else (True ∧ (if (bif false then true else ((validT t) != (validT t))) = true then (false = y0 ∧ True) else Λ1 (0 : Int)))))))))))))))
def cEssentialsL_1 (Λ1 : Int → Prop) (t : (List (List Int))) (y0 : Bool)  (i_1 : Int) : Prop :=
  if (decide (i_1 < (List.length ((if validT t = 0 then essT t else [])) : Int))) = true then (idx i_1 (List.length ((if validT t = 0 then essT t else [])) : Int) ∧ (True ∧ (if (decide ((List.getD ((if validT t = 0 then essT t else [])) (Int.toNat i_1) 0) ∈ ((if validT t = 0 then needT t else [])))) = true then (false = y0 ∧ True) else (inI (i_1 + (1 : Int)) ∧ Λ1 (i_1 + (1 : Int)))))) else (True ∧ (true = y0 ∧ True))
theorem cEssentialsL_law (h : ∀ (t : (List (List Int))), cEssentialsL.A.wf (t, ()) → ∀ (Λ1 : Int → Prop), (∀ (i_1 : Int), cEssentialsL_1 Λ1 t true i_1 → Λ1 i_1) → cEssentialsL_0 Λ1 t true) : ConOK Go.Proofs.Try.prog 4 cEssentialsL := by
  refine lawL (Γ := [(23, cEssR), (22, cEssential), (26, cHasL8), (17, cLong8), (25, cNeedR), (24, cNeedless), (21, cSameI8), (18, cSane8)]) (Θ := Th) (n := 68) [([1, 1, 1, 1, 1, 1, 1, 0, 1, 0], ⟨[(3, true), (7, true), (11, true)], [(17, true), (27, true)]⟩)] ⟨cEssR_ok, cEssential_ok, cHasL8_ok, cLong8_ok, cNeedR_ok, cNeedless_ok, cSameI8_ok, cSane8_ok, trivial⟩ (by kernel_rfl) th_ok mix_ok Go.Proofs.Try.func4 (by kernel_rfl) ?_
  intro x hw hp Λ hC
  have h0 := h x.1 hw (fun i_1 => Λ [1, 1, 1, 1, 1, 1, 1, 0, 1, 0] ([(3, .own 17 0), (7, .own 27 0), (11, .d true .int i_1)], [(17, .sl true .int ((if validT x.1 = 0 then essT x.1 else []))), (27, .sl true .int ((if validT x.1 = 0 then needT x.1 else [])))])) (fun i_1 hb => hC [1, 1, 1, 1, 1, 1, 1, 0, 1, 0] ([(3, .own 17 0), (7, .own 27 0), (11, .d true .int i_1)], [(17, .sl true .int ((if validT x.1 = 0 then essT x.1 else []))), (27, .sl true .int ((if validT x.1 = 0 then needT x.1 else [])))]) (Eq.mpr (by kernel_rfl) hb))
  exact Eq.mpr (by kernel_rfl) h0
theorem cEssentialsL_ok : ConOK Go.Proofs.Try.prog 4 cEssentialsL := by
  refine cEssentialsL_law ?_
  intro t hw Λ1 h1
  unfold cEssentialsL_0
  refine ⟨trivial, ?_⟩
  cases hL : longT t
  · rw [if_neg (by simp)]
    refine ⟨trivial, trivial, trivial, trivial, trivial, ?_⟩
    rw [if_neg (by simp)]
    refine ⟨trivial, ?_⟩
    rw [if_neg (by simp)]
    refine ⟨trivial, trivial, ?_⟩
    rw [if_neg (by simp)]
    refine ⟨trivial, ?_⟩
    rw [if_neg (by simp)]
    have hlen : ((if validT t = 0 then essT t else []) : List Int).length ≤ 50 := by
      split
      · have := filt_nums_len (fun r => !coverB t (others t r)) t.length
        have h50 := (longT_no hL).1
        show (essT t).length ≤ 50
        unfold essT
        omega
      · simp
    have hdis : ∀ r, r ∈ ((if validT t = 0 then essT t else []) : List Int) → ¬ r ∈ ((if validT t = 0 then needT t else []) : List Int) := by
      intro r hr
      split at hr
      · rename_i h; rw [if_pos h]; exact ess_not_need hr
      · simp at hr
    refine upto (n := ((if validT t = 0 then essT t else []) : List Int).length) (Q := fun i => Λ1 i) ?_ ?_ 0 (Nat.zero_le _)
    · apply h1; unfold cEssentialsL_1
      rw [if_neg (by simp)]
      exact ⟨trivial, rfl, trivial⟩
    · intro i hi ih
      apply h1; unfold cEssentialsL_1
      rw [if_pos (by simpa using hi), Int.toNat_natCast]
      have hd := hdis _ (mem_getD (d := 0) hi)
      refine ⟨idx_nat hi, trivial, ?_⟩
      rw [if_neg (by rw [decide_eq_true_eq]; exact hd)]
      exact ⟨by unfold inI; omega, ih⟩
  · rw [if_pos rfl]
    exact ⟨trivial, rfl, trivial⟩
end Go.Tk
